/-
  The functions that the statement reaches, as plain functions; each with its contract.
-/
import Derived.Test.YthgnllgpdheidaaGreatDoorXLift
import Derived.Test.YthgnllgpdheidaaGreatDoorChecked
import Derived.KernelRfl
import Derived.Test.YthgnllgpdheidaaGreatDoorTBase
import Derived.Test.YthgnllgpdheidaaGreatDoorTWalkI
import Derived.Test.YthgnllgpdheidaaGreatDoorTWalkJ
import Derived.Test.YthgnllgpdheidaaGreatDoorTPut
namespace Go.Proofs.YthgnllgpdheidaaGreatDoor.Sh
open Go Go.Ab Go.Proofs
set_option maxRecDepth 100000
abbrev TGerrorAddressString : Ty := .pair .str (.pair (.int .u64) .unit)
abbrev GerrorAddressString : Type := Bytes × Int × Unit
abbrev TGDeskMove : Ty := .pair (.int .i64) (.pair (.int .i64) (.pair (.int .i64) .unit))
abbrev GDeskMove : Type := Int × Int × Int × Unit
abbrev TGl1Cur : Ty := .pair (.slice (.int .u8)) (.pair (.int .i64) (.pair (.int .u64) .unit))
abbrev Gl1Cur : Type := (List Int) × Int × Int × Unit
abbrev TGboundsError : Ty := .pair (.int .i64) (.pair (.int .i64) (.pair .bool (.pair (.int .u8) .unit)))
abbrev GboundsError : Type := Int × Int × Bool × Int × Unit
abbrev TGTicket : Ty := .pair (.int .i64) (.pair (.int .i64) (.pair (.slice (.int .i64)) (.pair (.int .i64) .unit)))
abbrev GTicket : Type := Int × Int × (List Int) × Int × Unit
theorem mixedOk : Tryz.prog.follows .mixedOrders = true := by kernel_rfl
/-- (*spec.l1Cur).next -/
noncomputable def s_l1Cur_next (p_c : Gl1Cur) : Option (Gl1Cur × Int) :=
  (bif (decide (p_c.2.1 < (p_c.1.length : Int))) then
      (idx p_c.1 p_c.2.1).bind fun e1 =>
      some (p_c.1, p_c.2.1, p_c.2.2.1, (w64 e1))
    else
      some (p_c.1, p_c.2.1, p_c.2.2.1, 0)).bind fun j2 =>
  bif (decide ((w64 (j2.2.1 + 1)) ≤ (j2.1.length : Int))) then
    some ((j2.1, (w64 (j2.2.1 + 1)), (IntKind.u64.wrap ((IntKind.u64.wrap ((IntKind.u64.wrap (j2.2.2.1 * 6364136223846793005)) + (IntKind.u64.wrap j2.2.2.2))) + 1442695040888963407)), ()), j2.2.2.2)
  else
    some ((j2.1, (w64 (j2.2.1 + 1)), (IntKind.u64.wrap ((IntKind.u64.wrap ((IntKind.u64.wrap (j2.2.2.1 * 6364136223846793005)) + (IntKind.u64.wrap j2.2.2.2))) + 1442695040888963407)), ()), (w64 (bitsI .and .u64 (shiftI .shr .u64 (IntKind.u64.wrap ((IntKind.u64.wrap ((IntKind.u64.wrap (j2.2.2.1 * 6364136223846793005)) + (IntKind.u64.wrap j2.2.2.2))) + 1442695040888963407)) 40) 255)))
noncomputable def C62 : FnSpec := { ps := [.mbox TGl1Cur], rs := [.val (.int .i64)], fn := fun x => s_l1Cur_next x }
noncomputable def E62 : Env := { T := [(3, (.int .i64)), (5, (.int .u8)), (22, (.slice (.int .u8))), (57, (.int .u64)), (59, TGl1Cur)], G := [], ro := [], loops := [], joins := [(4, { keep := [], live := [], outs := [(.normal, [.bx 0 100000 [.pv (.slice (.int .u8)), .pv (.int .i64), .pv (.int .u64)], .tv 3 (.int .i64)])] })] }
theorem E62_eq : ∀ x, afun E62 Tryz.f62 C62.ps C62.rs x = C62.fn x := fun x => by kernel_rfl
theorem S62 : Sound Tryz.prog 62 C62 := fun_sound_box (E := E62) ⟨good_T (by kernel_rfl), good_nil, mixedOk, ins_nil⟩ Tryz.func62 rfl E62_eq
/-- (*spec.l1Cur).pick -/
noncomputable def s_l1Cur_pick (p_c : Gl1Cur) (p_n : Int) : Option (Gl1Cur × Int) :=
  bif (decide (p_n ≤ 1)) then
    some (p_c, 0)
  else
    (s_l1Cur_next p_c).bind fun r1 =>
    bif (decide (200 < p_n)) then
      (s_l1Cur_next r1.1).bind fun r2 =>
      bif (!decide (p_n = 0)) then
        some (r2.1, (Int.tmod (w64 ((w64 (r1.2 * 256)) + r2.2)) p_n))
      else
        none
    else
      bif (!decide (p_n = 0)) then
        some (r1.1, (Int.tmod r1.2 p_n))
      else
        none
noncomputable def C40 : FnSpec := { ps := [.mbox TGl1Cur, .val (.int .i64)], rs := [.val (.int .i64)], fn := fun x => s_l1Cur_pick x.1 x.2 }
noncomputable def E40 : Env := { T := [], G := [(62, C62)], ro := [], loops := [], joins := [] }
theorem E40_eq : ∀ x, afun E40 Tryz.f40 C40.ps C40.rs x = C40.fn x := fun x => by kernel_rfl
theorem S40 : Sound Tryz.prog 40 C40 := fun_sound_box (E := E40) ⟨good_T (by kernel_rfl), (good_cons S62 ⟨_, Tryz.func62, by kernel_rfl, by kernel_rfl⟩ good_nil), mixedOk, ins_nil⟩ Tryz.func40 rfl E40_eq
/-- (*spec.l1Cur).among -/
noncomputable def s_l1Cur_among (p_c : Gl1Cur) (p_list : List Int) : Option (Gl1Cur × Int) :=
  (s_l1Cur_pick p_c (p_list.length : Int)).bind fun r1 =>
  (idx p_list r1.2).bind fun e2 =>
  some (r1.1, e2)
noncomputable def C36 : FnSpec := { ps := [.mbox TGl1Cur, .val (.slice (.int .i64))], rs := [.val (.int .i64)], fn := fun x => s_l1Cur_among x.1 x.2 }
noncomputable def E36 : Env := { T := [(3, (.int .i64)), (42, (.slice (.int .i64)))], G := [(40, C40)], ro := [], loops := [], joins := [] }
theorem E36_eq : ∀ x, afun E36 Tryz.f36 C36.ps C36.rs x = C36.fn x := fun x => by kernel_rfl
theorem S36 : Sound Tryz.prog 36 C36 := fun_sound_box (E := E36) ⟨good_T (by kernel_rfl), (good_cons S40 ⟨_, Tryz.func40, by kernel_rfl, by kernel_rfl⟩ good_nil), mixedOk, ins_nil⟩ Tryz.func36 rfl E36_eq
/-- (*spec.l1Cur).one -/
noncomputable def s_l1Cur_one (p_c : Gl1Cur) (p_n : Int) : Option (Gl1Cur × Bool) :=
  (s_l1Cur_pick p_c p_n).bind fun r1 =>
  some (r1.1, (decide (r1.2 = 0)))
noncomputable def C39 : FnSpec := { ps := [.mbox TGl1Cur, .val (.int .i64)], rs := [.val .bool], fn := fun x => s_l1Cur_one x.1 x.2 }
noncomputable def E39 : Env := { T := [], G := [(40, C40)], ro := [], loops := [], joins := [] }
theorem E39_eq : ∀ x, afun E39 Tryz.f39 C39.ps C39.rs x = C39.fn x := fun x => by kernel_rfl
theorem S39 : Sound Tryz.prog 39 C39 := fun_sound_box (E := E39) ⟨good_T (by kernel_rfl), (good_cons S40 ⟨_, Tryz.func40, by kernel_rfl, by kernel_rfl⟩ good_nil), mixedOk, ins_nil⟩ Tryz.func39 rfl E39_eq
/-- (*spec.l1Cur).deskMoves -/
noncomputable def s_l1Cur_deskMoves (p_c : Gl1Cur) : Option (Gl1Cur × (List GDeskMove)) :=
  (s_l1Cur_pick p_c 16).bind fun r1 =>
  ((s_l1Cur_one r1.1 24).bind fun r2 =>
    bif r2.2 then
      (s_l1Cur_pick r2.1 2).bind fun r3 =>
      some (r3.1.1, r3.1.2.1, r3.1.2.2.1, (w64 (60 + r3.2)))
    else
      some (r2.1.1, r2.1.2.1, r2.1.2.2.1, r1.2)).bind fun j4 =>
  (loopE (fun (st6 : (List Int) × Int × Int × (List GDeskMove)) => (
      bif (decide ((st6.2.2.2.length : Int) < j4.2.2.2)) then
        (s_l1Cur_among (st6.1, st6.2.1, st6.2.2.1, ()) [1, 7, 12, 999]).bind fun r7 =>
        (s_l1Cur_pick r7.1 6).bind fun r8 =>
        bif (decide (r8.2 = 0)) then
          (s_l1Cur_pick r8.1 30).bind fun r9 =>
          (s_l1Cur_pick r9.1 4).bind fun r10 =>
          bif decide (List.length st6.2.2.2 + List.length [(1, (w64 (1 + r9.2)), (w64 (1 + r10.2)), ())] ≤ lim) then
            some (.inl (r10.1.1, r10.1.2.1, r10.1.2.2.1, (st6.2.2.2 ++ [(1, (w64 (1 + r9.2)), (w64 (1 + r10.2)), ())])))
          else
            none
        else
          bif (decide (r8.2 = 1)) then
            (s_l1Cur_pick r8.1 3).bind fun r11 =>
            bif decide (List.length st6.2.2.2 + List.length [(1, r7.2, (w64 (1 + r11.2)), ())] ≤ lim) then
              some (.inl (r11.1.1, r11.1.2.1, r11.1.2.2.1, (st6.2.2.2 ++ [(1, r7.2, (w64 (1 + r11.2)), ())])))
            else
              none
          else
            bif (decide (r8.2 = 5)) then
              (s_l1Cur_one r8.1 4).bind fun r12 =>
              bif r12.2 then
                bif decide (List.length st6.2.2.2 + List.length [(3, r7.2, 0, ())] ≤ lim) then
                  some (.inl (r12.1.1, r12.1.2.1, r12.1.2.2.1, (st6.2.2.2 ++ [(3, r7.2, 0, ())])))
                else
                  none
              else
                some (.inl (r12.1.1, r12.1.2.1, r12.1.2.2.1, st6.2.2.2))
            else
              (s_l1Cur_pick r8.1 3).bind fun r13 =>
              bif decide (List.length st6.2.2.2 + List.length [(2, r7.2, r13.2, ())] ≤ lim) then
                some (.inl (r13.1.1, r13.1.2.1, r13.1.2.2.1, (st6.2.2.2 ++ [(2, r7.2, r13.2, ())])))
              else
                none
      else
        some (.inr (st6.1, st6.2.1, st6.2.2.1, st6.2.2.2)) : Option (((List Int) × Int × Int × (List GDeskMove)) ⊕ (((List Int) × Int × Int × (List GDeskMove)))))) (j4.1, j4.2.1, j4.2.2.1, [])).bind fun o14 =>
  bif (decide (0 < j4.2.2.2)) then
    (s_l1Cur_one (o14.1, o14.2.1, o14.2.2.1, ()) 12).bind fun r15 =>
    bif r15.2 then
      (s_l1Cur_pick r15.1 j4.2.2.2).bind fun r16 =>
      (s_l1Cur_pick r16.1 5).bind fun r17 =>
      (s_l1Cur_among r17.1 [0, 1, 999, 1000]).bind fun r18 =>
      (s_l1Cur_among r18.1 [(-1), 0, 9, 10]).bind fun r19 =>
      bif decide (0 ≤ r16.2) && decide (r16.2 < (o14.2.2.2.length : Int)) then
        some (r19.1, (o14.2.2.2.set (Int.toNat r16.2) (r17.2, r18.2, r19.2, ())))
      else
        none
    else
      some (r15.1, o14.2.2.2)
  else
    bif false then
      (s_l1Cur_pick (o14.1, o14.2.1, o14.2.2.1, ()) j4.2.2.2).bind fun r20 =>
      (s_l1Cur_pick r20.1 5).bind fun r21 =>
      (s_l1Cur_among r21.1 [0, 1, 999, 1000]).bind fun r22 =>
      (s_l1Cur_among r22.1 [(-1), 0, 9, 10]).bind fun r23 =>
      bif decide (0 ≤ r20.2) && decide (r20.2 < (o14.2.2.2.length : Int)) then
        some (r23.1, (o14.2.2.2.set (Int.toNat r20.2) (r21.2, r22.2, r23.2, ())))
      else
        none
    else
      some ((o14.1, o14.2.1, o14.2.2.1, ()), o14.2.2.2)
noncomputable def C54 : FnSpec := { ps := [.mbox TGl1Cur], rs := [.own (.slice TGDeskMove)], fn := fun x => s_l1Cur_deskMoves x }
noncomputable def E54 : Env := { T := [(42, (.slice (.int .i64))), (46, (.slice TGDeskMove)), (55, TGDeskMove)], G := [(36, C36), (39, C39), (40, C40)], ro := [], loops := [(5, { keep := [4, 63, 64], live := [.bx 0 100000 [.pv (.slice (.int .u8)), .pv (.int .i64), .pv (.int .u64)], .own 3 [] 200003 TGDeskMove true], outs := [(.exit 0, [.bx 0 100000 [.pv (.slice (.int .u8)), .pv (.int .i64), .pv (.int .u64)], .own 3 [] 200003 TGDeskMove true])] })], joins := [(5, { keep := [3], live := [], outs := [(.normal, [.bx 0 100000 [.pv (.slice (.int .u8)), .pv (.int .i64), .pv (.int .u64)], .tv 4 (.int .i64)])] })], forks := [62] }
theorem E54_eq : ∀ x, afun E54 Tryz.f54 C54.ps C54.rs x = C54.fn x := fun x => by kernel_rfl
theorem S54 : Sound Tryz.prog 54 C54 := fun_sound_box (E := E54) ⟨good_T (by kernel_rfl), (good_cons S36 ⟨_, Tryz.func36, by kernel_rfl, by kernel_rfl⟩ (good_cons S39 ⟨_, Tryz.func39, by kernel_rfl, by kernel_rfl⟩ (good_cons S40 ⟨_, Tryz.func40, by kernel_rfl, by kernel_rfl⟩ good_nil))), mixedOk, ins_nil⟩ Tryz.func54 rfl E54_eq
/-- spec.l1Own -/
noncomputable def s_l1Own (p_l : List Int) : Option ((List Int)) :=
  bif decide (List.length p_l ≤ lim) then
    some p_l
  else
    none
noncomputable def C70 : FnSpec := { ps := [.val (.slice (.int .i64))], rs := [.own (.slice (.int .i64))], fn := fun x => s_l1Own x }
noncomputable def E70 : Env := { T := [(42, (.slice (.int .i64)))], G := [], ro := [], loops := [], joins := [] }
theorem E70_eq : ∀ x, afun E70 Tryz.f70 C70.ps C70.rs x = C70.fn x := fun x => by kernel_rfl
theorem S70 : Sound Tryz.prog 70 C70 := fun_sound (E := E70) ⟨good_T (by kernel_rfl), good_nil, mixedOk, ins_nil⟩ Tryz.func70 rfl E70_eq
/-- spec.dkOwn -/
noncomputable def s_dkOwn (p_l : List GTicket) : Option ((List GTicket)) :=
  (loopE (fun (st2 : (List GTicket) × Int) => (
      bif (decide (st2.2 < (p_l.length : Int))) then
        (idx p_l st2.2).bind fun e3 =>
        (s_l1Own e3.2.2.1).bind fun r4 =>
        bif decide (List.length st2.1 + List.length [(e3.1, e3.2.1, r4, e3.2.2.2)] ≤ lim) then
          some (.inl ((st2.1 ++ [(e3.1, e3.2.1, r4, e3.2.2.2)]), (w64 (st2.2 + 1))))
        else
          none
      else
        some (.inr st2.1) : Option (((List GTicket) × Int) ⊕ ((List GTicket))))) ([], 0)).bind fun o5 =>
  some o5
noncomputable def C56 : FnSpec := { ps := [.val (.slice TGTicket)], rs := [.own (.slice TGTicket)], fn := fun x => s_dkOwn x }
noncomputable def E56 : Env := { T := [(23, (.slice TGTicket)), (42, (.slice (.int .i64))), (44, TGTicket)], G := [(70, C70)], ro := [], loops := [(3, { keep := [6, 7], live := [.own 3 [] 200003 TGTicket true, .tv 8 (.int .i64)], outs := [(.exit 0, [.own 3 [] 200003 TGTicket true])] })], joins := [], mv := true }
theorem E56_eq : ∀ x, afun E56 Tryz.f56 C56.ps C56.rs x = C56.fn x := fun x => by kernel_rfl
theorem S56 : Sound Tryz.prog 56 C56 := fun_sound (E := E56) ⟨good_T (by kernel_rfl), (good_cons S70 ⟨_, Tryz.func70, by kernel_rfl, by kernel_rfl⟩ good_nil), mixedOk, ins_nil⟩ Tryz.func56 rfl E56_eq
/-- spec.l1In -/
noncomputable def s_l1In (p_n : Int) (p_lo : Int) (p_hi : Int) : Option (Bool) :=
  (bif (decide (p_lo ≤ p_n)) then
      some (decide (p_n ≤ p_hi))
    else
      some false).bind fun c1 =>
  some c1
noncomputable def C73 : FnSpec := { ps := [.val (.int .i64), .val (.int .i64), .val (.int .i64)], rs := [.val .bool], fn := fun x => s_l1In x.1 x.2.1 x.2.2 }
noncomputable def E73 : Env := { T := [], G := [], ro := [], loops := [], joins := [] }
theorem E73_eq : ∀ x, afun E73 Tryz.f73 C73.ps C73.rs x = C73.fn x := fun x => by kernel_rfl
theorem S73 : Sound Tryz.prog 73 C73 := fun_sound (E := E73) ⟨good_T (by kernel_rfl), good_nil, mixedOk, ins_nil⟩ Tryz.func73 rfl E73_eq
/-- spec.l1Rising -/
noncomputable def s_l1Rising (p_l : List Int) (p_lo : Int) (p_hi : Int) : Option (Bool) :=
  (loopE (fun (st2 : Int) => (
      bif (decide (st2 < (p_l.length : Int))) then
        (idx p_l st2).bind fun e3 =>
        (s_l1In e3 p_lo p_hi).bind fun r4 =>
        (bif (!r4) then
            some true
          else
            (bif (decide (0 < st2)) then
                (idx p_l (w64 (st2 - 1))).bind fun e5 =>
                some (decide (e3 ≤ e5))
              else
                some false).bind fun c6 =>
            some c6).bind fun c7 =>
        bif c7 then
          some (.inr (.inr false))
        else
          some (.inl (w64 (st2 + 1)))
      else
        some (.inr (.inl ())) : Option ((Int) ⊕ (Unit ⊕ Bool)))) 0).bind fun o8 =>
  match o8 with
  | .inl _ =>
    some true
  | .inr y10 =>
    some y10
noncomputable def C79 : FnSpec := { ps := [.val (.slice (.int .i64)), .val (.int .i64), .val (.int .i64)], rs := [.val .bool], fn := fun x => s_l1Rising x.1 x.2.1 x.2.2 }
noncomputable def E79 : Env := { T := [(3, (.int .i64)), (42, (.slice (.int .i64)))], G := [(73, C73)], ro := [], loops := [(2, { keep := [0, 1, 2, 9, 10], live := [.tv 11 (.int .i64)], outs := [(.exit 0, []), (.ret, [.tv 6 .bool])] })], joins := [] }
theorem E79_eq : ∀ x, afun E79 Tryz.f79 C79.ps C79.rs x = C79.fn x := fun x => by kernel_rfl
theorem S79 : Sound Tryz.prog 79 C79 := fun_sound (E := E79) ⟨good_T (by kernel_rfl), (good_cons S73 ⟨_, Tryz.func73, by kernel_rfl, by kernel_rfl⟩ good_nil), mixedOk, ins_nil⟩ Tryz.func79 rfl E79_eq
/-- spec.dkTicket -/
noncomputable def s_dkTicket (p_x : GTicket) : Option (Bool) :=
  (s_l1In p_x.1 1 999).bind fun r1 =>
  (bif r1 then
      (s_l1In p_x.2.1 1 9).bind fun r2 =>
      some r2
    else
      some false).bind fun c3 =>
  (bif c3 then
      (s_l1Rising p_x.2.2.1 0 (w64 (p_x.2.1 - 1))).bind fun r4 =>
      some r4
    else
      some false).bind fun c5 =>
  (bif c5 then
      (s_l1In p_x.2.2.2.1 0 2).bind fun r6 =>
      some r6
    else
      some false).bind fun c7 =>
  (bif c7 then
      some ((decide ((p_x.2.2.1.length : Int) = p_x.2.1)) == (decide (p_x.2.2.2.1 = 1)))
    else
      some false).bind fun c8 =>
  some c8
noncomputable def C64 : FnSpec := { ps := [.val TGTicket], rs := [.val .bool], fn := fun x => s_dkTicket x }
noncomputable def E64 : Env := { T := [(3, (.int .i64)), (4, .bool), (42, (.slice (.int .i64))), (44, TGTicket)], G := [(73, C73), (79, C79)], ro := [1], loops := [], joins := [] }
theorem E64_eq : ∀ x, afun E64 Tryz.f64 C64.ps C64.rs x = C64.fn x := fun x => by kernel_rfl
theorem S64 : Sound Tryz.prog 64 C64 := fun_sound (E := E64) ⟨good_T (by kernel_rfl), (good_cons S73 ⟨_, Tryz.func73, by kernel_rfl, by kernel_rfl⟩ (good_cons S79 ⟨_, Tryz.func79, by kernel_rfl, by kernel_rfl⟩ good_nil)), mixedOk, ins_nil⟩ Tryz.func64 rfl E64_eq
/-- spec.dkGood -/
noncomputable def s_dkGood (p_l : List GTicket) : Option (Bool) :=
  (loopE (fun (st2 : Int) => (
      bif (decide (st2 < (p_l.length : Int))) then
        (idx p_l st2).bind fun e3 =>
        (s_dkTicket e3).bind fun r4 =>
        (bif (!r4) then
            some true
          else
            (bif (decide (0 < st2)) then
                (idx p_l (w64 (st2 - 1))).bind fun e5 =>
                some (decide (e3.1 ≤ e5.1))
              else
                some false).bind fun c6 =>
            some c6).bind fun c7 =>
        bif c7 then
          some (.inr (.inr false))
        else
          some (.inl (w64 (st2 + 1)))
      else
        some (.inr (.inl ())) : Option ((Int) ⊕ (Unit ⊕ Bool)))) 0).bind fun o8 =>
  match o8 with
  | .inl _ =>
    some (decide ((p_l.length : Int) ≤ 20))
  | .inr y10 =>
    some y10
noncomputable def C43 : FnSpec := { ps := [.val (.slice TGTicket)], rs := [.val .bool], fn := fun x => s_dkGood x }
noncomputable def E43 : Env := { T := [(3, (.int .i64)), (23, (.slice TGTicket)), (44, TGTicket)], G := [(64, C64)], ro := [], loops := [(2, { keep := [0, 5, 6], live := [.tv 7 (.int .i64)], outs := [(.exit 0, []), (.ret, [.tv 2 .bool])] })], joins := [] }
theorem E43_eq : ∀ x, afun E43 Tryz.f43 C43.ps C43.rs x = C43.fn x := fun x => by kernel_rfl
theorem S43 : Sound Tryz.prog 43 C43 := fun_sound (E := E43) ⟨good_T (by kernel_rfl), (good_cons S64 ⟨_, Tryz.func64, by kernel_rfl, by kernel_rfl⟩ good_nil), mixedOk, ins_nil⟩ Tryz.func43 rfl E43_eq
/-- spec.dkAccept -/
noncomputable def s_dkAccept (p_l : List GTicket) (p_message : Int) (p_parts : Int) : Option ((List GTicket) × Bool) :=
  (loopE (fun (st2 : Int) => (
      (bif (decide (st2 < (p_l.length : Int))) then
          (idx p_l st2).bind fun e3 =>
          some (decide (e3.1 < p_message))
        else
          some false).bind fun c4 =>
      bif c4 then
        some (.inl (w64 (st2 + 1)))
      else
        some (.inr st2) : Option ((Int) ⊕ (Int)))) 0).bind fun o5 =>
  (sub p_l 0 o5).bind fun l6 =>
  (s_dkOwn l6).bind fun r7 =>
  (sub p_l o5 (p_l.length : Int)).bind fun l8 =>
  bif decide (List.length r7 + List.length ([(p_message, p_parts, [], 0, ())] : List GTicket) ≤ lim) then
    (s_dkOwn l8).bind fun r9 =>
    bif decide (List.length (r7 ++ ([(p_message, p_parts, [], 0, ())] : List GTicket)) + List.length r9 ≤ lim) then
      (s_dkGood ((r7 ++ ([(p_message, p_parts, [], 0, ())] : List GTicket)) ++ r9)).bind fun r10 =>
      bif (!r10) then
        some ([], false)
      else
        some (((r7 ++ ([(p_message, p_parts, [], 0, ())] : List GTicket)) ++ r9), true)
    else
      none
  else
    none
noncomputable def C71 : FnSpec := { ps := [.val (.slice TGTicket), .val (.int .i64), .val (.int .i64)], rs := [.own (.slice TGTicket), .val .bool], fn := fun x => s_dkAccept x.1 x.2.1 x.2.2 }
noncomputable def E71 : Env := { T := [(3, (.int .i64)), (23, (.slice TGTicket)), (44, TGTicket)], G := [(43, C43), (56, C56)], ro := [], loops := [(2, { keep := [0, 1, 2], live := [.tv 8 (.int .i64)], outs := [(.exit 0, [.tv 8 (.int .i64)])] })], joins := [], mv := true }
theorem E71_eq : ∀ x, afun E71 Tryz.f71 C71.ps C71.rs x = C71.fn x := fun x => by kernel_rfl
theorem S71 : Sound Tryz.prog 71 C71 := fun_sound (E := E71) ⟨good_T (by kernel_rfl), (good_cons S43 ⟨_, Tryz.func43, by kernel_rfl, by kernel_rfl⟩ (good_cons S56 ⟨_, Tryz.func56, by kernel_rfl, by kernel_rfl⟩ good_nil)), mixedOk, ins_nil⟩ Tryz.func71 rfl E71_eq
/-- spec.dkFind -/
noncomputable def s_dkFind (p_l : List GTicket) (p_message : Int) : Option (Int) :=
  (loopE (fun (st2 : Int) => (
      bif (decide (st2 < (p_l.length : Int))) then
        (idx p_l st2).bind fun e3 =>
        bif (decide (e3.1 = p_message)) then
          some (.inr (.inr st2))
        else
          some (.inl (w64 (st2 + 1)))
      else
        some (.inr (.inl ())) : Option ((Int) ⊕ (Unit ⊕ Int)))) 0).bind fun o4 =>
  match o4 with
  | .inl _ =>
    some (-1)
  | .inr y6 =>
    some y6
noncomputable def C48 : FnSpec := { ps := [.val (.slice TGTicket), .val (.int .i64)], rs := [.val (.int .i64)], fn := fun x => s_dkFind x.1 x.2 }
noncomputable def E48 : Env := { T := [(3, (.int .i64)), (23, (.slice TGTicket)), (44, TGTicket)], G := [], ro := [], loops := [(2, { keep := [1, 7, 8], live := [.tv 9 (.int .i64)], outs := [(.exit 0, []), (.ret, [.tv 4 (.int .i64)])] })], joins := [] }
theorem E48_eq : ∀ x, afun E48 Tryz.f48 C48.ps C48.rs x = C48.fn x := fun x => by kernel_rfl
theorem S48 : Sound Tryz.prog 48 C48 := fun_sound (E := E48) ⟨good_T (by kernel_rfl), good_nil, mixedOk, ins_nil⟩ Tryz.func48 rfl E48_eq
/-- spec.dkOpen -/
noncomputable def s_dkOpen (p_l : List GTicket) (p_message : Int) : Option (Int) :=
  (s_dkFind p_l p_message).bind fun r1 =>
  (bif (decide (0 ≤ r1)) then
      (idx p_l r1).bind fun e2 =>
      some (!decide (e2.2.2.2.1 = 0))
    else
      some false).bind fun c3 =>
  bif c3 then
    some (-1)
  else
    some r1
noncomputable def C72 : FnSpec := { ps := [.val (.slice TGTicket), .val (.int .i64)], rs := [.val (.int .i64)], fn := fun x => s_dkOpen x.1 x.2 }
noncomputable def E72 : Env := { T := [(3, (.int .i64)), (23, (.slice TGTicket)), (44, TGTicket)], G := [(48, C48)], ro := [], loops := [], joins := [] }
theorem E72_eq : ∀ x, afun E72 Tryz.f72 C72.ps C72.rs x = C72.fn x := fun x => by kernel_rfl
theorem S72 : Sound Tryz.prog 72 C72 := fun_sound (E := E72) ⟨good_T (by kernel_rfl), (good_cons S48 ⟨_, Tryz.func48, by kernel_rfl, by kernel_rfl⟩ good_nil), mixedOk, ins_nil⟩ Tryz.func72 rfl E72_eq
/-- spec.dkStep -/
noncomputable def s_dkStep (p_l : List GTicket) (p_m : GDeskMove) : Option ((List GTicket) × Bool) :=
  bif (decide (p_m.1 = 1)) then
    (s_dkAccept p_l p_m.2.1 p_m.2.2.1).bind fun r1 =>
    some (r1.1, r1.2)
  else
    (s_dkOpen p_l p_m.2.1).bind fun r2 =>
    bif (decide (r2 < 0)) then
      some ([], false)
    else
      (s_dkOwn p_l).bind fun r3 =>
      bif decide (0 ≤ r2) && decide (r2 < (r3.length : Int)) then
        bif (decide (p_m.1 = 3)) then
          (r3[(Int.toNat r2)]?).bind fun e4 =>
          some ((r3.set (Int.toNat r2) (e4.1, e4.2.1, e4.2.2.1, 2, ())), true)
        else
          (bif (decide (p_m.1 = 2)) then
              (r3[(Int.toNat r2)]?).bind fun e5 =>
              (s_l1In p_m.2.2.1 0 (w64 (e5.2.1 - 1))).bind fun r6 =>
              some r6
            else
              some false).bind fun c7 =>
          bif c7 then
            (r3[(Int.toNat r2)]?).bind fun e8 =>
            (putSame e8.2.2.1 p_m.2.2.1).bind fun c9 =>
            bif c9 then
              bif Nat.beq (Int.toNat r2) (Int.toNat r2) then
                (r3[(Int.toNat r2)]?).bind fun e10 =>
                (r3[(Int.toNat r2)]?).bind fun e11 =>
                bif (decide ((e10.2.2.1.length : Int) = e11.2.1)) then
                  (r3[(Int.toNat r2)]?).bind fun e12 =>
                  some ((r3.set (Int.toNat r2) (e12.1, e12.2.1, e12.2.2.1, 1, ())), true)
                else
                  some (r3, true)
              else
                none
            else
              (putNew e8.2.2.1 p_m.2.2.1).bind fun r13 =>
              (r3[(Int.toNat r2)]?).bind fun e14 =>
              ((r3.set (Int.toNat r2) (e14.1, e14.2.1, r13, e14.2.2.2))[(Int.toNat r2)]?).bind fun e15 =>
              ((r3.set (Int.toNat r2) (e14.1, e14.2.1, r13, e14.2.2.2))[(Int.toNat r2)]?).bind fun e16 =>
              bif (decide ((e15.2.2.1.length : Int) = e16.2.1)) then
                ((r3.set (Int.toNat r2) (e14.1, e14.2.1, r13, e14.2.2.2))[(Int.toNat r2)]?).bind fun e17 =>
                some (((r3.set (Int.toNat r2) (e14.1, e14.2.1, r13, e14.2.2.2)).set (Int.toNat r2) (e17.1, e17.2.1, e17.2.2.1, 1, ())), true)
              else
                some ((r3.set (Int.toNat r2) (e14.1, e14.2.1, r13, e14.2.2.2)), true)
          else
            some ([], false)
      else
        none
noncomputable def C57 : FnSpec := { ps := [.val (.slice TGTicket), .val TGDeskMove], rs := [.own (.slice TGTicket), .val .bool], fn := fun x => s_dkStep x.1 x.2 }
noncomputable def E57 : Env := { T := [(3, (.int .i64)), (23, (.slice TGTicket)), (42, (.slice (.int .i64))), (44, TGTicket), (55, TGDeskMove)], G := [(56, C56), (71, C71), (72, C72), (73, C73)], ro := [3], loops := [], joins := [], mv := true, hoist := [(12, [0])], sel := [(74, PutS)] }
theorem E57_eq : ∀ x, afun E57 Tryz.f57 C57.ps C57.rs x = C57.fn x := fun x => by kernel_rfl
theorem S57 : Sound Tryz.prog 57 C57 := fun_sound (E := E57) ⟨good_T (by kernel_rfl), (good_cons S56 ⟨_, Tryz.func56, by kernel_rfl, by kernel_rfl⟩ (good_cons S71 ⟨_, Tryz.func71, by kernel_rfl, by kernel_rfl⟩ (good_cons S72 ⟨_, Tryz.func72, by kernel_rfl, by kernel_rfl⟩ (good_cons S73 ⟨_, Tryz.func73, by kernel_rfl, by kernel_rfl⟩ good_nil)))), mixedOk, (sel_cons sel_PutS ⟨_, Tryz.func74, by kernel_rfl, by kernel_rfl⟩ ins_nil)⟩ Tryz.func57 rfl E57_eq
/-- (*spec.l1Cur).tickets -/
noncomputable def s_l1Cur_tickets (p_c : Gl1Cur) : Option (Gl1Cur × (List GTicket)) :=
  (s_l1Cur_deskMoves p_c).bind fun r1 =>
  (loopE (fun (st3 : (List Int) × Int × Int × (List GTicket) × (List GDeskMove) × Int) => (
      bif (decide (st3.2.2.2.2.2 < (r1.2.length : Int))) then
        bif decide (0 ≤ st3.2.2.2.2.2) && decide (st3.2.2.2.2.2 < (st3.2.2.2.2.1.length : Int)) then
          (st3.2.2.2.2.1[(Int.toNat st3.2.2.2.2.2)]?).bind fun e4 =>
          (s_dkStep st3.2.2.2.1 e4).bind fun r5 =>
          bif r5.2 then
            some (.inl (st3.1, st3.2.1, st3.2.2.1, r5.1, st3.2.2.2.2.1, (w64 (st3.2.2.2.2.2 + 1))))
          else
            some (.inl (st3.1, st3.2.1, st3.2.2.1, st3.2.2.2.1, st3.2.2.2.2.1, (w64 (st3.2.2.2.2.2 + 1))))
        else
          none
      else
        some (.inr (st3.1, st3.2.1, st3.2.2.1, st3.2.2.2.1)) : Option (((List Int) × Int × Int × (List GTicket) × (List GDeskMove) × Int) ⊕ (((List Int) × Int × Int × (List GTicket)))))) (r1.1.1, r1.1.2.1, r1.1.2.2.1, [], r1.2, 0)).bind fun o6 =>
  ((s_l1Cur_one (o6.1, o6.2.1, o6.2.2.1, ()) 20).bind fun r7 =>
    bif r7.2 then
      (s_l1Cur_pick r7.1 2).bind fun r8 =>
      (s_l1Cur_pick r8.1 2).bind fun r9 =>
      (loopE (fun (st11 : (List Int) × Int × Int × (List GTicket)) => (
          bif (decide ((st11.2.2.2.length : Int) < (w64 ((w64 (20 - r8.2)) + r9.2)))) then
            bif decide (List.length st11.2.2.2 + List.length [((w64 (10 + (st11.2.2.2.length : Int))), 2, [1], 0, ())] ≤ lim) then
              some (.inl (st11.1, st11.2.1, st11.2.2.1, (st11.2.2.2 ++ [((w64 (10 + (st11.2.2.2.length : Int))), 2, [1], 0, ())])))
            else
              none
          else
            some (.inr (st11.1, st11.2.1, st11.2.2.1, st11.2.2.2)) : Option (((List Int) × Int × Int × (List GTicket)) ⊕ (((List Int) × Int × Int × (List GTicket)))))) (r9.1.1, r9.1.2.1, r9.1.2.2.1, [])).bind fun o12 =>
      some (o12.1, o12.2.1, o12.2.2.1, o12.2.2.2)
    else
      some (r7.1.1, r7.1.2.1, r7.1.2.2.1, o6.2.2.2)).bind fun j13 =>
  bif (decide (0 < (j13.2.2.2.length : Int))) then
    (s_l1Cur_pick (j13.1, j13.2.1, j13.2.2.1, ()) (j13.2.2.2.length : Int)).bind fun r14 =>
    bif decide (0 ≤ r14.2) && decide (r14.2 < (j13.2.2.2.length : Int)) then
      (s_l1Cur_pick r14.1 30).bind fun r15 =>
      bif (decide (r15.2 = 0)) then
        (s_l1Cur_among r15.1 [0, 999, 1000]).bind fun r16 =>
        (j13.2.2.2[(Int.toNat r14.2)]?).bind fun e17 =>
        some (r16.1, (j13.2.2.2.set (Int.toNat r14.2) (r16.2, e17.2)))
      else
        bif (decide (r15.2 = 1)) then
          (s_l1Cur_among r15.1 [0, 9, 10]).bind fun r18 =>
          (j13.2.2.2[(Int.toNat r14.2)]?).bind fun e19 =>
          some (r18.1, (j13.2.2.2.set (Int.toNat r14.2) (e19.1, r18.2, e19.2.2)))
        else
          bif (decide (r15.2 = 2)) then
            (j13.2.2.2[(Int.toNat r14.2)]?).bind fun e20 =>
            (j13.2.2.2[(Int.toNat r14.2)]?).bind fun e21 =>
            (s_l1Cur_among r15.1 [(-1), 0, e21.2.1]).bind fun r22 =>
            bif decide (List.length e20.2.2.1 + List.length [r22.2] ≤ lim) then
              bothSame (
                bif Nat.beq (Int.toNat r14.2) (Int.toNat r14.2) then
                  some (r22.1, (j13.2.2.2.set (Int.toNat r14.2) (e20.1, e20.2.1, (e20.2.2.1 ++ [r22.2]), e20.2.2.2)))
                else
                  none)
              (
                (j13.2.2.2[(Int.toNat r14.2)]?).bind fun e23 =>
                some (r22.1, (j13.2.2.2.set (Int.toNat r14.2) (e23.1, e23.2.1, (e20.2.2.1 ++ [r22.2]), e23.2.2.2))))
            else
              none
          else
            bif (decide (r15.2 = 3)) then
              (s_l1Cur_pick r15.1 5).bind fun r24 =>
              (j13.2.2.2[(Int.toNat r14.2)]?).bind fun e25 =>
              some (r24.1, (j13.2.2.2.set (Int.toNat r14.2) (e25.1, e25.2.1, e25.2.2.1, (w64 (r24.2 - 1)), ())))
            else
              some (r15.1, j13.2.2.2)
    else
      none
  else
    some ((j13.1, j13.2.1, j13.2.2.1, ()), j13.2.2.2)
noncomputable def C34 : FnSpec := { ps := [.mbox TGl1Cur], rs := [.own (.slice TGTicket)], fn := fun x => s_l1Cur_tickets x }
noncomputable def E34 : Env := { T := [(3, (.int .i64)), (23, (.slice TGTicket)), (42, (.slice (.int .i64))), (44, TGTicket), (46, (.slice TGDeskMove)), (55, TGDeskMove)], G := [(36, C36), (39, C39), (40, C40), (54, C54), (57, C57)], ro := [85], loops := [(3, { keep := [12], live := [.bx 0 100000 [.pv (.slice (.int .u8)), .pv (.int .i64), .pv (.int .u64)], .own 3 [] 200003 TGTicket true, .own 11 [] 176 TGDeskMove true, .tv 13 (.int .i64)], outs := [(.exit 0, [.bx 0 100000 [.pv (.slice (.int .u8)), .pv (.int .i64), .pv (.int .u64)], .own 3 [] 200003 TGTicket true])] }), (12, { keep := [8], live := [.bx 0 100000 [.pv (.slice (.int .u8)), .pv (.int .i64), .pv (.int .u64)], .own 3 [] 200003 TGTicket true], outs := [(.exit 2, [.bx 0 100000 [.pv (.slice (.int .u8)), .pv (.int .i64), .pv (.int .u64)], .own 3 [] 200003 TGTicket true])] })], joins := [(14, { keep := [], live := [], outs := [(.normal, [.bx 0 100000 [.pv (.slice (.int .u8)), .pv (.int .i64), .pv (.int .u64)], .own 3 [] 200003 TGTicket true])] })], mv := true, hoist := [(22, [0, 1, 2, 3])], aside := [(86, 100000)] }
theorem E34_eq : ∀ x, afun E34 Tryz.f34 C34.ps C34.rs x = C34.fn x := fun x => by kernel_rfl
theorem S34 : Sound Tryz.prog 34 C34 := fun_sound_box (E := E34) ⟨good_T (by kernel_rfl), (good_cons S36 ⟨_, Tryz.func36, by kernel_rfl, by kernel_rfl⟩ (good_cons S39 ⟨_, Tryz.func39, by kernel_rfl, by kernel_rfl⟩ (good_cons S40 ⟨_, Tryz.func40, by kernel_rfl, by kernel_rfl⟩ (good_cons S54 ⟨_, Tryz.func54, by kernel_rfl, by kernel_rfl⟩ (good_cons S57 ⟨_, Tryz.func57, by kernel_rfl, by kernel_rfl⟩ good_nil))))), mixedOk, ins_nil⟩ Tryz.func34 rfl E34_eq
/-- (*spec.l1Cur).deskMessage -/
noncomputable def s_l1Cur_deskMessage (p_c : Gl1Cur) (p_l : List GTicket) : Option (Gl1Cur × Int) :=
  bif (decide (0 < (p_l.length : Int))) then
    (s_l1Cur_one p_c 4).bind fun r1 =>
    bif (!r1.2) then
      (s_l1Cur_pick r1.1 (p_l.length : Int)).bind fun r2 =>
      (idx p_l r2.2).bind fun e3 =>
      some (r2.1, e3.1)
    else
      (s_l1Cur_among r1.1 [1, 7, 500, 999, 0, 1000]).bind fun r4 =>
      some (r4.1, r4.2)
  else
    bif false then
      (s_l1Cur_pick p_c (p_l.length : Int)).bind fun r5 =>
      (idx p_l r5.2).bind fun e6 =>
      some (r5.1, e6.1)
    else
      (s_l1Cur_among p_c [1, 7, 500, 999, 0, 1000]).bind fun r7 =>
      some (r7.1, r7.2)
noncomputable def C35 : FnSpec := { ps := [.mbox TGl1Cur, .val (.slice TGTicket)], rs := [.val (.int .i64)], fn := fun x => s_l1Cur_deskMessage x.1 x.2 }
noncomputable def E35 : Env := { T := [(3, (.int .i64)), (23, (.slice TGTicket)), (42, (.slice (.int .i64))), (44, TGTicket)], G := [(36, C36), (39, C39), (40, C40)], ro := [], loops := [], joins := [], forks := [8] }
theorem E35_eq : ∀ x, afun E35 Tryz.f35 C35.ps C35.rs x = C35.fn x := fun x => by kernel_rfl
theorem S35 : Sound Tryz.prog 35 C35 := fun_sound_box (E := E35) ⟨good_T (by kernel_rfl), (good_cons S36 ⟨_, Tryz.func36, by kernel_rfl, by kernel_rfl⟩ (good_cons S39 ⟨_, Tryz.func39, by kernel_rfl, by kernel_rfl⟩ (good_cons S40 ⟨_, Tryz.func40, by kernel_rfl, by kernel_rfl⟩ good_nil))), mixedOk, ins_nil⟩ Tryz.func35 rfl E35_eq
/-- spec.DrawNoteArrival -/
noncomputable def s_DrawNoteArrival (p_code : List Int) : Option ((List GTicket) × Int × Int) :=
  (s_l1Cur_tickets (p_code, 0, 0, ())).bind fun r1 =>
  (s_l1Cur_deskMessage r1.1 r1.2).bind fun r2 =>
  (s_l1Cur_among r2.1 [0, 1, 2, 3, 9, (-1)]).bind fun r3 =>
  some (r1.2, r2.2, r3.2)
noncomputable def C5 : FnSpec := { ps := [.val (.slice (.int .u8))], rs := [.val (.slice TGTicket), .val (.int .i64), .val (.int .i64)], fn := fun x => s_DrawNoteArrival x }
noncomputable def E5 : Env := { T := [(42, (.slice (.int .i64))), (59, TGl1Cur)], G := [(34, C34), (35, C35), (36, C36)], ro := [], loops := [], joins := [] }
theorem E5_eq : ∀ x, afun E5 Tryz.f5 C5.ps C5.rs x = C5.fn x := fun x => by kernel_rfl
theorem S5 : Sound Tryz.prog 5 C5 := fun_sound (E := E5) ⟨good_T (by kernel_rfl), (good_cons S34 ⟨_, Tryz.func34, by kernel_rfl, by kernel_rfl⟩ (good_cons S35 ⟨_, Tryz.func35, by kernel_rfl, by kernel_rfl⟩ (good_cons S36 ⟨_, Tryz.func36, by kernel_rfl, by kernel_rfl⟩ good_nil))), mixedOk, ins_nil⟩ Tryz.func5 rfl E5_eq
/-- impl.within -/
noncomputable def i_within (p_n : Int) (p_low : Int) (p_high : Int) : Option (Bool) :=
  (bif (decide (p_low ≤ p_n)) then
      some (decide (p_n ≤ p_high))
    else
      some false).bind fun c1 =>
  some c1
noncomputable def C51 : FnSpec := { ps := [.val (.int .i64), .val (.int .i64), .val (.int .i64)], rs := [.val .bool], fn := fun x => i_within x.1 x.2.1 x.2.2 }
noncomputable def E51 : Env := { T := [], G := [], ro := [], loops := [], joins := [] }
theorem E51_eq : ∀ x, afun E51 Tryz.f51 C51.ps C51.rs x = C51.fn x := fun x => by kernel_rfl
theorem S51 : Sound Tryz.prog 51 C51 := fun_sound (E := E51) ⟨good_T (by kernel_rfl), good_nil, mixedOk, ins_nil⟩ Tryz.func51 rfl E51_eq
/-- impl.allWithin -/
noncomputable def i_allWithin (p_l : List Int) (p_low : Int) (p_high : Int) : Option (Bool) :=
  (loopE (fun (st2 : Int) => (
      bif (decide (st2 < (p_l.length : Int))) then
        (idx p_l st2).bind fun e3 =>
        (i_within e3 p_low p_high).bind fun r4 =>
        bif (!r4) then
          some (.inr (.inr false))
        else
          some (.inl (w64 (st2 + 1)))
      else
        some (.inr (.inl ())) : Option ((Int) ⊕ (Unit ⊕ Bool)))) 0).bind fun o5 =>
  match o5 with
  | .inl _ =>
    some true
  | .inr y7 =>
    some y7
noncomputable def C52 : FnSpec := { ps := [.val (.slice (.int .i64)), .val (.int .i64), .val (.int .i64)], rs := [.val .bool], fn := fun x => i_allWithin x.1 x.2.1 x.2.2 }
noncomputable def E52 : Env := { T := [(3, (.int .i64)), (42, (.slice (.int .i64)))], G := [(51, C51)], ro := [], loops := [(2, { keep := [1, 2, 9, 10], live := [.tv 11 (.int .i64)], outs := [(.exit 0, []), (.ret, [.tv 6 .bool])] })], joins := [] }
theorem E52_eq : ∀ x, afun E52 Tryz.f52 C52.ps C52.rs x = C52.fn x := fun x => by kernel_rfl
theorem S52 : Sound Tryz.prog 52 C52 := fun_sound (E := E52) ⟨good_T (by kernel_rfl), (good_cons S51 ⟨_, Tryz.func51, by kernel_rfl, by kernel_rfl⟩ good_nil), mixedOk, ins_nil⟩ Tryz.func52 rfl E52_eq
/-- impl.increasing -/
noncomputable def i_increasing (p_l : List Int) : Option (Bool) :=
  (loopE (fun (st2 : Int) => (
      bif (decide (st2 < (p_l.length : Int))) then
        (idx p_l (w64 (st2 - 1))).bind fun e3 =>
        (idx p_l st2).bind fun e4 =>
        bif (decide (e4 ≤ e3)) then
          some (.inr (.inr false))
        else
          some (.inl (w64 (st2 + 1)))
      else
        some (.inr (.inl ())) : Option ((Int) ⊕ (Unit ⊕ Bool)))) 1).bind fun o5 =>
  match o5 with
  | .inl _ =>
    some true
  | .inr y7 =>
    some y7
noncomputable def C53 : FnSpec := { ps := [.val (.slice (.int .i64))], rs := [.val .bool], fn := fun x => i_increasing x }
noncomputable def E53 : Env := { T := [(3, (.int .i64)), (42, (.slice (.int .i64)))], G := [], ro := [], loops := [(2, { keep := [0], live := [.tv 3 (.int .i64)], outs := [(.exit 0, []), (.ret, [.tv 2 .bool])] })], joins := [] }
theorem E53_eq : ∀ x, afun E53 Tryz.f53 C53.ps C53.rs x = C53.fn x := fun x => by kernel_rfl
theorem S53 : Sound Tryz.prog 53 C53 := fun_sound (E := E53) ⟨good_T (by kernel_rfl), good_nil, mixedOk, ins_nil⟩ Tryz.func53 rfl E53_eq
/-- impl.AreTickets -/
noncomputable def i_AreTickets (p_l : List GTicket) : Option (Bool) :=
  bif (decide (20 < (p_l.length : Int))) then
    some false
  else
    (loopE (fun (st2 : Int) => (
        bif (decide (st2 < (p_l.length : Int))) then
          (idx p_l st2).bind fun e3 =>
          (i_within e3.1 1 999).bind fun r4 =>
          (bif (!r4) then
              some true
            else
              (i_within e3.2.1 1 9).bind fun r5 =>
              some (!r5)).bind fun c6 =>
          (bif c6 then
              some true
            else
              (i_allWithin e3.2.2.1 0 (w64 (e3.2.1 - 1))).bind fun r7 =>
              some (!r7)).bind fun c8 =>
          (bif c8 then
              some true
            else
              (i_increasing e3.2.2.1).bind fun r9 =>
              some (!r9)).bind fun c10 =>
          (bif c10 then
              some true
            else
              (bif (decide (0 < st2)) then
                  (idx p_l (w64 (st2 - 1))).bind fun e11 =>
                  some (decide (e3.1 ≤ e11.1))
                else
                  some false).bind fun c12 =>
              some c12).bind fun c13 =>
          bif c13 then
            some (.inr (.inr false))
          else
            (bif ((decide ((e3.2.2.1.length : Int) = e3.2.1)) != (decide (e3.2.2.2.1 = 1))) then
                some true
              else
                (i_within e3.2.2.2.1 0 2).bind fun r14 =>
                some (!r14)).bind fun c15 =>
            bif c15 then
              some (.inr (.inr false))
            else
              some (.inl (w64 (st2 + 1)))
        else
          some (.inr (.inl ())) : Option ((Int) ⊕ (Unit ⊕ Bool)))) 0).bind fun o16 =>
    match o16 with
    | .inl _ =>
      some true
    | .inr y18 =>
      some y18
noncomputable def C22 : FnSpec := { ps := [.val (.slice TGTicket)], rs := [.val .bool], fn := fun x => i_AreTickets x }
noncomputable def E22 : Env := { T := [(3, (.int .i64)), (4, .bool), (23, (.slice TGTicket)), (42, (.slice (.int .i64))), (44, TGTicket)], G := [(51, C51), (52, C52), (53, C53)], ro := [], loops := [(4, { keep := [0, 9, 10], live := [.tv 11 (.int .i64)], outs := [(.exit 0, []), (.ret, [.tv 2 .bool])] })], joins := [] }
theorem E22_eq : ∀ x, afun E22 Tryz.f22 C22.ps C22.rs x = C22.fn x := fun x => by kernel_rfl
theorem S22 : Sound Tryz.prog 22 C22 := fun_sound (E := E22) ⟨good_T (by kernel_rfl), (good_cons S51 ⟨_, Tryz.func51, by kernel_rfl, by kernel_rfl⟩ (good_cons S52 ⟨_, Tryz.func52, by kernel_rfl, by kernel_rfl⟩ (good_cons S53 ⟨_, Tryz.func53, by kernel_rfl, by kernel_rfl⟩ good_nil))), mixedOk, ins_nil⟩ Tryz.func22 rfl E22_eq
/-- slices.Index[[]int,int] -/
noncomputable def slices_Index_int (p_s : List Int) (p_v : Int) : Option (Int) :=
  (loopE (fun (st2 : Int) => (
      bif (decide (st2 < (p_s.length : Int))) then
        (idx p_s st2).bind fun e3 =>
        bif (decide (p_v = e3)) then
          some (.inr (.inr st2))
        else
          some (.inl (w64 (st2 + 1)))
      else
        some (.inr (.inl ())) : Option ((Int) ⊕ (Unit ⊕ Int)))) 0).bind fun o4 =>
  match o4 with
  | .inl _ =>
    some (-1)
  | .inr y6 =>
    some y6
noncomputable def C63 : FnSpec := { ps := [.val (.slice (.int .i64)), .val (.int .i64)], rs := [.val (.int .i64)], fn := fun x => slices_Index_int x.1 x.2 }
noncomputable def E63 : Env := { T := [(3, (.int .i64)), (42, (.slice (.int .i64)))], G := [], ro := [], loops := [(2, { keep := [0, 1, 7], live := [.tv 8 (.int .i64)], outs := [(.exit 0, []), (.ret, [.tv 4 (.int .i64)])] })], joins := [] }
theorem E63_eq : ∀ x, afun E63 Tryz.f63 C63.ps C63.rs x = C63.fn x := fun x => by kernel_rfl
theorem S63 : Sound Tryz.prog 63 C63 := fun_sound (E := E63) ⟨good_T (by kernel_rfl), good_nil, mixedOk, ins_nil⟩ Tryz.func63 rfl E63_eq
/-- slices.Contains[[]int,int] -/
noncomputable def slices_Contains_int (p_s : List Int) (p_v : Int) : Option (Bool) :=
  (slices_Index_int p_s p_v).bind fun r1 =>
  some (decide (0 ≤ r1))
noncomputable def C42 : FnSpec := { ps := [.val (.slice (.int .i64)), .val (.int .i64)], rs := [.val .bool], fn := fun x => slices_Contains_int x.1 x.2 }
noncomputable def E42 : Env := { T := [], G := [(63, C63)], ro := [], loops := [], joins := [] }
theorem E42_eq : ∀ x, afun E42 Tryz.f42 C42.ps C42.rs x = C42.fn x := fun x => by kernel_rfl
theorem S42 : Sound Tryz.prog 42 C42 := fun_sound (E := E42) ⟨good_T (by kernel_rfl), (good_cons S63 ⟨_, Tryz.func63, by kernel_rfl, by kernel_rfl⟩ good_nil), mixedOk, ins_nil⟩ Tryz.func42 rfl E42_eq
/-- impl.ticketIndex$1 -/
noncomputable def i_ticketIndex_1 (p_x : GTicket) (p_a1 : Int) : Option (Bool) :=
  some (decide (p_x.1 = p_a1))
noncomputable def C66 : FnSpec := { ps := [.val TGTicket, .rp (.int .i64)], rs := [.val .bool], fn := fun x => i_ticketIndex_1 x.1 x.2 }
noncomputable def E66 : Env := { T := [(3, (.int .i64)), (44, TGTicket)], G := [], ro := [2], loops := [], joins := [] }
theorem E66_eq : ∀ x, afun E66 Tryz.f66 C66.ps C66.rs x = C66.fn x := fun x => by kernel_rfl
theorem S66 : Sound Tryz.prog 66 C66 := fun_sound (E := E66) ⟨good_T (by kernel_rfl), good_nil, mixedOk, ins_nil⟩ Tryz.func66 rfl E66_eq
/-- slices.IndexFunc[[]impl.Ticket,impl.Ticket] -/
noncomputable def slices_IndexFunc_Ticket_66 (p_s : List GTicket) (p_f : Int × Unit) : Option (Int) :=
  (loopE (fun (st2 : Int) => (
      bif (decide (st2 < (p_s.length : Int))) then
        (idx p_s st2).bind fun e3 =>
        (i_ticketIndex_1 e3 p_f.1).bind fun r4 =>
        bif r4 then
          some (.inr (.inr st2))
        else
          some (.inl (w64 (st2 + 1)))
      else
        some (.inr (.inl ())) : Option ((Int) ⊕ (Unit ⊕ Int)))) 0).bind fun o5 =>
  match o5 with
  | .inl _ =>
    some (-1)
  | .inr y7 =>
    some y7
noncomputable def C65_66 : FnSpec := { ps := [.val (.slice TGTicket), .fn 66 [(.int .i64)]], rs := [.val (.int .i64)], fn := fun x => slices_IndexFunc_Ticket_66 x.1 x.2 }
noncomputable def E65_66 : Env := { T := [(23, (.slice TGTicket)), (44, TGTicket)], G := [(66, C66)], ro := [], loops := [(2, { keep := [0, 1, 7], live := [.tv 8 (.int .i64)], outs := [(.exit 0, []), (.ret, [.tv 4 (.int .i64)])] })], joins := [] }
theorem E65_66_eq : ∀ x, afun E65_66 Tryz.f65 C65_66.ps C65_66.rs x = C65_66.fn x := fun x => by kernel_rfl
theorem S65_66 : Sound Tryz.prog 65 C65_66 := fun_sound (E := E65_66) ⟨good_T (by kernel_rfl), (good_cons S66 ⟨_, Tryz.func66, by kernel_rfl, by kernel_rfl⟩ good_nil), mixedOk, ins_nil⟩ Tryz.func65 rfl E65_66_eq
/-- impl.ticketIndex -/
noncomputable def i_ticketIndex (p_l : List GTicket) (p_message : Int) : Option (Int) :=
  (slices_IndexFunc_Ticket_66 p_l (p_message, ())).bind fun r1 =>
  some r1
noncomputable def C45 : FnSpec := { ps := [.val (.slice TGTicket), .val (.int .i64)], rs := [.val (.int .i64)], fn := fun x => i_ticketIndex x.1 x.2 }
noncomputable def E45 : Env := { T := [(3, (.int .i64))], G := [(65, C65_66)], ro := [3], loops := [], joins := [] }
theorem E45_eq : ∀ x, afun E45 Tryz.f45 C45.ps C45.rs x = C45.fn x := fun x => by kernel_rfl
theorem S45 : Sound Tryz.prog 45 C45 := fun_sound (E := E45) ⟨good_T (by kernel_rfl), (good_cons S65_66 ⟨_, Tryz.func65, by kernel_rfl, by kernel_rfl⟩ good_nil), mixedOk, ins_nil⟩ Tryz.func45 rfl E45_eq
/-- slices.Clone[[]int,int] -/
noncomputable def slices_Clone_int (p_s : List Int) : Option ((List Int)) :=
  bif List.isEmpty p_s then
    bothSame (
      bif true then
        some []
      else
        bif decide (List.length p_s ≤ lim) then
          some p_s
        else
          none)
    (
      bif false then
        some []
      else
        bif decide (List.length p_s ≤ lim) then
          some p_s
        else
          none)
  else
    bif false then
      some []
    else
      bif decide (List.length p_s ≤ lim) then
        some p_s
      else
        none
noncomputable def C69 : FnSpec := { ps := [.val (.slice (.int .i64))], rs := [.own (.slice (.int .i64))], fn := fun x => slices_Clone_int x }
noncomputable def E69 : Env := { T := [(42, (.slice (.int .i64)))], G := [], ro := [], loops := [], joins := [] }
theorem E69_eq : ∀ x, afun E69 Tryz.f69 C69.ps C69.rs x = C69.fn x := fun x => by kernel_rfl
theorem S69 : Sound Tryz.prog 69 C69 := fun_sound (E := E69) ⟨good_T (by kernel_rfl), good_nil, mixedOk, ins_nil⟩ Tryz.func69 rfl E69_eq
/-- impl.cloneTickets -/
noncomputable def i_cloneTickets (p_l : List GTicket) : Option ((List GTicket)) :=
  bif decide (0 ≤ (p_l.length : Int)) && decide ((p_l.length : Int) ≤ (p_l.length : Int)) && decide ((p_l.length : Int) ≤ lim) then
    (loopE (fun (st2 : (List GTicket) × Int) => (
        bif (decide (st2.2 < (p_l.length : Int))) then
          (idx p_l st2.2).bind fun e3 =>
          (slices_Clone_int e3.2.2.1).bind fun r4 =>
          bif decide (0 ≤ st2.2) && decide (st2.2 < (st2.1.length : Int)) then
            some (.inl ((st2.1.set (Int.toNat st2.2) (e3.1, e3.2.1, r4, e3.2.2.2)), (w64 (st2.2 + 1))))
          else
            none
        else
          some (.inr st2.1) : Option (((List GTicket) × Int) ⊕ ((List GTicket))))) ((List.replicate (Int.toNat (p_l.length : Int)) ((0, (0, ([], (0, ())))) : GTicket)), 0)).bind fun o5 =>
    some o5
  else
    none
noncomputable def C55 : FnSpec := { ps := [.val (.slice TGTicket)], rs := [.own (.slice TGTicket)], fn := fun x => i_cloneTickets x }
noncomputable def E55 : Env := { T := [(23, (.slice TGTicket)), (42, (.slice (.int .i64))), (44, TGTicket)], G := [(69, C69)], ro := [], loops := [(3, { keep := [9, 10], live := [.own 3 [] 128 TGTicket true, .tv 11 (.int .i64)], outs := [(.exit 0, [.own 3 [] 128 TGTicket true])] })], joins := [], mv := true }
theorem E55_eq : ∀ x, afun E55 Tryz.f55 C55.ps C55.rs x = C55.fn x := fun x => by kernel_rfl
theorem S55 : Sound Tryz.prog 55 C55 := fun_sound (E := E55) ⟨good_T (by kernel_rfl), (good_cons S69 ⟨_, Tryz.func69, by kernel_rfl, by kernel_rfl⟩ good_nil), mixedOk, ins_nil⟩ Tryz.func55 rfl E55_eq


/-- cmp.isNaN[int] -/
noncomputable def cmp_isNaN_int (p_x : Int) : Option (Bool) :=
  some (!decide (p_x = p_x))
noncomputable def C108 : FnSpec := { ps := [.val (.int .i64)], rs := [.val .bool], fn := fun x => cmp_isNaN_int x }
noncomputable def E108 : Env := { T := [], G := [], ro := [], loops := [], joins := [] }
theorem E108_eq : ∀ x, afun E108 Tryz.f108 C108.ps C108.rs x = C108.fn x := fun x => by kernel_rfl
theorem S108 : Sound Tryz.prog 108 C108 := fun_sound (E := E108) ⟨good_T (by kernel_rfl), good_nil, mixedOk, ins_nil⟩ Tryz.func108 rfl E108_eq
/-- cmp.Less[int] -/
noncomputable def cmp_Less_int (p_x : Int) (p_y : Int) : Option (Bool) :=
  (cmp_isNaN_int p_x).bind fun r1 =>
  (bif r1 then
      (cmp_isNaN_int p_y).bind fun r2 =>
      some (!r2)
    else
      some false).bind fun c3 =>
  (bif c3 then
      some true
    else
      some (decide (p_x < p_y))).bind fun c4 =>
  some c4
noncomputable def C91 : FnSpec := { ps := [.val (.int .i64), .val (.int .i64)], rs := [.val .bool], fn := fun x => cmp_Less_int x.1 x.2 }
noncomputable def E91 : Env := { T := [], G := [(108, C108)], ro := [], loops := [], joins := [] }
theorem E91_eq : ∀ x, afun E91 Tryz.f91 C91.ps C91.rs x = C91.fn x := fun x => by kernel_rfl
theorem S91 : Sound Tryz.prog 91 C91 := fun_sound (E := E91) ⟨good_T (by kernel_rfl), (good_cons S108 ⟨_, Tryz.func108, by kernel_rfl, by kernel_rfl⟩ good_nil), mixedOk, ins_nil⟩ Tryz.func91 rfl E91_eq
/-- slices.insertionSortOrdered[int] -/
noncomputable def slices_insertionSortOrdered_int (p_data : List Int) (p_a : Int) (p_b : Int) : Option ((List Int)) :=
  (loopE (fun (st2 : (List Int) × Int) => (
      bif (decide (st2.2 < p_b)) then
        (loopE (fun (st4 : (List Int) × Int) => (
            (bif (decide (p_a < st4.2)) then
                bif decide (0 ≤ st4.2) && decide (st4.2 < (st4.1.length : Int)) then
                  (st4.1[(Int.toNat st4.2)]?).bind fun e5 =>
                  bif decide (0 ≤ (w64 (st4.2 - 1))) && decide ((w64 (st4.2 - 1)) < (st4.1.length : Int)) then
                    (st4.1[(Int.toNat (w64 (st4.2 - 1)))]?).bind fun e6 =>
                    (cmp_Less_int e5 e6).bind fun r7 =>
                    some r7
                  else
                    none
                else
                  none
              else
                some false).bind fun c8 =>
            bif c8 then
              bif decide (0 ≤ (w64 (st4.2 - 1))) && decide ((w64 (st4.2 - 1)) < (st4.1.length : Int)) then
                (st4.1[(Int.toNat (w64 (st4.2 - 1)))]?).bind fun e9 =>
                bif decide (0 ≤ st4.2) && decide (st4.2 < (st4.1.length : Int)) then
                  (st4.1[(Int.toNat st4.2)]?).bind fun e10 =>
                  bif decide (0 ≤ st4.2) && decide (st4.2 < (st4.1.length : Int)) then
                    bif decide (0 ≤ (w64 (st4.2 - 1))) && decide ((w64 (st4.2 - 1)) < ((st4.1.set (Int.toNat st4.2) e9).length : Int)) then
                      some (.inl (((st4.1.set (Int.toNat st4.2) e9).set (Int.toNat (w64 (st4.2 - 1))) e10), (w64 (st4.2 - 1))))
                    else
                      none
                  else
                    none
                else
                  none
              else
                none
            else
              some (.inr st4.1) : Option (((List Int) × Int) ⊕ ((List Int))))) (st2.1, st2.2)).bind fun o11 =>
        some (.inl (o11, (w64 (st2.2 + 1))))
      else
        some (.inr st2.1) : Option (((List Int) × Int) ⊕ ((List Int))))) (p_data, (w64 (p_a + 1)))).bind fun o12 =>
  some o12
noncomputable def C85 : FnSpec := { ps := [.own (.slice (.int .i64)), .val (.int .i64), .val (.int .i64)], rs := [], fn := fun x => slices_insertionSortOrdered_int x.1 x.2.1 x.2.2 }
noncomputable def E85 : Env := { T := [(3, (.int .i64)), (42, (.slice (.int .i64)))], G := [(91, C91)], ro := [], loops := [(1, { keep := [1, 2], live := [.own 0 [] 100000 (.int .i64) true, .tv 6 (.int .i64)], outs := [(.exit 0, [.own 0 [] 100000 (.int .i64) true])] }), (4, { keep := [1, 2, 6], live := [.own 0 [] 100000 (.int .i64) true, .tv 7 (.int .i64)], outs := [(.exit 2, [.own 0 [] 100000 (.int .i64) true])] })], joins := [], hoist := [(6, [2, 3, 4])] }
theorem E85_eq : ∀ x, afun E85 Tryz.f85 C85.ps C85.rs x = C85.fn x := fun x => by kernel_rfl
theorem S85 : Sound Tryz.prog 85 C85 := fun_sound_own (E := E85) ⟨good_T (by kernel_rfl), (good_cons S91 ⟨_, Tryz.func91, by kernel_rfl, by kernel_rfl⟩ good_nil), mixedOk, ins_nil⟩ Tryz.func85 rfl rfl E85_eq
/-- slices.heapSortOrdered[int] -/
noncomputable def slices_heapSortOrdered_int (_ : List Int) (_ : Int) (_ : Int) : Option (Unit) :=
  none
noncomputable def C86 : FnSpec := { ps := [.val (.slice (.int .i64)), .val (.int .i64), .val (.int .i64)], rs := [], fn := fun x => slices_heapSortOrdered_int x.1 x.2.1 x.2.2 }
theorem S86 : Sound Tryz.prog 86 C86 := fun _ _ _ _ _ _ _ _ _ _ h => nomatch h
/-- slices.breakPatternsOrdered[int] -/
noncomputable def slices_breakPatternsOrdered_int (_ : List Int) (_ : Int) (_ : Int) : Option (Unit) :=
  none
noncomputable def C87 : FnSpec := { ps := [.val (.slice (.int .i64)), .val (.int .i64), .val (.int .i64)], rs := [], fn := fun x => slices_breakPatternsOrdered_int x.1 x.2.1 x.2.2 }
theorem S87 : Sound Tryz.prog 87 C87 := fun _ _ _ _ _ _ _ _ _ _ h => nomatch h
/-- slices.choosePivotOrdered[int] -/
noncomputable def slices_choosePivotOrdered_int (_ : List Int) (_ : Int) (_ : Int) : Option (Int × Int) :=
  none
noncomputable def C88 : FnSpec := { ps := [.val (.slice (.int .i64)), .val (.int .i64), .val (.int .i64)], rs := [.val (.int .i64), .val (.int .i64)], fn := fun x => slices_choosePivotOrdered_int x.1 x.2.1 x.2.2 }
theorem S88 : Sound Tryz.prog 88 C88 := fun _ _ _ _ _ _ _ _ _ _ h => nomatch h
/-- slices.reverseRangeOrdered[int] -/
noncomputable def slices_reverseRangeOrdered_int (_ : List Int) (_ : Int) (_ : Int) : Option (Unit) :=
  none
noncomputable def C89 : FnSpec := { ps := [.val (.slice (.int .i64)), .val (.int .i64), .val (.int .i64)], rs := [], fn := fun x => slices_reverseRangeOrdered_int x.1 x.2.1 x.2.2 }
theorem S89 : Sound Tryz.prog 89 C89 := fun _ _ _ _ _ _ _ _ _ _ h => nomatch h
/-- slices.partialInsertionSortOrdered[int] -/
noncomputable def slices_partialInsertionSortOrdered_int (_ : List Int) (_ : Int) (_ : Int) : Option (Bool) :=
  none
noncomputable def C90 : FnSpec := { ps := [.val (.slice (.int .i64)), .val (.int .i64), .val (.int .i64)], rs := [.val .bool], fn := fun x => slices_partialInsertionSortOrdered_int x.1 x.2.1 x.2.2 }
theorem S90 : Sound Tryz.prog 90 C90 := fun _ _ _ _ _ _ _ _ _ _ h => nomatch h
/-- slices.partitionEqualOrdered[int] -/
noncomputable def slices_partitionEqualOrdered_int (_ : List Int) (_ : Int) (_ : Int) (_ : Int) : Option (Int) :=
  none
noncomputable def C92 : FnSpec := { ps := [.val (.slice (.int .i64)), .val (.int .i64), .val (.int .i64), .val (.int .i64)], rs := [.val (.int .i64)], fn := fun x => slices_partitionEqualOrdered_int x.1 x.2.1 x.2.2.1 x.2.2.2 }
theorem S92 : Sound Tryz.prog 92 C92 := fun _ _ _ _ _ _ _ _ _ _ h => nomatch h
/-- slices.partitionOrdered[int] -/
noncomputable def slices_partitionOrdered_int (_ : List Int) (_ : Int) (_ : Int) (_ : Int) : Option (Int × Bool) :=
  none
noncomputable def C93 : FnSpec := { ps := [.val (.slice (.int .i64)), .val (.int .i64), .val (.int .i64), .val (.int .i64)], rs := [.val (.int .i64), .val .bool], fn := fun x => slices_partitionOrdered_int x.1 x.2.1 x.2.2.1 x.2.2.2 }
theorem S93 : Sound Tryz.prog 93 C93 := fun _ _ _ _ _ _ _ _ _ _ h => nomatch h
/-- slices.pdqsortOrdered[int] -/
noncomputable def slices_pdqsortOrdered_int_step (slices_pdqsortOrdered_int_again : (List Int) → Int → Int → Int → Option ((List Int))) (p_data : List Int) (p_a : Int) (p_b : Int) (p_limit : Int) : Option ((List Int)) :=
  (loopE (fun (st2 : (List Int) × Int × Int × Int × Bool × Bool) => (
      bif (decide ((w64 (st2.2.2.1 - st2.2.1)) ≤ 12)) then
        (slices_insertionSortOrdered_int st2.1 st2.2.1 st2.2.2.1).bind fun r3 =>
        some (.inr r3)
      else
        bif (decide (st2.2.2.2.1 = 0)) then
          (slices_heapSortOrdered_int st2.1 st2.2.1 st2.2.2.1).bind fun _ =>
          some (.inr st2.1)
        else
          (bif (!st2.2.2.2.2.1) then
              (slices_breakPatternsOrdered_int st2.1 st2.2.1 st2.2.2.1).bind fun _ =>
              some (st2.1, (w64 (st2.2.2.2.1 - 1)))
            else
              some (st2.1, st2.2.2.2.1)).bind fun j6 =>
          (slices_choosePivotOrdered_int j6.1 st2.2.1 st2.2.2.1).bind fun r7 =>
          (bif (decide (r7.2 = 2)) then
              (slices_reverseRangeOrdered_int j6.1 st2.2.1 st2.2.2.1).bind fun _ =>
              some (j6.1, (w64 ((w64 (st2.2.2.1 - 1)) - (w64 (r7.1 - st2.2.1)))), 1)
            else
              some (j6.1, r7.1, r7.2)).bind fun j9 =>
          (((bif st2.2.2.2.2.1 then
                  some st2.2.2.2.2.2
                else
                  some false).bind fun c10 =>
              (bif c10 then
                  some (decide (j9.2.2 = 1))
                else
                  some false).bind fun c11 =>
              bif c11 then
                (slices_partialInsertionSortOrdered_int j9.1 st2.2.1 st2.2.2.1).bind fun r12 =>
                bif r12 then
                  some (.inr j9.1)
                else
                  some (.inl j9.1)
              else
                some (.inl j9.1) : Option ((List Int) ⊕ (List Int)))).bind fun j13 =>
          match j13 with
          | .inl x14 =>
            (bif (decide (0 < st2.2.1)) then
                bif decide (0 ≤ (w64 (st2.2.1 - 1))) && decide ((w64 (st2.2.1 - 1)) < (x14.length : Int)) then
                  (x14[(Int.toNat (w64 (st2.2.1 - 1)))]?).bind fun e16 =>
                  bif decide (0 ≤ j9.2.1) && decide (j9.2.1 < (x14.length : Int)) then
                    (x14[(Int.toNat j9.2.1)]?).bind fun e17 =>
                    (cmp_Less_int e16 e17).bind fun r18 =>
                    some (!r18)
                  else
                    none
                else
                  none
              else
                some false).bind fun c19 =>
            bif c19 then
              (slices_partitionEqualOrdered_int x14 st2.2.1 st2.2.2.1 j9.2.1).bind fun r20 =>
              some (.inl (x14, r20, st2.2.2.1, j6.2, st2.2.2.2.2.1, st2.2.2.2.2.2))
            else
              (slices_partitionOrdered_int x14 st2.2.1 st2.2.2.1 j9.2.1).bind fun r21 =>
              bif (decide ((w64 (r21.1 - st2.2.1)) < (w64 (st2.2.2.1 - r21.1)))) then
                (slices_pdqsortOrdered_int_again x14 st2.2.1 r21.1 j6.2).bind fun r22 =>
                some (.inl (r22, (w64 (r21.1 + 1)), st2.2.2.1, j6.2, (decide ((w64 (Int.tdiv (w64 (st2.2.2.1 - st2.2.1)) 8)) ≤ (w64 (r21.1 - st2.2.1)))), r21.2))
              else
                (slices_pdqsortOrdered_int_again x14 (w64 (r21.1 + 1)) st2.2.2.1 j6.2).bind fun r23 =>
                some (.inl (r23, st2.2.1, r21.1, j6.2, (decide ((w64 (Int.tdiv (w64 (st2.2.2.1 - st2.2.1)) 8)) ≤ (w64 (st2.2.2.1 - r21.1)))), r21.2))
          | .inr y15 =>
            some (.inr y15) : Option (((List Int) × Int × Int × Int × Bool × Bool) ⊕ ((List Int))))) (p_data, p_a, p_b, p_limit, true, true)).bind fun o24 =>
  some o24
noncomputable def slices_pdqsortOrdered_int_it : Nat → (List Int) → Int → Int → Int → Option ((List Int))
  | 0, _, _, _, _ => none
  | k + 1, p_data, p_a, p_b, p_limit => slices_pdqsortOrdered_int_step (slices_pdqsortOrdered_int_it k) p_data p_a p_b p_limit
noncomputable def slices_pdqsortOrdered_int (p_data : List Int) (p_a : Int) (p_b : Int) (p_limit : Int) : Option ((List Int)) := limE fun k => slices_pdqsortOrdered_int_it k p_data p_a p_b p_limit
noncomputable def C77 : FnSpec := { ps := [.own (.slice (.int .i64)), .val (.int .i64), .val (.int .i64), .val (.int .i64)], rs := [], fn := fun x => slices_pdqsortOrdered_int x.1 x.2.1 x.2.2.1 x.2.2.2 }
noncomputable def CR77 (again : (List Int) → Int → Int → Int → Option ((List Int))) : FnSpec := { ps := [.own (.slice (.int .i64)), .val (.int .i64), .val (.int .i64), .val (.int .i64)], rs := [], fn := fun x => again x.1 x.2.1 x.2.2.1 x.2.2.2 }
noncomputable def E77 (again : (List Int) → Int → Int → Int → Option ((List Int))) : Env := { T := [(3, (.int .i64)), (42, (.slice (.int .i64)))], G := [(77, CR77 again), (85, C85), (86, C86), (87, C87), (88, C88), (89, C89), (90, C90), (91, C91), (92, C92), (93, C93)], ro := [], loops := [(2, { keep := [], live := [.own 0 [] 100000 (.int .i64) true, .tv 1 (.int .i64), .tv 2 (.int .i64), .tv 3 (.int .i64), .tv 8 .bool, .tv 9 .bool], outs := [(.ret, [.own 0 [] 100000 (.int .i64) true])] })], joins := [(10, { keep := [1, 2, 8, 9, 10], live := [], outs := [(.normal, [.own 0 [] 100000 (.int .i64) true, .tv 3 (.int .i64)])] }), (15, { keep := [1, 2, 3, 8, 9, 10], live := [], outs := [(.normal, [.own 0 [] 100000 (.int .i64) true, .tv 11 (.int .i64), .tv 12 (.int .i64)])] }), (17, { keep := [1, 2, 3, 8, 9, 10, 11], live := [], outs := [(.normal, [.own 0 [] 100000 (.int .i64) true]), (.ret, [.own 0 [] 100000 (.int .i64) true])] })] }
theorem E77_eq : ∀ (again : (List Int) → Int → Int → Int → Option ((List Int))) x, afun (E77 again) Tryz.f77 C77.ps C77.rs x = slices_pdqsortOrdered_int_step again x.1 x.2.1 x.2.2.1 x.2.2.2 := fun again x => by kernel_rfl
theorem S77_it : ∀ k, Sound Tryz.prog 77 (CR77 (slices_pdqsortOrdered_int_it k))
  | 0 => fun _ _ _ _ _ _ _ _ _ _ h => nomatch h
  | k + 1 => fun_sound_own (E := E77 (slices_pdqsortOrdered_int_it k)) ⟨good_T (by kernel_rfl), (good_cons (S77_it k) ⟨_, Tryz.func77, by kernel_rfl, by kernel_rfl⟩ (good_cons S85 ⟨_, Tryz.func85, by kernel_rfl, by kernel_rfl⟩ (good_cons S86 ⟨_, Tryz.func86, by kernel_rfl, by kernel_rfl⟩ (good_cons S87 ⟨_, Tryz.func87, by kernel_rfl, by kernel_rfl⟩ (good_cons S88 ⟨_, Tryz.func88, by kernel_rfl, by kernel_rfl⟩ (good_cons S89 ⟨_, Tryz.func89, by kernel_rfl, by kernel_rfl⟩ (good_cons S90 ⟨_, Tryz.func90, by kernel_rfl, by kernel_rfl⟩ (good_cons S91 ⟨_, Tryz.func91, by kernel_rfl, by kernel_rfl⟩ (good_cons S92 ⟨_, Tryz.func92, by kernel_rfl, by kernel_rfl⟩ (good_cons S93 ⟨_, Tryz.func93, by kernel_rfl, by kernel_rfl⟩ good_nil)))))))))), mixedOk, ins_nil⟩ Tryz.func77 rfl rfl (E77_eq _)
theorem S77 : Sound Tryz.prog 77 C77 := sound_lim (P := Tryz.prog) (f := 77) (ps := C77.ps) (rs := C77.rs) (g := fun k x => slices_pdqsortOrdered_int_it k x.1 x.2.1 x.2.2.1 x.2.2.2) S77_it
/-- math/bits.Len32 -/
noncomputable def math_bits_Len32 (p_x : Int) : Option (Int) :=
  bif (decide (65536 ≤ p_x)) then
    bif (decide (256 ≤ (shiftI .shr .u32 p_x 16))) then
      (idx ([0, 1, 2, 2, 3, 3, 3, 3, 4, 4, 4, 4, 4, 4, 4, 4, 5, 5, 5, 5, 5, 5, 5, 5, 5, 5, 5, 5, 5, 5, 5, 5, 6, 6, 6, 6, 6, 6, 6, 6, 6, 6, 6, 6, 6, 6, 6, 6, 6, 6, 6, 6, 6, 6, 6, 6, 6, 6, 6, 6, 6, 6, 6, 6, 7, 7, 7, 7, 7, 7, 7, 7, 7, 7, 7, 7, 7, 7, 7, 7, 7, 7, 7, 7, 7, 7, 7, 7, 7, 7, 7, 7, 7, 7, 7, 7, 7, 7, 7, 7, 7, 7, 7, 7, 7, 7, 7, 7, 7, 7, 7, 7, 7, 7, 7, 7, 7, 7, 7, 7, 7, 7, 7, 7, 7, 7, 7, 7, 8, 8, 8, 8, 8, 8, 8, 8, 8, 8, 8, 8, 8, 8, 8, 8, 8, 8, 8, 8, 8, 8, 8, 8, 8, 8, 8, 8, 8, 8, 8, 8, 8, 8, 8, 8, 8, 8, 8, 8, 8, 8, 8, 8, 8, 8, 8, 8, 8, 8, 8, 8, 8, 8, 8, 8, 8, 8, 8, 8, 8, 8, 8, 8, 8, 8, 8, 8, 8, 8, 8, 8, 8, 8, 8, 8, 8, 8, 8, 8, 8, 8, 8, 8, 8, 8, 8, 8, 8, 8, 8, 8, 8, 8, 8, 8, 8, 8, 8, 8, 8, 8, 8, 8, 8, 8, 8, 8, 8, 8, 8, 8, 8, 8, 8, 8, 8, 8, 8, 8, 8, 8, 8, 8, 8, 8, 8, 8] : Bytes) (IntKind.u8.wrap (shiftI .shr .u32 (shiftI .shr .u32 p_x 16) 8))).bind fun b1 =>
      some (w64 ((w64 (16 + 8)) + (w64 (b1.toNat : Int))))
    else
      (idx ([0, 1, 2, 2, 3, 3, 3, 3, 4, 4, 4, 4, 4, 4, 4, 4, 5, 5, 5, 5, 5, 5, 5, 5, 5, 5, 5, 5, 5, 5, 5, 5, 6, 6, 6, 6, 6, 6, 6, 6, 6, 6, 6, 6, 6, 6, 6, 6, 6, 6, 6, 6, 6, 6, 6, 6, 6, 6, 6, 6, 6, 6, 6, 6, 7, 7, 7, 7, 7, 7, 7, 7, 7, 7, 7, 7, 7, 7, 7, 7, 7, 7, 7, 7, 7, 7, 7, 7, 7, 7, 7, 7, 7, 7, 7, 7, 7, 7, 7, 7, 7, 7, 7, 7, 7, 7, 7, 7, 7, 7, 7, 7, 7, 7, 7, 7, 7, 7, 7, 7, 7, 7, 7, 7, 7, 7, 7, 7, 8, 8, 8, 8, 8, 8, 8, 8, 8, 8, 8, 8, 8, 8, 8, 8, 8, 8, 8, 8, 8, 8, 8, 8, 8, 8, 8, 8, 8, 8, 8, 8, 8, 8, 8, 8, 8, 8, 8, 8, 8, 8, 8, 8, 8, 8, 8, 8, 8, 8, 8, 8, 8, 8, 8, 8, 8, 8, 8, 8, 8, 8, 8, 8, 8, 8, 8, 8, 8, 8, 8, 8, 8, 8, 8, 8, 8, 8, 8, 8, 8, 8, 8, 8, 8, 8, 8, 8, 8, 8, 8, 8, 8, 8, 8, 8, 8, 8, 8, 8, 8, 8, 8, 8, 8, 8, 8, 8, 8, 8, 8, 8, 8, 8, 8, 8, 8, 8, 8, 8, 8, 8, 8, 8, 8, 8, 8, 8] : Bytes) (IntKind.u8.wrap (shiftI .shr .u32 p_x 16))).bind fun b2 =>
      some (w64 (16 + (w64 (b2.toNat : Int))))
  else
    bif (decide (256 ≤ p_x)) then
      (idx ([0, 1, 2, 2, 3, 3, 3, 3, 4, 4, 4, 4, 4, 4, 4, 4, 5, 5, 5, 5, 5, 5, 5, 5, 5, 5, 5, 5, 5, 5, 5, 5, 6, 6, 6, 6, 6, 6, 6, 6, 6, 6, 6, 6, 6, 6, 6, 6, 6, 6, 6, 6, 6, 6, 6, 6, 6, 6, 6, 6, 6, 6, 6, 6, 7, 7, 7, 7, 7, 7, 7, 7, 7, 7, 7, 7, 7, 7, 7, 7, 7, 7, 7, 7, 7, 7, 7, 7, 7, 7, 7, 7, 7, 7, 7, 7, 7, 7, 7, 7, 7, 7, 7, 7, 7, 7, 7, 7, 7, 7, 7, 7, 7, 7, 7, 7, 7, 7, 7, 7, 7, 7, 7, 7, 7, 7, 7, 7, 8, 8, 8, 8, 8, 8, 8, 8, 8, 8, 8, 8, 8, 8, 8, 8, 8, 8, 8, 8, 8, 8, 8, 8, 8, 8, 8, 8, 8, 8, 8, 8, 8, 8, 8, 8, 8, 8, 8, 8, 8, 8, 8, 8, 8, 8, 8, 8, 8, 8, 8, 8, 8, 8, 8, 8, 8, 8, 8, 8, 8, 8, 8, 8, 8, 8, 8, 8, 8, 8, 8, 8, 8, 8, 8, 8, 8, 8, 8, 8, 8, 8, 8, 8, 8, 8, 8, 8, 8, 8, 8, 8, 8, 8, 8, 8, 8, 8, 8, 8, 8, 8, 8, 8, 8, 8, 8, 8, 8, 8, 8, 8, 8, 8, 8, 8, 8, 8, 8, 8, 8, 8, 8, 8, 8, 8, 8, 8] : Bytes) (IntKind.u8.wrap (shiftI .shr .u32 p_x 8))).bind fun b3 =>
      some (w64 ((w64 (0 + 8)) + (w64 (b3.toNat : Int))))
    else
      (idx ([0, 1, 2, 2, 3, 3, 3, 3, 4, 4, 4, 4, 4, 4, 4, 4, 5, 5, 5, 5, 5, 5, 5, 5, 5, 5, 5, 5, 5, 5, 5, 5, 6, 6, 6, 6, 6, 6, 6, 6, 6, 6, 6, 6, 6, 6, 6, 6, 6, 6, 6, 6, 6, 6, 6, 6, 6, 6, 6, 6, 6, 6, 6, 6, 7, 7, 7, 7, 7, 7, 7, 7, 7, 7, 7, 7, 7, 7, 7, 7, 7, 7, 7, 7, 7, 7, 7, 7, 7, 7, 7, 7, 7, 7, 7, 7, 7, 7, 7, 7, 7, 7, 7, 7, 7, 7, 7, 7, 7, 7, 7, 7, 7, 7, 7, 7, 7, 7, 7, 7, 7, 7, 7, 7, 7, 7, 7, 7, 8, 8, 8, 8, 8, 8, 8, 8, 8, 8, 8, 8, 8, 8, 8, 8, 8, 8, 8, 8, 8, 8, 8, 8, 8, 8, 8, 8, 8, 8, 8, 8, 8, 8, 8, 8, 8, 8, 8, 8, 8, 8, 8, 8, 8, 8, 8, 8, 8, 8, 8, 8, 8, 8, 8, 8, 8, 8, 8, 8, 8, 8, 8, 8, 8, 8, 8, 8, 8, 8, 8, 8, 8, 8, 8, 8, 8, 8, 8, 8, 8, 8, 8, 8, 8, 8, 8, 8, 8, 8, 8, 8, 8, 8, 8, 8, 8, 8, 8, 8, 8, 8, 8, 8, 8, 8, 8, 8, 8, 8, 8, 8, 8, 8, 8, 8, 8, 8, 8, 8, 8, 8, 8, 8, 8, 8, 8, 8] : Bytes) (IntKind.u8.wrap p_x)).bind fun b4 =>
      some (w64 (0 + (w64 (b4.toNat : Int))))
noncomputable def C94 : FnSpec := { ps := [.val (.int .u32)], rs := [.val (.int .i64)], fn := fun x => math_bits_Len32 x }
noncomputable def E94 : Env := { T := [(3, (.int .i64)), (5, (.int .u8)), (9, .str), (113, (.int .u32))], G := [], ro := [], loops := [], joins := [] }
theorem E94_eq : ∀ x, afun E94 Tryz.f94 C94.ps C94.rs x = C94.fn x := fun x => by kernel_rfl
theorem S94 : Sound Tryz.prog 94 C94 := fun_sound (E := E94) ⟨good_T (by kernel_rfl), good_nil, mixedOk, ins_nil⟩ Tryz.func94 rfl E94_eq
/-- math/bits.Len64 -/
noncomputable def math_bits_Len64 (p_x : Int) : Option (Int) :=
  bif (decide (4294967296 ≤ p_x)) then
    bif (decide (65536 ≤ (shiftI .shr .u64 p_x 32))) then
      bif (decide (256 ≤ (shiftI .shr .u64 (shiftI .shr .u64 p_x 32) 16))) then
        (idx ([0, 1, 2, 2, 3, 3, 3, 3, 4, 4, 4, 4, 4, 4, 4, 4, 5, 5, 5, 5, 5, 5, 5, 5, 5, 5, 5, 5, 5, 5, 5, 5, 6, 6, 6, 6, 6, 6, 6, 6, 6, 6, 6, 6, 6, 6, 6, 6, 6, 6, 6, 6, 6, 6, 6, 6, 6, 6, 6, 6, 6, 6, 6, 6, 7, 7, 7, 7, 7, 7, 7, 7, 7, 7, 7, 7, 7, 7, 7, 7, 7, 7, 7, 7, 7, 7, 7, 7, 7, 7, 7, 7, 7, 7, 7, 7, 7, 7, 7, 7, 7, 7, 7, 7, 7, 7, 7, 7, 7, 7, 7, 7, 7, 7, 7, 7, 7, 7, 7, 7, 7, 7, 7, 7, 7, 7, 7, 7, 8, 8, 8, 8, 8, 8, 8, 8, 8, 8, 8, 8, 8, 8, 8, 8, 8, 8, 8, 8, 8, 8, 8, 8, 8, 8, 8, 8, 8, 8, 8, 8, 8, 8, 8, 8, 8, 8, 8, 8, 8, 8, 8, 8, 8, 8, 8, 8, 8, 8, 8, 8, 8, 8, 8, 8, 8, 8, 8, 8, 8, 8, 8, 8, 8, 8, 8, 8, 8, 8, 8, 8, 8, 8, 8, 8, 8, 8, 8, 8, 8, 8, 8, 8, 8, 8, 8, 8, 8, 8, 8, 8, 8, 8, 8, 8, 8, 8, 8, 8, 8, 8, 8, 8, 8, 8, 8, 8, 8, 8, 8, 8, 8, 8, 8, 8, 8, 8, 8, 8, 8, 8, 8, 8, 8, 8, 8, 8] : Bytes) (IntKind.u8.wrap (shiftI .shr .u64 (shiftI .shr .u64 (shiftI .shr .u64 p_x 32) 16) 8))).bind fun b1 =>
        some (w64 ((w64 ((w64 (32 + 16)) + 8)) + (w64 (b1.toNat : Int))))
      else
        (idx ([0, 1, 2, 2, 3, 3, 3, 3, 4, 4, 4, 4, 4, 4, 4, 4, 5, 5, 5, 5, 5, 5, 5, 5, 5, 5, 5, 5, 5, 5, 5, 5, 6, 6, 6, 6, 6, 6, 6, 6, 6, 6, 6, 6, 6, 6, 6, 6, 6, 6, 6, 6, 6, 6, 6, 6, 6, 6, 6, 6, 6, 6, 6, 6, 7, 7, 7, 7, 7, 7, 7, 7, 7, 7, 7, 7, 7, 7, 7, 7, 7, 7, 7, 7, 7, 7, 7, 7, 7, 7, 7, 7, 7, 7, 7, 7, 7, 7, 7, 7, 7, 7, 7, 7, 7, 7, 7, 7, 7, 7, 7, 7, 7, 7, 7, 7, 7, 7, 7, 7, 7, 7, 7, 7, 7, 7, 7, 7, 8, 8, 8, 8, 8, 8, 8, 8, 8, 8, 8, 8, 8, 8, 8, 8, 8, 8, 8, 8, 8, 8, 8, 8, 8, 8, 8, 8, 8, 8, 8, 8, 8, 8, 8, 8, 8, 8, 8, 8, 8, 8, 8, 8, 8, 8, 8, 8, 8, 8, 8, 8, 8, 8, 8, 8, 8, 8, 8, 8, 8, 8, 8, 8, 8, 8, 8, 8, 8, 8, 8, 8, 8, 8, 8, 8, 8, 8, 8, 8, 8, 8, 8, 8, 8, 8, 8, 8, 8, 8, 8, 8, 8, 8, 8, 8, 8, 8, 8, 8, 8, 8, 8, 8, 8, 8, 8, 8, 8, 8, 8, 8, 8, 8, 8, 8, 8, 8, 8, 8, 8, 8, 8, 8, 8, 8, 8, 8] : Bytes) (IntKind.u8.wrap (shiftI .shr .u64 (shiftI .shr .u64 p_x 32) 16))).bind fun b2 =>
        some (w64 ((w64 (32 + 16)) + (w64 (b2.toNat : Int))))
    else
      bif (decide (256 ≤ (shiftI .shr .u64 p_x 32))) then
        (idx ([0, 1, 2, 2, 3, 3, 3, 3, 4, 4, 4, 4, 4, 4, 4, 4, 5, 5, 5, 5, 5, 5, 5, 5, 5, 5, 5, 5, 5, 5, 5, 5, 6, 6, 6, 6, 6, 6, 6, 6, 6, 6, 6, 6, 6, 6, 6, 6, 6, 6, 6, 6, 6, 6, 6, 6, 6, 6, 6, 6, 6, 6, 6, 6, 7, 7, 7, 7, 7, 7, 7, 7, 7, 7, 7, 7, 7, 7, 7, 7, 7, 7, 7, 7, 7, 7, 7, 7, 7, 7, 7, 7, 7, 7, 7, 7, 7, 7, 7, 7, 7, 7, 7, 7, 7, 7, 7, 7, 7, 7, 7, 7, 7, 7, 7, 7, 7, 7, 7, 7, 7, 7, 7, 7, 7, 7, 7, 7, 8, 8, 8, 8, 8, 8, 8, 8, 8, 8, 8, 8, 8, 8, 8, 8, 8, 8, 8, 8, 8, 8, 8, 8, 8, 8, 8, 8, 8, 8, 8, 8, 8, 8, 8, 8, 8, 8, 8, 8, 8, 8, 8, 8, 8, 8, 8, 8, 8, 8, 8, 8, 8, 8, 8, 8, 8, 8, 8, 8, 8, 8, 8, 8, 8, 8, 8, 8, 8, 8, 8, 8, 8, 8, 8, 8, 8, 8, 8, 8, 8, 8, 8, 8, 8, 8, 8, 8, 8, 8, 8, 8, 8, 8, 8, 8, 8, 8, 8, 8, 8, 8, 8, 8, 8, 8, 8, 8, 8, 8, 8, 8, 8, 8, 8, 8, 8, 8, 8, 8, 8, 8, 8, 8, 8, 8, 8, 8] : Bytes) (IntKind.u8.wrap (shiftI .shr .u64 (shiftI .shr .u64 p_x 32) 8))).bind fun b3 =>
        some (w64 ((w64 (32 + 8)) + (w64 (b3.toNat : Int))))
      else
        (idx ([0, 1, 2, 2, 3, 3, 3, 3, 4, 4, 4, 4, 4, 4, 4, 4, 5, 5, 5, 5, 5, 5, 5, 5, 5, 5, 5, 5, 5, 5, 5, 5, 6, 6, 6, 6, 6, 6, 6, 6, 6, 6, 6, 6, 6, 6, 6, 6, 6, 6, 6, 6, 6, 6, 6, 6, 6, 6, 6, 6, 6, 6, 6, 6, 7, 7, 7, 7, 7, 7, 7, 7, 7, 7, 7, 7, 7, 7, 7, 7, 7, 7, 7, 7, 7, 7, 7, 7, 7, 7, 7, 7, 7, 7, 7, 7, 7, 7, 7, 7, 7, 7, 7, 7, 7, 7, 7, 7, 7, 7, 7, 7, 7, 7, 7, 7, 7, 7, 7, 7, 7, 7, 7, 7, 7, 7, 7, 7, 8, 8, 8, 8, 8, 8, 8, 8, 8, 8, 8, 8, 8, 8, 8, 8, 8, 8, 8, 8, 8, 8, 8, 8, 8, 8, 8, 8, 8, 8, 8, 8, 8, 8, 8, 8, 8, 8, 8, 8, 8, 8, 8, 8, 8, 8, 8, 8, 8, 8, 8, 8, 8, 8, 8, 8, 8, 8, 8, 8, 8, 8, 8, 8, 8, 8, 8, 8, 8, 8, 8, 8, 8, 8, 8, 8, 8, 8, 8, 8, 8, 8, 8, 8, 8, 8, 8, 8, 8, 8, 8, 8, 8, 8, 8, 8, 8, 8, 8, 8, 8, 8, 8, 8, 8, 8, 8, 8, 8, 8, 8, 8, 8, 8, 8, 8, 8, 8, 8, 8, 8, 8, 8, 8, 8, 8, 8, 8] : Bytes) (IntKind.u8.wrap (shiftI .shr .u64 p_x 32))).bind fun b4 =>
        some (w64 (32 + (w64 (b4.toNat : Int))))
  else
    bif (decide (65536 ≤ p_x)) then
      bif (decide (256 ≤ (shiftI .shr .u64 p_x 16))) then
        (idx ([0, 1, 2, 2, 3, 3, 3, 3, 4, 4, 4, 4, 4, 4, 4, 4, 5, 5, 5, 5, 5, 5, 5, 5, 5, 5, 5, 5, 5, 5, 5, 5, 6, 6, 6, 6, 6, 6, 6, 6, 6, 6, 6, 6, 6, 6, 6, 6, 6, 6, 6, 6, 6, 6, 6, 6, 6, 6, 6, 6, 6, 6, 6, 6, 7, 7, 7, 7, 7, 7, 7, 7, 7, 7, 7, 7, 7, 7, 7, 7, 7, 7, 7, 7, 7, 7, 7, 7, 7, 7, 7, 7, 7, 7, 7, 7, 7, 7, 7, 7, 7, 7, 7, 7, 7, 7, 7, 7, 7, 7, 7, 7, 7, 7, 7, 7, 7, 7, 7, 7, 7, 7, 7, 7, 7, 7, 7, 7, 8, 8, 8, 8, 8, 8, 8, 8, 8, 8, 8, 8, 8, 8, 8, 8, 8, 8, 8, 8, 8, 8, 8, 8, 8, 8, 8, 8, 8, 8, 8, 8, 8, 8, 8, 8, 8, 8, 8, 8, 8, 8, 8, 8, 8, 8, 8, 8, 8, 8, 8, 8, 8, 8, 8, 8, 8, 8, 8, 8, 8, 8, 8, 8, 8, 8, 8, 8, 8, 8, 8, 8, 8, 8, 8, 8, 8, 8, 8, 8, 8, 8, 8, 8, 8, 8, 8, 8, 8, 8, 8, 8, 8, 8, 8, 8, 8, 8, 8, 8, 8, 8, 8, 8, 8, 8, 8, 8, 8, 8, 8, 8, 8, 8, 8, 8, 8, 8, 8, 8, 8, 8, 8, 8, 8, 8, 8, 8] : Bytes) (IntKind.u8.wrap (shiftI .shr .u64 (shiftI .shr .u64 p_x 16) 8))).bind fun b5 =>
        some (w64 ((w64 ((w64 (0 + 16)) + 8)) + (w64 (b5.toNat : Int))))
      else
        (idx ([0, 1, 2, 2, 3, 3, 3, 3, 4, 4, 4, 4, 4, 4, 4, 4, 5, 5, 5, 5, 5, 5, 5, 5, 5, 5, 5, 5, 5, 5, 5, 5, 6, 6, 6, 6, 6, 6, 6, 6, 6, 6, 6, 6, 6, 6, 6, 6, 6, 6, 6, 6, 6, 6, 6, 6, 6, 6, 6, 6, 6, 6, 6, 6, 7, 7, 7, 7, 7, 7, 7, 7, 7, 7, 7, 7, 7, 7, 7, 7, 7, 7, 7, 7, 7, 7, 7, 7, 7, 7, 7, 7, 7, 7, 7, 7, 7, 7, 7, 7, 7, 7, 7, 7, 7, 7, 7, 7, 7, 7, 7, 7, 7, 7, 7, 7, 7, 7, 7, 7, 7, 7, 7, 7, 7, 7, 7, 7, 8, 8, 8, 8, 8, 8, 8, 8, 8, 8, 8, 8, 8, 8, 8, 8, 8, 8, 8, 8, 8, 8, 8, 8, 8, 8, 8, 8, 8, 8, 8, 8, 8, 8, 8, 8, 8, 8, 8, 8, 8, 8, 8, 8, 8, 8, 8, 8, 8, 8, 8, 8, 8, 8, 8, 8, 8, 8, 8, 8, 8, 8, 8, 8, 8, 8, 8, 8, 8, 8, 8, 8, 8, 8, 8, 8, 8, 8, 8, 8, 8, 8, 8, 8, 8, 8, 8, 8, 8, 8, 8, 8, 8, 8, 8, 8, 8, 8, 8, 8, 8, 8, 8, 8, 8, 8, 8, 8, 8, 8, 8, 8, 8, 8, 8, 8, 8, 8, 8, 8, 8, 8, 8, 8, 8, 8, 8, 8] : Bytes) (IntKind.u8.wrap (shiftI .shr .u64 p_x 16))).bind fun b6 =>
        some (w64 ((w64 (0 + 16)) + (w64 (b6.toNat : Int))))
    else
      bif (decide (256 ≤ p_x)) then
        (idx ([0, 1, 2, 2, 3, 3, 3, 3, 4, 4, 4, 4, 4, 4, 4, 4, 5, 5, 5, 5, 5, 5, 5, 5, 5, 5, 5, 5, 5, 5, 5, 5, 6, 6, 6, 6, 6, 6, 6, 6, 6, 6, 6, 6, 6, 6, 6, 6, 6, 6, 6, 6, 6, 6, 6, 6, 6, 6, 6, 6, 6, 6, 6, 6, 7, 7, 7, 7, 7, 7, 7, 7, 7, 7, 7, 7, 7, 7, 7, 7, 7, 7, 7, 7, 7, 7, 7, 7, 7, 7, 7, 7, 7, 7, 7, 7, 7, 7, 7, 7, 7, 7, 7, 7, 7, 7, 7, 7, 7, 7, 7, 7, 7, 7, 7, 7, 7, 7, 7, 7, 7, 7, 7, 7, 7, 7, 7, 7, 8, 8, 8, 8, 8, 8, 8, 8, 8, 8, 8, 8, 8, 8, 8, 8, 8, 8, 8, 8, 8, 8, 8, 8, 8, 8, 8, 8, 8, 8, 8, 8, 8, 8, 8, 8, 8, 8, 8, 8, 8, 8, 8, 8, 8, 8, 8, 8, 8, 8, 8, 8, 8, 8, 8, 8, 8, 8, 8, 8, 8, 8, 8, 8, 8, 8, 8, 8, 8, 8, 8, 8, 8, 8, 8, 8, 8, 8, 8, 8, 8, 8, 8, 8, 8, 8, 8, 8, 8, 8, 8, 8, 8, 8, 8, 8, 8, 8, 8, 8, 8, 8, 8, 8, 8, 8, 8, 8, 8, 8, 8, 8, 8, 8, 8, 8, 8, 8, 8, 8, 8, 8, 8, 8, 8, 8, 8, 8] : Bytes) (IntKind.u8.wrap (shiftI .shr .u64 p_x 8))).bind fun b7 =>
        some (w64 ((w64 (0 + 8)) + (w64 (b7.toNat : Int))))
      else
        (idx ([0, 1, 2, 2, 3, 3, 3, 3, 4, 4, 4, 4, 4, 4, 4, 4, 5, 5, 5, 5, 5, 5, 5, 5, 5, 5, 5, 5, 5, 5, 5, 5, 6, 6, 6, 6, 6, 6, 6, 6, 6, 6, 6, 6, 6, 6, 6, 6, 6, 6, 6, 6, 6, 6, 6, 6, 6, 6, 6, 6, 6, 6, 6, 6, 7, 7, 7, 7, 7, 7, 7, 7, 7, 7, 7, 7, 7, 7, 7, 7, 7, 7, 7, 7, 7, 7, 7, 7, 7, 7, 7, 7, 7, 7, 7, 7, 7, 7, 7, 7, 7, 7, 7, 7, 7, 7, 7, 7, 7, 7, 7, 7, 7, 7, 7, 7, 7, 7, 7, 7, 7, 7, 7, 7, 7, 7, 7, 7, 8, 8, 8, 8, 8, 8, 8, 8, 8, 8, 8, 8, 8, 8, 8, 8, 8, 8, 8, 8, 8, 8, 8, 8, 8, 8, 8, 8, 8, 8, 8, 8, 8, 8, 8, 8, 8, 8, 8, 8, 8, 8, 8, 8, 8, 8, 8, 8, 8, 8, 8, 8, 8, 8, 8, 8, 8, 8, 8, 8, 8, 8, 8, 8, 8, 8, 8, 8, 8, 8, 8, 8, 8, 8, 8, 8, 8, 8, 8, 8, 8, 8, 8, 8, 8, 8, 8, 8, 8, 8, 8, 8, 8, 8, 8, 8, 8, 8, 8, 8, 8, 8, 8, 8, 8, 8, 8, 8, 8, 8, 8, 8, 8, 8, 8, 8, 8, 8, 8, 8, 8, 8, 8, 8, 8, 8, 8, 8] : Bytes) (IntKind.u8.wrap p_x)).bind fun b8 =>
        some (w64 (0 + (w64 (b8.toNat : Int))))
noncomputable def C95 : FnSpec := { ps := [.val (.int .u64)], rs := [.val (.int .i64)], fn := fun x => math_bits_Len64 x }
noncomputable def E95 : Env := { T := [(3, (.int .i64)), (5, (.int .u8)), (9, .str), (57, (.int .u64))], G := [], ro := [], loops := [], joins := [] }
theorem E95_eq : ∀ x, afun E95 Tryz.f95 C95.ps C95.rs x = C95.fn x := fun x => by kernel_rfl
theorem S95 : Sound Tryz.prog 95 C95 := fun_sound (E := E95) ⟨good_T (by kernel_rfl), good_nil, mixedOk, ins_nil⟩ Tryz.func95 rfl E95_eq
/-- math/bits.Len -/
noncomputable def math_bits_Len (p_x : Int) : Option (Int) :=
  bif false then
    (math_bits_Len32 (IntKind.u32.wrap p_x)).bind fun r1 =>
    some r1
  else
    (math_bits_Len64 p_x).bind fun r2 =>
    some r2
noncomputable def C78 : FnSpec := { ps := [.val (.int .u64)], rs := [.val (.int .i64)], fn := fun x => math_bits_Len x }
noncomputable def E78 : Env := { T := [(93, (.int .u64)), (113, (.int .u32))], G := [(94, C94), (95, C95)], ro := [], loops := [], joins := [] }
theorem E78_eq : ∀ x, afun E78 Tryz.f78 C78.ps C78.rs x = C78.fn x := fun x => by kernel_rfl
theorem S78 : Sound Tryz.prog 78 C78 := fun_sound (E := E78) ⟨good_T (by kernel_rfl), (good_cons S94 ⟨_, Tryz.func94, by kernel_rfl, by kernel_rfl⟩ (good_cons S95 ⟨_, Tryz.func95, by kernel_rfl, by kernel_rfl⟩ good_nil)), mixedOk, ins_nil⟩ Tryz.func78 rfl E78_eq
/-- slices.Sort[[]int,int] -/
noncomputable def slices_Sort_int (p_x : List Int) : Option ((List Int)) :=
  (math_bits_Len (IntKind.u64.wrap (p_x.length : Int))).bind fun r1 =>
  (slices_pdqsortOrdered_int p_x 0 (p_x.length : Int) r1).bind fun r2 =>
  some r2
noncomputable def C61 : FnSpec := { ps := [.own (.slice (.int .i64))], rs := [], fn := fun x => slices_Sort_int x }
noncomputable def E61 : Env := { T := [(3, (.int .i64)), (42, (.slice (.int .i64))), (93, (.int .u64))], G := [(77, C77), (78, C78)], ro := [], loops := [], joins := [] }
theorem E61_eq : ∀ x, afun E61 Tryz.f61 C61.ps C61.rs x = C61.fn x := fun x => by kernel_rfl
theorem S61 : Sound Tryz.prog 61 C61 := fun_sound_own (E := E61) ⟨good_T (by kernel_rfl), (good_cons S77 ⟨_, Tryz.func77, by kernel_rfl, by kernel_rfl⟩ (good_cons S78 ⟨_, Tryz.func78, by kernel_rfl, by kernel_rfl⟩ good_nil)), mixedOk, ins_nil⟩ Tryz.func61 rfl rfl E61_eq
/-- impl.makeMove -/
noncomputable def i_makeMove (p_l : List GTicket) (p_m : GDeskMove) : Option ((List GTicket) × Bool) :=
  (i_cloneTickets p_l).bind fun r1 =>
  (i_ticketIndex r1 p_m.2.1).bind fun r2 =>
  (bif (decide (p_m.1 = 1)) then
      some (decide (r2 < 0))
    else
      some false).bind fun c3 =>
  bif c3 then
    (loopE (fun (st5 : (List GTicket) × Int) => (
        (bif (decide (st5.2 < (st5.1.length : Int))) then
            bif decide (0 ≤ st5.2) && decide (st5.2 < (st5.1.length : Int)) then
              (st5.1[(Int.toNat st5.2)]?).bind fun e6 =>
              some (decide (e6.1 < p_m.2.1))
            else
              none
          else
            some false).bind fun c7 =>
        bif c7 then
          some (.inl (st5.1, (w64 (st5.2 + 1))))
        else
          some (.inr (st5.1, st5.2)) : Option (((List GTicket) × Int) ⊕ (((List GTicket) × Int))))) (r1, 0)).bind fun o8 =>
    bif decide (0 ≤ o8.2) && decide (o8.2 ≤ (o8.1.length : Int)) && decide (List.length o8.1 ≤ 999999) then
      (i_AreTickets (insV o8.1 o8.2 (p_m.2.1, p_m.2.2.1, [], 0, ()))).bind fun r9 =>
      bif (!r9) then
        some ([], false)
      else
        some ((insV o8.1 o8.2 (p_m.2.1, p_m.2.2.1, [], 0, ())), true)
    else
      none
  else
    (bif (decide (p_m.1 = 2)) then
        some (decide (0 ≤ r2))
      else
        some false).bind fun c10 =>
    (bif c10 then
        bif decide (0 ≤ r2) && decide (r2 < (r1.length : Int)) then
          (r1[(Int.toNat r2)]?).bind fun e11 =>
          some (decide (e11.2.2.2.1 = 0))
        else
          none
      else
        some false).bind fun c12 =>
    (bif c12 then
        bif decide (0 ≤ r2) && decide (r2 < (r1.length : Int)) then
          (r1[(Int.toNat r2)]?).bind fun e13 =>
          (i_within p_m.2.2.1 0 (w64 (e13.2.1 - 1))).bind fun r14 =>
          some r14
        else
          none
      else
        some false).bind fun c15 =>
    bif c15 then
      bif decide (0 ≤ r2) && decide (r2 < (r1.length : Int)) then
        (r1[(Int.toNat r2)]?).bind fun e16 =>
        (slices_Contains_int e16.2.2.1 p_m.2.2.1).bind fun r17 =>
        bif (!r17) then
          (r1[(Int.toNat r2)]?).bind fun e18 =>
          bif decide (List.length e18.2.2.1 + List.length [p_m.2.2.1] ≤ lim) then
            bothSame (
              bif Nat.beq (Int.toNat r2) (Int.toNat r2) then
                ((r1.set (Int.toNat r2) (e18.1, e18.2.1, (e18.2.2.1 ++ [p_m.2.2.1]), e18.2.2.2))[(Int.toNat r2)]?).bind fun e19 =>
                (slices_Sort_int e19.2.2.1).bind fun r20 =>
                (((r1.set (Int.toNat r2) (e18.1, e18.2.1, (e18.2.2.1 ++ [p_m.2.2.1]), e18.2.2.2)).set (Int.toNat r2) (e19.1, e19.2.1, r20, e19.2.2.2))[(Int.toNat r2)]?).bind fun e21 =>
                (((r1.set (Int.toNat r2) (e18.1, e18.2.1, (e18.2.2.1 ++ [p_m.2.2.1]), e18.2.2.2)).set (Int.toNat r2) (e19.1, e19.2.1, r20, e19.2.2.2))[(Int.toNat r2)]?).bind fun e22 =>
                bif (decide ((e21.2.2.1.length : Int) = e22.2.1)) then
                  (((r1.set (Int.toNat r2) (e18.1, e18.2.1, (e18.2.2.1 ++ [p_m.2.2.1]), e18.2.2.2)).set (Int.toNat r2) (e19.1, e19.2.1, r20, e19.2.2.2))[(Int.toNat r2)]?).bind fun e23 =>
                  (i_AreTickets (((r1.set (Int.toNat r2) (e18.1, e18.2.1, (e18.2.2.1 ++ [p_m.2.2.1]), e18.2.2.2)).set (Int.toNat r2) (e19.1, e19.2.1, r20, e19.2.2.2)).set (Int.toNat r2) (e23.1, e23.2.1, e23.2.2.1, 1, ()))).bind fun r24 =>
                  bif (!r24) then
                    some ([], false)
                  else
                    some ((((r1.set (Int.toNat r2) (e18.1, e18.2.1, (e18.2.2.1 ++ [p_m.2.2.1]), e18.2.2.2)).set (Int.toNat r2) (e19.1, e19.2.1, r20, e19.2.2.2)).set (Int.toNat r2) (e23.1, e23.2.1, e23.2.2.1, 1, ())), true)
                else
                  (i_AreTickets ((r1.set (Int.toNat r2) (e18.1, e18.2.1, (e18.2.2.1 ++ [p_m.2.2.1]), e18.2.2.2)).set (Int.toNat r2) (e19.1, e19.2.1, r20, e19.2.2.2))).bind fun r25 =>
                  bif (!r25) then
                    some ([], false)
                  else
                    some (((r1.set (Int.toNat r2) (e18.1, e18.2.1, (e18.2.2.1 ++ [p_m.2.2.1]), e18.2.2.2)).set (Int.toNat r2) (e19.1, e19.2.1, r20, e19.2.2.2)), true)
              else
                none)
            (
              (r1[(Int.toNat r2)]?).bind fun e26 =>
              ((r1.set (Int.toNat r2) (e26.1, e26.2.1, (e18.2.2.1 ++ [p_m.2.2.1]), e26.2.2.2))[(Int.toNat r2)]?).bind fun e27 =>
              (slices_Sort_int e27.2.2.1).bind fun r28 =>
              (((r1.set (Int.toNat r2) (e26.1, e26.2.1, (e18.2.2.1 ++ [p_m.2.2.1]), e26.2.2.2)).set (Int.toNat r2) (e27.1, e27.2.1, r28, e27.2.2.2))[(Int.toNat r2)]?).bind fun e29 =>
              (((r1.set (Int.toNat r2) (e26.1, e26.2.1, (e18.2.2.1 ++ [p_m.2.2.1]), e26.2.2.2)).set (Int.toNat r2) (e27.1, e27.2.1, r28, e27.2.2.2))[(Int.toNat r2)]?).bind fun e30 =>
              bif (decide ((e29.2.2.1.length : Int) = e30.2.1)) then
                (((r1.set (Int.toNat r2) (e26.1, e26.2.1, (e18.2.2.1 ++ [p_m.2.2.1]), e26.2.2.2)).set (Int.toNat r2) (e27.1, e27.2.1, r28, e27.2.2.2))[(Int.toNat r2)]?).bind fun e31 =>
                (i_AreTickets (((r1.set (Int.toNat r2) (e26.1, e26.2.1, (e18.2.2.1 ++ [p_m.2.2.1]), e26.2.2.2)).set (Int.toNat r2) (e27.1, e27.2.1, r28, e27.2.2.2)).set (Int.toNat r2) (e31.1, e31.2.1, e31.2.2.1, 1, ()))).bind fun r32 =>
                bif (!r32) then
                  some ([], false)
                else
                  some ((((r1.set (Int.toNat r2) (e26.1, e26.2.1, (e18.2.2.1 ++ [p_m.2.2.1]), e26.2.2.2)).set (Int.toNat r2) (e27.1, e27.2.1, r28, e27.2.2.2)).set (Int.toNat r2) (e31.1, e31.2.1, e31.2.2.1, 1, ())), true)
              else
                (i_AreTickets ((r1.set (Int.toNat r2) (e26.1, e26.2.1, (e18.2.2.1 ++ [p_m.2.2.1]), e26.2.2.2)).set (Int.toNat r2) (e27.1, e27.2.1, r28, e27.2.2.2))).bind fun r33 =>
                bif (!r33) then
                  some ([], false)
                else
                  some (((r1.set (Int.toNat r2) (e26.1, e26.2.1, (e18.2.2.1 ++ [p_m.2.2.1]), e26.2.2.2)).set (Int.toNat r2) (e27.1, e27.2.1, r28, e27.2.2.2)), true))
          else
            none
        else
          (r1[(Int.toNat r2)]?).bind fun e34 =>
          (r1[(Int.toNat r2)]?).bind fun e35 =>
          bif (decide ((e34.2.2.1.length : Int) = e35.2.1)) then
            (r1[(Int.toNat r2)]?).bind fun e36 =>
            (i_AreTickets (r1.set (Int.toNat r2) (e36.1, e36.2.1, e36.2.2.1, 1, ()))).bind fun r37 =>
            bif (!r37) then
              some ([], false)
            else
              some ((r1.set (Int.toNat r2) (e36.1, e36.2.1, e36.2.2.1, 1, ())), true)
          else
            (i_AreTickets r1).bind fun r38 =>
            bif (!r38) then
              some ([], false)
            else
              some (r1, true)
      else
        none
    else
      (bif (decide (p_m.1 = 3)) then
          some (decide (0 ≤ r2))
        else
          some false).bind fun c39 =>
      (bif c39 then
          bif decide (0 ≤ r2) && decide (r2 < (r1.length : Int)) then
            (r1[(Int.toNat r2)]?).bind fun e40 =>
            some (decide (e40.2.2.2.1 = 0))
          else
            none
        else
          some false).bind fun c41 =>
      bif c41 then
        bif decide (0 ≤ r2) && decide (r2 < (r1.length : Int)) then
          (r1[(Int.toNat r2)]?).bind fun e42 =>
          (i_AreTickets (r1.set (Int.toNat r2) (e42.1, e42.2.1, e42.2.2.1, 2, ()))).bind fun r43 =>
          bif (!r43) then
            some ([], false)
          else
            some ((r1.set (Int.toNat r2) (e42.1, e42.2.1, e42.2.2.1, 2, ())), true)
        else
          none
      else
        some ([], false)
noncomputable def C37 : FnSpec := { ps := [.val (.slice TGTicket), .val TGDeskMove], rs := [.own (.slice TGTicket), .val .bool], fn := fun x => i_makeMove x.1 x.2 }
noncomputable def E37 : Env := { T := [(3, (.int .i64)), (23, (.slice TGTicket)), (42, (.slice (.int .i64))), (44, TGTicket), (55, TGDeskMove)], G := [(22, C22), (42, C42), (45, C45), (51, C51), (55, C55), (61, C61)], ro := [3], loops := [(6, { keep := [3], live := [.own 6 [] 160 TGTicket true, .tv 7 (.int .i64)], outs := [(.exit 1, [.own 6 [] 160 TGTicket true, .tv 7 (.int .i64)])] })], joins := [], mv := true, ins := [(60, TGTicket)], hoist := [(12, [0])] }
theorem E37_eq : ∀ x, afun E37 Tryz.f37 C37.ps C37.rs x = C37.fn x := fun x => by kernel_rfl
theorem S37 : Sound Tryz.prog 37 C37 := fun_sound (E := E37) ⟨good_T (by kernel_rfl), (good_cons S22 ⟨_, Tryz.func22, by kernel_rfl, by kernel_rfl⟩ (good_cons S42 ⟨_, Tryz.func42, by kernel_rfl, by kernel_rfl⟩ (good_cons S45 ⟨_, Tryz.func45, by kernel_rfl, by kernel_rfl⟩ (good_cons S51 ⟨_, Tryz.func51, by kernel_rfl, by kernel_rfl⟩ (good_cons S55 ⟨_, Tryz.func55, by kernel_rfl, by kernel_rfl⟩ (good_cons S61 ⟨_, Tryz.func61, by kernel_rfl, by kernel_rfl⟩ good_nil)))))), mixedOk, (ins_cons insOk ⟨_, Tryz.func60, by kernel_rfl, by kernel_rfl⟩ ins_nil)⟩ Tryz.func37 rfl E37_eq
/-- impl.NoteArrival -/
noncomputable def i_NoteArrival (p_l : List GTicket) (p_message : Int) (p_part : Int) : Option ((List GTicket) × Bool) :=
  (i_AreTickets p_l).bind fun r1 =>
  bif (!r1) then
    some ([], false)
  else
    (i_makeMove p_l (2, p_message, p_part, ())).bind fun r2 =>
    some (r2.1, r2.2)
noncomputable def C6 : FnSpec := { ps := [.val (.slice TGTicket), .val (.int .i64), .val (.int .i64)], rs := [.own (.slice TGTicket), .val .bool], fn := fun x => i_NoteArrival x.1 x.2.1 x.2.2 }
noncomputable def E6 : Env := { T := [(55, TGDeskMove)], G := [(22, C22), (37, C37)], ro := [], loops := [], joins := [] }
theorem E6_eq : ∀ x, afun E6 Tryz.f6 C6.ps C6.rs x = C6.fn x := fun x => by kernel_rfl
theorem S6 : Sound Tryz.prog 6 C6 := fun_sound (E := E6) ⟨good_T (by kernel_rfl), (good_cons S22 ⟨_, Tryz.func22, by kernel_rfl, by kernel_rfl⟩ (good_cons S37 ⟨_, Tryz.func37, by kernel_rfl, by kernel_rfl⟩ good_nil)), mixedOk, ins_nil⟩ Tryz.func6 rfl E6_eq
/-- spec.dkAsked -/
noncomputable def s_dkAsked (p_l : List GTicket) (p_kind : Int) (p_message : Int) (p_number : Int) : Option ((List GTicket) × Bool) :=
  (s_dkGood p_l).bind fun r1 =>
  bif (!r1) then
    some ([], false)
  else
    (s_dkStep p_l (p_kind, p_message, p_number, ())).bind fun r2 =>
    some (r2.1, r2.2)
noncomputable def C38 : FnSpec := { ps := [.val (.slice TGTicket), .val (.int .i64), .val (.int .i64), .val (.int .i64)], rs := [.own (.slice TGTicket), .val .bool], fn := fun x => s_dkAsked x.1 x.2.1 x.2.2.1 x.2.2.2 }
noncomputable def E38 : Env := { T := [(55, TGDeskMove)], G := [(43, C43), (57, C57)], ro := [], loops := [], joins := [] }
theorem E38_eq : ∀ x, afun E38 Tryz.f38 C38.ps C38.rs x = C38.fn x := fun x => by kernel_rfl
theorem S38 : Sound Tryz.prog 38 C38 := fun_sound (E := E38) ⟨good_T (by kernel_rfl), (good_cons S43 ⟨_, Tryz.func43, by kernel_rfl, by kernel_rfl⟩ (good_cons S57 ⟨_, Tryz.func57, by kernel_rfl, by kernel_rfl⟩ good_nil)), mixedOk, ins_nil⟩ Tryz.func38 rfl E38_eq
/-- spec.NoteArrival -/
noncomputable def s_NoteArrival (p_l : List GTicket) (p_message : Int) (p_part : Int) : Option ((List GTicket) × Bool) :=
  (s_dkAsked p_l 2 p_message p_part).bind fun r1 =>
  some (r1.1, r1.2)
noncomputable def C7 : FnSpec := { ps := [.val (.slice TGTicket), .val (.int .i64), .val (.int .i64)], rs := [.own (.slice TGTicket), .val .bool], fn := fun x => s_NoteArrival x.1 x.2.1 x.2.2 }
noncomputable def E7 : Env := { T := [], G := [(38, C38)], ro := [], loops := [], joins := [] }
theorem E7_eq : ∀ x, afun E7 Tryz.f7 C7.ps C7.rs x = C7.fn x := fun x => by kernel_rfl
theorem S7 : Sound Tryz.prog 7 C7 := fun_sound (E := E7) ⟨good_T (by kernel_rfl), (good_cons S38 ⟨_, Tryz.func38, by kernel_rfl, by kernel_rfl⟩ good_nil), mixedOk, ins_nil⟩ Tryz.func7 rfl E7_eq
/-- spec.DrawAcceptMessage -/
noncomputable def s_DrawAcceptMessage (p_code : List Int) : Option ((List GTicket) × Int × Int) :=
  (s_l1Cur_tickets (p_code, 0, 0, ())).bind fun r1 =>
  (s_l1Cur_deskMessage r1.1 r1.2).bind fun r2 =>
  (s_l1Cur_one r2.1 2).bind fun r3 =>
  bif r3.2 then
    (s_l1Cur_pick r3.1 999).bind fun r4 =>
    (s_l1Cur_among r4.1 [0, 10]).bind fun r5 =>
    (s_l1Cur_among r5.1 [1, 3, 9, r5.2]).bind fun r6 =>
    some (r1.2, (w64 (1 + r4.2)), r6.2)
  else
    (s_l1Cur_among r3.1 [0, 10]).bind fun r7 =>
    (s_l1Cur_among r7.1 [1, 3, 9, r7.2]).bind fun r8 =>
    some (r1.2, r2.2, r8.2)
noncomputable def C8 : FnSpec := { ps := [.val (.slice (.int .u8))], rs := [.val (.slice TGTicket), .val (.int .i64), .val (.int .i64)], fn := fun x => s_DrawAcceptMessage x }
noncomputable def E8 : Env := { T := [(42, (.slice (.int .i64))), (59, TGl1Cur)], G := [(34, C34), (35, C35), (36, C36), (39, C39), (40, C40)], ro := [], loops := [], joins := [] }
theorem E8_eq : ∀ x, afun E8 Tryz.f8 C8.ps C8.rs x = C8.fn x := fun x => by kernel_rfl
theorem S8 : Sound Tryz.prog 8 C8 := fun_sound (E := E8) ⟨good_T (by kernel_rfl), (good_cons S34 ⟨_, Tryz.func34, by kernel_rfl, by kernel_rfl⟩ (good_cons S35 ⟨_, Tryz.func35, by kernel_rfl, by kernel_rfl⟩ (good_cons S36 ⟨_, Tryz.func36, by kernel_rfl, by kernel_rfl⟩ (good_cons S39 ⟨_, Tryz.func39, by kernel_rfl, by kernel_rfl⟩ (good_cons S40 ⟨_, Tryz.func40, by kernel_rfl, by kernel_rfl⟩ good_nil))))), mixedOk, ins_nil⟩ Tryz.func8 rfl E8_eq
/-- impl.AcceptMessage -/
noncomputable def i_AcceptMessage (p_l : List GTicket) (p_message : Int) (p_parts : Int) : Option ((List GTicket) × Bool) :=
  (i_AreTickets p_l).bind fun r1 =>
  bif (!r1) then
    some ([], false)
  else
    (i_makeMove p_l (1, p_message, p_parts, ())).bind fun r2 =>
    some (r2.1, r2.2)
noncomputable def C9 : FnSpec := { ps := [.val (.slice TGTicket), .val (.int .i64), .val (.int .i64)], rs := [.own (.slice TGTicket), .val .bool], fn := fun x => i_AcceptMessage x.1 x.2.1 x.2.2 }
noncomputable def E9 : Env := { T := [(55, TGDeskMove)], G := [(22, C22), (37, C37)], ro := [], loops := [], joins := [] }
theorem E9_eq : ∀ x, afun E9 Tryz.f9 C9.ps C9.rs x = C9.fn x := fun x => by kernel_rfl
theorem S9 : Sound Tryz.prog 9 C9 := fun_sound (E := E9) ⟨good_T (by kernel_rfl), (good_cons S22 ⟨_, Tryz.func22, by kernel_rfl, by kernel_rfl⟩ (good_cons S37 ⟨_, Tryz.func37, by kernel_rfl, by kernel_rfl⟩ good_nil)), mixedOk, ins_nil⟩ Tryz.func9 rfl E9_eq
/-- spec.AcceptMessage -/
noncomputable def s_AcceptMessage (p_l : List GTicket) (p_message : Int) (p_parts : Int) : Option ((List GTicket) × Bool) :=
  (s_dkAsked p_l 1 p_message p_parts).bind fun r1 =>
  some (r1.1, r1.2)
noncomputable def C10 : FnSpec := { ps := [.val (.slice TGTicket), .val (.int .i64), .val (.int .i64)], rs := [.own (.slice TGTicket), .val .bool], fn := fun x => s_AcceptMessage x.1 x.2.1 x.2.2 }
noncomputable def E10 : Env := { T := [], G := [(38, C38)], ro := [], loops := [], joins := [] }
theorem E10_eq : ∀ x, afun E10 Tryz.f10 C10.ps C10.rs x = C10.fn x := fun x => by kernel_rfl
theorem S10 : Sound Tryz.prog 10 C10 := fun_sound (E := E10) ⟨good_T (by kernel_rfl), (good_cons S38 ⟨_, Tryz.func38, by kernel_rfl, by kernel_rfl⟩ good_nil), mixedOk, ins_nil⟩ Tryz.func10 rfl E10_eq
/-- spec.DrawGiveUp -/
noncomputable def s_DrawGiveUp (p_code : List Int) : Option ((List GTicket) × Int) :=
  (s_l1Cur_tickets (p_code, 0, 0, ())).bind fun r1 =>
  (s_l1Cur_deskMessage r1.1 r1.2).bind fun r2 =>
  some (r1.2, r2.2)
noncomputable def C11 : FnSpec := { ps := [.val (.slice (.int .u8))], rs := [.val (.slice TGTicket), .val (.int .i64)], fn := fun x => s_DrawGiveUp x }
noncomputable def E11 : Env := { T := [(59, TGl1Cur)], G := [(34, C34), (35, C35)], ro := [], loops := [], joins := [] }
theorem E11_eq : ∀ x, afun E11 Tryz.f11 C11.ps C11.rs x = C11.fn x := fun x => by kernel_rfl
theorem S11 : Sound Tryz.prog 11 C11 := fun_sound (E := E11) ⟨good_T (by kernel_rfl), (good_cons S34 ⟨_, Tryz.func34, by kernel_rfl, by kernel_rfl⟩ (good_cons S35 ⟨_, Tryz.func35, by kernel_rfl, by kernel_rfl⟩ good_nil)), mixedOk, ins_nil⟩ Tryz.func11 rfl E11_eq
/-- impl.GiveUp -/
noncomputable def i_GiveUp (p_l : List GTicket) (p_message : Int) : Option ((List GTicket) × Bool) :=
  (i_AreTickets p_l).bind fun r1 =>
  bif (!r1) then
    some ([], false)
  else
    (i_makeMove p_l (3, p_message, 0, ())).bind fun r2 =>
    some (r2.1, r2.2)
noncomputable def C12 : FnSpec := { ps := [.val (.slice TGTicket), .val (.int .i64)], rs := [.own (.slice TGTicket), .val .bool], fn := fun x => i_GiveUp x.1 x.2 }
noncomputable def E12 : Env := { T := [(55, TGDeskMove)], G := [(22, C22), (37, C37)], ro := [], loops := [], joins := [] }
theorem E12_eq : ∀ x, afun E12 Tryz.f12 C12.ps C12.rs x = C12.fn x := fun x => by kernel_rfl
theorem S12 : Sound Tryz.prog 12 C12 := fun_sound (E := E12) ⟨good_T (by kernel_rfl), (good_cons S22 ⟨_, Tryz.func22, by kernel_rfl, by kernel_rfl⟩ (good_cons S37 ⟨_, Tryz.func37, by kernel_rfl, by kernel_rfl⟩ good_nil)), mixedOk, ins_nil⟩ Tryz.func12 rfl E12_eq
/-- spec.GiveUp -/
noncomputable def s_GiveUp (p_l : List GTicket) (p_message : Int) : Option ((List GTicket) × Bool) :=
  (s_dkAsked p_l 3 p_message 0).bind fun r1 =>
  some (r1.1, r1.2)
noncomputable def C13 : FnSpec := { ps := [.val (.slice TGTicket), .val (.int .i64)], rs := [.own (.slice TGTicket), .val .bool], fn := fun x => s_GiveUp x.1 x.2 }
noncomputable def E13 : Env := { T := [], G := [(38, C38)], ro := [], loops := [], joins := [] }
theorem E13_eq : ∀ x, afun E13 Tryz.f13 C13.ps C13.rs x = C13.fn x := fun x => by kernel_rfl
theorem S13 : Sound Tryz.prog 13 C13 := fun_sound (E := E13) ⟨good_T (by kernel_rfl), (good_cons S38 ⟨_, Tryz.func38, by kernel_rfl, by kernel_rfl⟩ good_nil), mixedOk, ins_nil⟩ Tryz.func13 rfl E13_eq
/-- spec.DrawAreTickets -/
noncomputable def s_DrawAreTickets (p_code : List Int) : Option ((List GTicket)) :=
  (s_l1Cur_tickets (p_code, 0, 0, ())).bind fun r1 =>
  some r1.2
noncomputable def C41 : FnSpec := { ps := [.val (.slice (.int .u8))], rs := [.own (.slice TGTicket)], fn := fun x => s_DrawAreTickets x }
noncomputable def E41 : Env := { T := [(59, TGl1Cur)], G := [(34, C34)], ro := [], loops := [], joins := [] }
theorem E41_eq : ∀ x, afun E41 Tryz.f41 C41.ps C41.rs x = C41.fn x := fun x => by kernel_rfl
theorem S41 : Sound Tryz.prog 41 C41 := fun_sound (E := E41) ⟨good_T (by kernel_rfl), (good_cons S34 ⟨_, Tryz.func34, by kernel_rfl, by kernel_rfl⟩ good_nil), mixedOk, ins_nil⟩ Tryz.func41 rfl E41_eq
/-- spec.DrawPartsToSend -/
noncomputable def s_DrawPartsToSend (p_code : List Int) : Option ((List GTicket)) :=
  (s_DrawAreTickets p_code).bind fun r1 =>
  some r1
noncomputable def C14 : FnSpec := { ps := [.val (.slice (.int .u8))], rs := [.own (.slice TGTicket)], fn := fun x => s_DrawPartsToSend x }
noncomputable def E14 : Env := { T := [], G := [(41, C41)], ro := [], loops := [], joins := [] }
theorem E14_eq : ∀ x, afun E14 Tryz.f14 C14.ps C14.rs x = C14.fn x := fun x => by kernel_rfl
theorem S14 : Sound Tryz.prog 14 C14 := fun_sound (E := E14) ⟨good_T (by kernel_rfl), (good_cons S41 ⟨_, Tryz.func41, by kernel_rfl, by kernel_rfl⟩ good_nil), mixedOk, ins_nil⟩ Tryz.func14 rfl E14_eq
/-- impl.PartsToSend -/
noncomputable def i_PartsToSend (p_l : List GTicket) : Option ((List (List Int)) × Bool) :=
  (i_AreTickets p_l).bind fun r1 =>
  bif (!r1) then
    some ([], false)
  else
    (loopE (fun (st3 : (List (List Int)) × Int) => (
        bif (decide (st3.2 < (p_l.length : Int))) then
          (idx p_l st3.2).bind fun e4 =>
          (loopE (fun (st6 : (List (List Int)) × Int × Int × (List Int) × Int × Int) => (
              bif (decide (st6.2.2.2.2.2 < e4.2.1)) then
                (bif (decide (st6.2.2.2.2.1 = 0)) then
                    (slices_Contains_int st6.2.2.2.1 st6.2.2.2.2.2).bind fun r7 =>
                    some (!r7)
                  else
                    some false).bind fun c8 =>
                bif c8 then
                  bif decide (List.length st6.1 + List.length [[st6.2.1, st6.2.2.2.2.2]] ≤ lim) then
                    some (.inl ((st6.1 ++ [[st6.2.1, st6.2.2.2.2.2]]), st6.2.1, st6.2.2.1, st6.2.2.2.1, st6.2.2.2.2.1, (w64 (st6.2.2.2.2.2 + 1))))
                  else
                    none
                else
                  some (.inl (st6.1, st6.2.1, st6.2.2.1, st6.2.2.2.1, st6.2.2.2.2.1, (w64 (st6.2.2.2.2.2 + 1))))
              else
                some (.inr st6.1) : Option (((List (List Int)) × Int × Int × (List Int) × Int × Int) ⊕ ((List (List Int)))))) (st3.1, e4.1, e4.2.1, e4.2.2.1, e4.2.2.2.1, 0)).bind fun o9 =>
          some (.inl (o9, (w64 (st3.2 + 1))))
        else
          some (.inr st3.1) : Option (((List (List Int)) × Int) ⊕ ((List (List Int)))))) ([], 0)).bind fun o10 =>
    some (o10, true)
noncomputable def C15 : FnSpec := { ps := [.val (.slice TGTicket)], rs := [.own (.slice (.slice (.int .i64))), .val .bool], fn := fun x => i_PartsToSend x }
noncomputable def E15 : Env := { T := [(3, (.int .i64)), (23, (.slice TGTicket)), (32, (.slice (.slice (.int .i64)))), (42, (.slice (.int .i64))), (44, TGTicket)], G := [(22, C22), (42, C42)], ro := [], loops := [(5, { keep := [11, 12], live := [.own 4 [] 200004 (.slice (.int .i64)) true, .tv 13 (.int .i64)], outs := [(.exit 0, [.own 4 [] 200004 (.slice (.int .i64)) true])] }), (8, { keep := [11, 12, 13, 18], live := [.own 4 [] 200004 (.slice (.int .i64)) true, .bx 6 96 [.pv (.int .i64), .pv (.int .i64), .pv (.slice (.int .i64)), .pv (.int .i64)], .tv 19 (.int .i64)], outs := [(.exit 2, [.own 4 [] 200004 (.slice (.int .i64)) true])] })], joins := [], mv := true }
theorem E15_eq : ∀ x, afun E15 Tryz.f15 C15.ps C15.rs x = C15.fn x := fun x => by kernel_rfl
theorem S15 : Sound Tryz.prog 15 C15 := fun_sound (E := E15) ⟨good_T (by kernel_rfl), (good_cons S22 ⟨_, Tryz.func22, by kernel_rfl, by kernel_rfl⟩ (good_cons S42 ⟨_, Tryz.func42, by kernel_rfl, by kernel_rfl⟩ good_nil)), mixedOk, ins_nil⟩ Tryz.func15 rfl E15_eq
/-- spec.l1Has -/
noncomputable def s_l1Has (p_l : List Int) (p_n : Int) : Option (Bool) :=
  (loopE (fun (st2 : Int) => (
      bif (decide (st2 < (p_l.length : Int))) then
        (idx p_l st2).bind fun e3 =>
        bif (decide (e3 = p_n)) then
          some (.inr (.inr true))
        else
          some (.inl (w64 (st2 + 1)))
      else
        some (.inr (.inl ())) : Option ((Int) ⊕ (Unit ⊕ Bool)))) 0).bind fun o4 =>
  match o4 with
  | .inl _ =>
    some false
  | .inr y6 =>
    some y6
noncomputable def C44 : FnSpec := { ps := [.val (.slice (.int .i64)), .val (.int .i64)], rs := [.val .bool], fn := fun x => s_l1Has x.1 x.2 }
noncomputable def E44 : Env := { T := [(3, (.int .i64)), (42, (.slice (.int .i64)))], G := [], ro := [], loops := [(2, { keep := [1, 7, 8], live := [.tv 9 (.int .i64)], outs := [(.exit 0, []), (.ret, [.tv 4 .bool])] })], joins := [] }
theorem E44_eq : ∀ x, afun E44 Tryz.f44 C44.ps C44.rs x = C44.fn x := fun x => by kernel_rfl
theorem S44 : Sound Tryz.prog 44 C44 := fun_sound (E := E44) ⟨good_T (by kernel_rfl), good_nil, mixedOk, ins_nil⟩ Tryz.func44 rfl E44_eq
/-- spec.PartsToSend -/
noncomputable def s_PartsToSend (p_l : List GTicket) : Option ((List (List Int)) × Bool) :=
  (s_dkGood p_l).bind fun r1 =>
  bif (!r1) then
    some ([], false)
  else
    (loopE (fun (st3 : (List (List Int)) × Int) => (
        bif (decide (st3.2 < (p_l.length : Int))) then
          (idx p_l st3.2).bind fun e4 =>
          (loopE (fun (st6 : (List (List Int)) × Int × Int × (List Int) × Int × Int) => (
              (bif (decide (st6.2.2.2.2.2 < st6.2.2.1)) then
                  some (decide (st6.2.2.2.2.1 = 0))
                else
                  some false).bind fun c7 =>
              bif c7 then
                (s_l1Has st6.2.2.2.1 st6.2.2.2.2.2).bind fun r8 =>
                bif (!r8) then
                  bif decide (List.length st6.1 + List.length [[st6.2.1, st6.2.2.2.2.2]] ≤ lim) then
                    some (.inl ((st6.1 ++ [[st6.2.1, st6.2.2.2.2.2]]), st6.2.1, st6.2.2.1, st6.2.2.2.1, st6.2.2.2.2.1, (w64 (st6.2.2.2.2.2 + 1))))
                  else
                    none
                else
                  some (.inl (st6.1, st6.2.1, st6.2.2.1, st6.2.2.2.1, st6.2.2.2.2.1, (w64 (st6.2.2.2.2.2 + 1))))
              else
                some (.inr st6.1) : Option (((List (List Int)) × Int × Int × (List Int) × Int × Int) ⊕ ((List (List Int)))))) (st3.1, e4.1, e4.2.1, e4.2.2.1, e4.2.2.2.1, 0)).bind fun o9 =>
          some (.inl (o9, (w64 (st3.2 + 1))))
        else
          some (.inr st3.1) : Option (((List (List Int)) × Int) ⊕ ((List (List Int)))))) ([], 0)).bind fun o10 =>
    some (o10, true)
noncomputable def C16 : FnSpec := { ps := [.val (.slice TGTicket)], rs := [.own (.slice (.slice (.int .i64))), .val .bool], fn := fun x => s_PartsToSend x }
noncomputable def E16 : Env := { T := [(3, (.int .i64)), (23, (.slice TGTicket)), (32, (.slice (.slice (.int .i64)))), (42, (.slice (.int .i64))), (44, TGTicket)], G := [(43, C43), (44, C44)], ro := [], loops := [(5, { keep := [11, 12], live := [.own 4 [] 200004 (.slice (.int .i64)) true, .tv 13 (.int .i64)], outs := [(.exit 0, [.own 4 [] 200004 (.slice (.int .i64)) true])] }), (8, { keep := [11, 12, 13], live := [.own 4 [] 200004 (.slice (.int .i64)) true, .bx 6 96 [.pv (.int .i64), .pv (.int .i64), .pv (.slice (.int .i64)), .pv (.int .i64)], .tv 7 (.int .i64)], outs := [(.exit 2, [.own 4 [] 200004 (.slice (.int .i64)) true])] })], joins := [], mv := true }
theorem E16_eq : ∀ x, afun E16 Tryz.f16 C16.ps C16.rs x = C16.fn x := fun x => by kernel_rfl
theorem S16 : Sound Tryz.prog 16 C16 := fun_sound (E := E16) ⟨good_T (by kernel_rfl), (good_cons S43 ⟨_, Tryz.func43, by kernel_rfl, by kernel_rfl⟩ (good_cons S44 ⟨_, Tryz.func44, by kernel_rfl, by kernel_rfl⟩ good_nil)), mixedOk, ins_nil⟩ Tryz.func16 rfl E16_eq
/-- spec.DrawReceiptText -/
noncomputable def s_DrawReceiptText (p_code : List Int) : Option ((List GTicket) × Int) :=
  (s_DrawGiveUp p_code).bind fun r1 =>
  some (r1.1, r1.2)
noncomputable def C17 : FnSpec := { ps := [.val (.slice (.int .u8))], rs := [.val (.slice TGTicket), .val (.int .i64)], fn := fun x => s_DrawReceiptText x }
noncomputable def E17 : Env := { T := [], G := [(11, C11)], ro := [], loops := [], joins := [] }
theorem E17_eq : ∀ x, afun E17 Tryz.f17 C17.ps C17.rs x = C17.fn x := fun x => by kernel_rfl
theorem S17 : Sound Tryz.prog 17 C17 := fun_sound (E := E17) ⟨good_T (by kernel_rfl), (good_cons S11 ⟨_, Tryz.func11, by kernel_rfl, by kernel_rfl⟩ good_nil), mixedOk, ins_nil⟩ Tryz.func17 rfl E17_eq

noncomputable def C46 : FnSpec := { ps := [.val (.int .i64)], rs := [.val .str], fn := fun x => itoaF x }
theorem S46 : Sound Tryz.prog 46 C46 := itoaSound

noncomputable def C68 : FnSpec := { ps := [.val (.slice .str), .val .str], rs := [.val .str], fn := fun x => joinF x.1 x.2 }
theorem S68 : Sound Tryz.prog 68 C68 := joinSound
/-- impl.joinNumbers -/
noncomputable def i_joinNumbers (p_l : List Int) (p_by : Bytes) : Option (Bytes) :=
  bif decide (0 ≤ (p_l.length : Int)) && decide ((p_l.length : Int) ≤ (p_l.length : Int)) && decide ((p_l.length : Int) ≤ lim) then
    (loopE (fun (st2 : (List Bytes) × Int) => (
        bif (decide (st2.2 < (p_l.length : Int))) then
          (idx p_l st2.2).bind fun e3 =>
          (itoaF e3).bind fun r4 =>
          bif decide (0 ≤ st2.2) && decide (st2.2 < (st2.1.length : Int)) then
            some (.inl ((st2.1.set (Int.toNat st2.2) r4), (w64 (st2.2 + 1))))
          else
            none
        else
          some (.inr st2.1) : Option (((List Bytes) × Int) ⊕ ((List Bytes))))) ((List.replicate (Int.toNat (p_l.length : Int)) ([] : Bytes)), 0)).bind fun o5 =>
    (joinF o5 p_by).bind fun r6 =>
    some r6
  else
    none
noncomputable def C47 : FnSpec := { ps := [.val (.slice (.int .i64)), .val .str], rs := [.val .str], fn := fun x => i_joinNumbers x.1 x.2 }
noncomputable def E47 : Env := { T := [(3, (.int .i64)), (9, .str), (42, (.slice (.int .i64))), (71, (.slice .str))], G := [(46, C46), (68, C68)], ro := [], loops := [(3, { keep := [1, 11, 12], live := [.own 5 [] 160 .str true, .tv 13 (.int .i64)], outs := [(.exit 0, [.own 5 [] 160 .str true])] })], joins := [] }
theorem E47_eq : ∀ x, afun E47 Tryz.f47 C47.ps C47.rs x = C47.fn x := fun x => by kernel_rfl
theorem S47 : Sound Tryz.prog 47 C47 := fun_sound (E := E47) ⟨good_T (by kernel_rfl), (good_cons S46 ⟨_, Tryz.func46, by kernel_rfl, by kernel_rfl⟩ (good_cons S68 ⟨_, Tryz.func68, by kernel_rfl, by kernel_rfl⟩ good_nil)), mixedOk, ins_nil⟩ Tryz.func47 rfl E47_eq
/-- impl.ReceiptText -/
noncomputable def i_ReceiptText (p_l : List GTicket) (p_message : Int) : Option (Bytes × Bool) :=
  (i_ticketIndex p_l p_message).bind fun r1 =>
  (i_AreTickets p_l).bind fun r2 =>
  (bif (!r2) then
      some true
    else
      some (decide (r1 < 0))).bind fun c3 =>
  bif c3 then
    some ([], false)
  else
    (idx p_l r1).bind fun e4 =>
    (itoaF p_message).bind fun r5 =>
    bif (decide (e4.2.2.2.1 = 1)) then
      bif decide (List.length r5 + List.length ([32, 97, 114, 114, 105, 118, 101, 100] : Bytes) ≤ lim) then
        some ((r5 ++ ([32, 97, 114, 114, 105, 118, 101, 100] : Bytes)), true)
      else
        none
    else
      bif (decide (e4.2.2.2.1 = 0)) then
        bif decide (List.length r5 + List.length ([32, 111, 112, 101, 110, 32] : Bytes) ≤ lim) then
          (i_joinNumbers [(e4.2.2.1.length : Int), e4.2.1] ([47] : Bytes)).bind fun r6 =>
          bif decide (List.length (r5 ++ ([32, 111, 112, 101, 110, 32] : Bytes)) + List.length r6 ≤ lim) then
            some (((r5 ++ ([32, 111, 112, 101, 110, 32] : Bytes)) ++ r6), true)
          else
            none
        else
          none
      else
        bif decide (List.length r5 + List.length ([32, 102, 97, 105, 108, 101, 100, 32] : Bytes) ≤ lim) then
          (i_joinNumbers [(e4.2.2.1.length : Int), e4.2.1] ([47] : Bytes)).bind fun r7 =>
          bif decide (List.length (r5 ++ ([32, 102, 97, 105, 108, 101, 100, 32] : Bytes)) + List.length r7 ≤ lim) then
            some (((r5 ++ ([32, 102, 97, 105, 108, 101, 100, 32] : Bytes)) ++ r7), true)
          else
            none
        else
          none
noncomputable def C18 : FnSpec := { ps := [.val (.slice TGTicket), .val (.int .i64)], rs := [.val .str, .val .bool], fn := fun x => i_ReceiptText x.1 x.2 }
noncomputable def E18 : Env := { T := [(3, (.int .i64)), (23, (.slice TGTicket)), (42, (.slice (.int .i64))), (44, TGTicket)], G := [(22, C22), (45, C45), (46, C46), (47, C47)], ro := [], loops := [], joins := [] }
theorem E18_eq : ∀ x, afun E18 Tryz.f18 C18.ps C18.rs x = C18.fn x := fun x => by kernel_rfl
theorem S18 : Sound Tryz.prog 18 C18 := fun_sound (E := E18) ⟨good_T (by kernel_rfl), (good_cons S22 ⟨_, Tryz.func22, by kernel_rfl, by kernel_rfl⟩ (good_cons S45 ⟨_, Tryz.func45, by kernel_rfl, by kernel_rfl⟩ (good_cons S46 ⟨_, Tryz.func46, by kernel_rfl, by kernel_rfl⟩ (good_cons S47 ⟨_, Tryz.func47, by kernel_rfl, by kernel_rfl⟩ good_nil)))), mixedOk, ins_nil⟩ Tryz.func18 rfl E18_eq


/-- spec.l1Num -/
noncomputable def s_l1Num_step (s_l1Num_again : Int → Option (Bytes)) (p_n : Int) : Option (Bytes) :=
  bif (decide (p_n < 10)) then
    some (toStr [(IntKind.u8.wrap (w64 (48 + p_n)))])
  else
    (s_l1Num_again (w64 (Int.tdiv p_n 10))).bind fun r1 =>
    bif decide (List.length r1 + List.length (toStr [(IntKind.u8.wrap (w64 (48 + (Int.tmod p_n 10))))]) ≤ lim) then
      some (r1 ++ (toStr [(IntKind.u8.wrap (w64 (48 + (Int.tmod p_n 10))))]))
    else
      none
noncomputable def s_l1Num_it : Nat → Int → Option (Bytes)
  | 0, _ => none
  | k + 1, p_n => s_l1Num_step (s_l1Num_it k) p_n
noncomputable def s_l1Num (p_n : Int) : Option (Bytes) := limE fun k => s_l1Num_it k p_n
noncomputable def C49 : FnSpec := { ps := [.val (.int .i64)], rs := [.val .str], fn := fun x => s_l1Num x }
noncomputable def CR49 (again : Int → Option (Bytes)) : FnSpec := { ps := [.val (.int .i64)], rs := [.val .str], fn := fun x => again x }
noncomputable def E49 (again : Int → Option (Bytes)) : Env := { T := [(3, (.int .i64)), (5, (.int .u8)), (9, .str), (22, (.slice (.int .u8)))], G := [(49, CR49 again)], ro := [], loops := [], joins := [] }
theorem E49_eq : ∀ (again : Int → Option (Bytes)) x, afun (E49 again) Tryz.f49 C49.ps C49.rs x = s_l1Num_step again x := fun again x => by kernel_rfl
theorem S49_it : ∀ k, Sound Tryz.prog 49 (CR49 (s_l1Num_it k))
  | 0 => fun _ _ _ _ _ _ _ _ _ _ h => nomatch h
  | k + 1 => fun_sound (E := E49 (s_l1Num_it k)) ⟨good_T (by kernel_rfl), (good_cons (S49_it k) ⟨_, Tryz.func49, by kernel_rfl, by kernel_rfl⟩ good_nil), mixedOk, ins_nil⟩ Tryz.func49 rfl (E49_eq _)
theorem S49 : Sound Tryz.prog 49 C49 := sound_lim (P := Tryz.prog) (f := 49) (ps := C49.ps) (rs := C49.rs) (g := fun k x => s_l1Num_it k x) S49_it
/-- spec.ReceiptText -/
noncomputable def s_ReceiptText (p_l : List GTicket) (p_message : Int) : Option (Bytes × Bool) :=
  (s_dkFind p_l p_message).bind fun r1 =>
  (s_dkGood p_l).bind fun r2 =>
  (bif (!r2) then
      some true
    else
      some (decide (r1 < 0))).bind fun c3 =>
  bif c3 then
    some ([], false)
  else
    (idx p_l r1).bind fun e4 =>
    (s_l1Num (e4.2.2.1.length : Int)).bind fun r5 =>
    bif decide (List.length ([32] : Bytes) + List.length r5 ≤ lim) then
      bif decide (List.length (([32] : Bytes) ++ r5) + List.length ([47] : Bytes) ≤ lim) then
        (s_l1Num e4.2.1).bind fun r6 =>
        bif decide (List.length ((([32] : Bytes) ++ r5) ++ ([47] : Bytes)) + List.length r6 ≤ lim) then
          (s_l1Num p_message).bind fun r7 =>
          bif decide (List.length ([32, 111, 112, 101, 110] : Bytes) + List.length (((([32] : Bytes) ++ r5) ++ ([47] : Bytes)) ++ r6) ≤ lim) then
            bif decide (List.length ([32, 102, 97, 105, 108, 101, 100] : Bytes) + List.length (((([32] : Bytes) ++ r5) ++ ([47] : Bytes)) ++ r6) ≤ lim) then
              bif decide (0 ≤ e4.2.2.2.1) && decide (e4.2.2.2.1 < ([(([32, 111, 112, 101, 110] : Bytes) ++ (((([32] : Bytes) ++ r5) ++ ([47] : Bytes)) ++ r6)), ([32, 97, 114, 114, 105, 118, 101, 100] : Bytes), (([32, 102, 97, 105, 108, 101, 100] : Bytes) ++ (((([32] : Bytes) ++ r5) ++ ([47] : Bytes)) ++ r6))].length : Int)) then
                ([(([32, 111, 112, 101, 110] : Bytes) ++ (((([32] : Bytes) ++ r5) ++ ([47] : Bytes)) ++ r6)), ([32, 97, 114, 114, 105, 118, 101, 100] : Bytes), (([32, 102, 97, 105, 108, 101, 100] : Bytes) ++ (((([32] : Bytes) ++ r5) ++ ([47] : Bytes)) ++ r6))][(Int.toNat e4.2.2.2.1)]?).bind fun e8 =>
                bif decide (List.length r7 + List.length e8 ≤ lim) then
                  some ((r7 ++ e8), true)
                else
                  none
              else
                none
            else
              none
          else
            none
        else
          none
      else
        none
    else
      none
noncomputable def C19 : FnSpec := { ps := [.val (.slice TGTicket), .val (.int .i64)], rs := [.val .str, .val .bool], fn := fun x => s_ReceiptText x.1 x.2 }
noncomputable def E19 : Env := { T := [(3, (.int .i64)), (9, .str), (23, (.slice TGTicket)), (42, (.slice (.int .i64))), (44, TGTicket), (71, (.slice .str))], G := [(43, C43), (48, C48), (49, C49)], ro := [], loops := [], joins := [] }
theorem E19_eq : ∀ x, afun E19 Tryz.f19 C19.ps C19.rs x = C19.fn x := fun x => by kernel_rfl
theorem S19 : Sound Tryz.prog 19 C19 := fun_sound (E := E19) ⟨good_T (by kernel_rfl), (good_cons S43 ⟨_, Tryz.func43, by kernel_rfl, by kernel_rfl⟩ (good_cons S48 ⟨_, Tryz.func48, by kernel_rfl, by kernel_rfl⟩ (good_cons S49 ⟨_, Tryz.func49, by kernel_rfl, by kernel_rfl⟩ good_nil))), mixedOk, ins_nil⟩ Tryz.func19 rfl E19_eq
/-- laws.qInts -/
noncomputable def l_qInts (p_a : List Int) (p_b : List Int) : Option (Bool) :=
  bif (!decide ((p_a.length : Int) = (p_b.length : Int))) then
    some false
  else
    (loopE (fun (st2 : Int) => (
        bif (decide (st2 < (p_a.length : Int))) then
          (idx p_a st2).bind fun e3 =>
          (idx p_b st2).bind fun e4 =>
          bif (!decide (e3 = e4)) then
            some (.inr (.inr false))
          else
            some (.inl (w64 (st2 + 1)))
        else
          some (.inr (.inl ())) : Option ((Int) ⊕ (Unit ⊕ Bool)))) 0).bind fun o5 =>
    match o5 with
    | .inl _ =>
      some true
    | .inr y7 =>
      some y7
noncomputable def C50 : FnSpec := { ps := [.val (.slice (.int .i64)), .val (.slice (.int .i64))], rs := [.val .bool], fn := fun x => l_qInts x.1 x.2 }
noncomputable def E50 : Env := { T := [(3, (.int .i64)), (42, (.slice (.int .i64)))], G := [], ro := [], loops := [(4, { keep := [0, 1, 12], live := [.tv 13 (.int .i64)], outs := [(.exit 0, []), (.ret, [.tv 4 .bool])] })], joins := [] }
theorem E50_eq : ∀ x, afun E50 Tryz.f50 C50.ps C50.rs x = C50.fn x := fun x => by kernel_rfl
theorem S50 : Sound Tryz.prog 50 C50 := fun_sound (E := E50) ⟨good_T (by kernel_rfl), good_nil, mixedOk, ins_nil⟩ Tryz.func50 rfl E50_eq
/-- laws.qTickets -/
noncomputable def l_qTickets (p_a : List GTicket) (p_b : List GTicket) : Option (Bool) :=
  bif (!decide ((p_a.length : Int) = (p_b.length : Int))) then
    some false
  else
    (loopE (fun (st2 : Int) => (
        bif (decide (st2 < (p_a.length : Int))) then
          (idx p_a st2).bind fun e3 =>
          (idx p_b st2).bind fun e4 =>
          (bif (!decide (e3.1 = e4.1)) then
              some true
            else
              (idx p_b st2).bind fun e5 =>
              some (!decide (e3.2.1 = e5.2.1))).bind fun c6 =>
          (bif c6 then
              some true
            else
              (idx p_b st2).bind fun e7 =>
              some (!decide (e3.2.2.2.1 = e7.2.2.2.1))).bind fun c8 =>
          (bif c8 then
              some true
            else
              (idx p_b st2).bind fun e9 =>
              (l_qInts e3.2.2.1 e9.2.2.1).bind fun r10 =>
              some (!r10)).bind fun c11 =>
          bif c11 then
            some (.inr (.inr false))
          else
            some (.inl (w64 (st2 + 1)))
        else
          some (.inr (.inl ())) : Option ((Int) ⊕ (Unit ⊕ Bool)))) 0).bind fun o12 =>
    match o12 with
    | .inl _ =>
      some true
    | .inr y14 =>
      some y14
noncomputable def C20 : FnSpec := { ps := [.val (.slice TGTicket), .val (.slice TGTicket)], rs := [.val .bool], fn := fun x => l_qTickets x.1 x.2 }
noncomputable def E20 : Env := { T := [(3, (.int .i64)), (23, (.slice TGTicket)), (42, (.slice (.int .i64))), (44, TGTicket)], G := [(50, C50)], ro := [], loops := [(4, { keep := [1, 12, 13], live := [.tv 14 (.int .i64)], outs := [(.exit 0, []), (.ret, [.tv 4 .bool])] })], joins := [] }
theorem E20_eq : ∀ x, afun E20 Tryz.f20 C20.ps C20.rs x = C20.fn x := fun x => by kernel_rfl
theorem S20 : Sound Tryz.prog 20 C20 := fun_sound (E := E20) ⟨good_T (by kernel_rfl), (good_cons S50 ⟨_, Tryz.func50, by kernel_rfl, by kernel_rfl⟩ good_nil), mixedOk, ins_nil⟩ Tryz.func20 rfl E20_eq
/-- laws.qLists -/
noncomputable def l_qLists (p_a : List (List Int)) (p_b : List (List Int)) : Option (Bool) :=
  bif (!decide ((p_a.length : Int) = (p_b.length : Int))) then
    some false
  else
    (loopE (fun (st2 : Int) => (
        bif (decide (st2 < (p_a.length : Int))) then
          (idx p_a st2).bind fun e3 =>
          (idx p_b st2).bind fun e4 =>
          (l_qInts e3 e4).bind fun r5 =>
          bif (!r5) then
            some (.inr (.inr false))
          else
            some (.inl (w64 (st2 + 1)))
        else
          some (.inr (.inl ())) : Option ((Int) ⊕ (Unit ⊕ Bool)))) 0).bind fun o6 =>
    match o6 with
    | .inl _ =>
      some true
    | .inr y8 =>
      some y8
noncomputable def C21 : FnSpec := { ps := [.val (.slice (.slice (.int .i64))), .val (.slice (.slice (.int .i64)))], rs := [.val .bool], fn := fun x => l_qLists x.1 x.2 }
noncomputable def E21 : Env := { T := [(32, (.slice (.slice (.int .i64)))), (42, (.slice (.int .i64)))], G := [(50, C50)], ro := [], loops := [(4, { keep := [0, 1, 12], live := [.tv 13 (.int .i64)], outs := [(.exit 0, []), (.ret, [.tv 4 .bool])] })], joins := [] }
theorem E21_eq : ∀ x, afun E21 Tryz.f21 C21.ps C21.rs x = C21.fn x := fun x => by kernel_rfl
theorem S21 : Sound Tryz.prog 21 C21 := fun_sound (E := E21) ⟨good_T (by kernel_rfl), (good_cons S50 ⟨_, Tryz.func50, by kernel_rfl, by kernel_rfl⟩ good_nil), mixedOk, ins_nil⟩ Tryz.func21 rfl E21_eq
/-- impl.StandingOf -/
noncomputable def i_StandingOf (p_l : List GTicket) (p_message : Int) : Option (Int × Int × Bool) :=
  (i_ticketIndex p_l p_message).bind fun r1 =>
  (i_AreTickets p_l).bind fun r2 =>
  (bif (!r2) then
      some true
    else
      some (decide (r1 < 0))).bind fun c3 =>
  bif c3 then
    some (0, 0, false)
  else
    (idx p_l r1).bind fun e4 =>
    (idx p_l r1).bind fun e5 =>
    (idx p_l r1).bind fun e6 =>
    some (e4.2.2.2.1, (w64 (e5.2.1 - (e6.2.2.1.length : Int))), true)
noncomputable def C23 : FnSpec := { ps := [.val (.slice TGTicket), .val (.int .i64)], rs := [.val (.int .i64), .val (.int .i64), .val .bool], fn := fun x => i_StandingOf x.1 x.2 }
noncomputable def E23 : Env := { T := [(3, (.int .i64)), (23, (.slice TGTicket)), (42, (.slice (.int .i64))), (44, TGTicket)], G := [(22, C22), (45, C45)], ro := [], loops := [], joins := [] }
theorem E23_eq : ∀ x, afun E23 Tryz.f23 C23.ps C23.rs x = C23.fn x := fun x => by kernel_rfl
theorem S23 : Sound Tryz.prog 23 C23 := fun_sound (E := E23) ⟨good_T (by kernel_rfl), (good_cons S22 ⟨_, Tryz.func22, by kernel_rfl, by kernel_rfl⟩ (good_cons S45 ⟨_, Tryz.func45, by kernel_rfl, by kernel_rfl⟩ good_nil)), mixedOk, ins_nil⟩ Tryz.func23 rfl E23_eq
/-- spec.StandingOf -/
noncomputable def s_StandingOf (p_l : List GTicket) (p_message : Int) : Option (Int × Int × Bool) :=
  (s_dkFind p_l p_message).bind fun r1 =>
  (s_dkGood p_l).bind fun r2 =>
  (bif (!r2) then
      some true
    else
      some (decide (r1 < 0))).bind fun c3 =>
  bif c3 then
    some (0, 0, false)
  else
    (idx p_l r1).bind fun e4 =>
    (idx p_l r1).bind fun e5 =>
    (idx p_l r1).bind fun e6 =>
    some (e4.2.2.2.1, (w64 (e5.2.1 - (e6.2.2.1.length : Int))), true)
noncomputable def C24 : FnSpec := { ps := [.val (.slice TGTicket), .val (.int .i64)], rs := [.val (.int .i64), .val (.int .i64), .val .bool], fn := fun x => s_StandingOf x.1 x.2 }
noncomputable def E24 : Env := { T := [(3, (.int .i64)), (23, (.slice TGTicket)), (42, (.slice (.int .i64))), (44, TGTicket)], G := [(43, C43), (48, C48)], ro := [], loops := [], joins := [] }
theorem E24_eq : ∀ x, afun E24 Tryz.f24 C24.ps C24.rs x = C24.fn x := fun x => by kernel_rfl
theorem S24 : Sound Tryz.prog 24 C24 := fun_sound (E := E24) ⟨good_T (by kernel_rfl), (good_cons S43 ⟨_, Tryz.func43, by kernel_rfl, by kernel_rfl⟩ (good_cons S48 ⟨_, Tryz.func48, by kernel_rfl, by kernel_rfl⟩ good_nil)), mixedOk, ins_nil⟩ Tryz.func24 rfl E24_eq
/-- laws.FnDesk -/
noncomputable def l_FnDesk (p_code : List Int) (p_more : List Int) : Option (Bool) :=
  bif (decide (1048576 < (w64 ((p_code.length : Int) + (p_more.length : Int))))) then
    some true
  else
    (s_DrawNoteArrival p_code).bind fun r1 =>
    (i_NoteArrival r1.1 r1.2.1 r1.2.2).bind fun r2 =>
    (s_NoteArrival r1.1 r1.2.1 r1.2.2).bind fun r3 =>
    (s_DrawAcceptMessage p_more).bind fun r4 =>
    (i_AcceptMessage r4.1 r4.2.1 r4.2.2).bind fun r5 =>
    (s_AcceptMessage r4.1 r4.2.1 r4.2.2).bind fun r6 =>
    (s_DrawGiveUp p_more).bind fun r7 =>
    (i_GiveUp r7.1 r7.2).bind fun r8 =>
    (s_GiveUp r7.1 r7.2).bind fun r9 =>
    (s_DrawPartsToSend p_more).bind fun r10 =>
    (i_PartsToSend r10).bind fun r11 =>
    (s_PartsToSend r10).bind fun r12 =>
    (s_DrawReceiptText p_more).bind fun r13 =>
    (i_ReceiptText r13.1 r13.2).bind fun r14 =>
    (s_ReceiptText r13.1 r13.2).bind fun r15 =>
    (bif (r2.2 != r3.2) then
        some true
      else
        (l_qTickets r2.1 r3.1).bind fun r16 =>
        some (!r16)).bind fun c17 =>
    (bif c17 then
        some true
      else
        some (r5.2 != r6.2)).bind fun c18 =>
    (bif c18 then
        some true
      else
        (l_qTickets r5.1 r6.1).bind fun r19 =>
        some (!r19)).bind fun c20 =>
    (bif c20 then
        some true
      else
        some (r8.2 != r9.2)).bind fun c21 =>
    (bif c21 then
        some true
      else
        (l_qTickets r8.1 r9.1).bind fun r22 =>
        some (!r22)).bind fun c23 =>
    (bif c23 then
        some true
      else
        some (r11.2 != r12.2)).bind fun c24 =>
    (bif c24 then
        some true
      else
        (l_qLists r11.1 r12.1).bind fun r25 =>
        some (!r25)).bind fun c26 =>
    (bif c26 then
        some true
      else
        some (r14.2 != r15.2)).bind fun c27 =>
    (bif c27 then
        some true
      else
        some (!decide (r14.1 = r15.1))).bind fun c28 =>
    (bif c28 then
        some true
      else
        (i_AreTickets r10).bind fun r29 =>
        some (r29 != r11.2)).bind fun c30 =>
    bif c30 then
      some false
    else
      ((bif r5.2 then
            (i_StandingOf r5.1 r4.2.1).bind fun r31 =>
            (bif (!r31.2.2) then
                some true
              else
                some (!decide (r31.1 = 0))).bind fun c32 =>
            (bif c32 then
                some true
              else
                some (!decide (r31.2.1 = r4.2.2))).bind fun c33 =>
            (bif c33 then
                some true
              else
                (i_AreTickets r5.1).bind fun r34 =>
                some (!r34)).bind fun c35 =>
            (bif c35 then
                some true
              else
                some (!decide ((r6.1.length : Int) = (w64 ((r4.1.length : Int) + 1))))).bind fun c36 =>
            bif c36 then
              some (.inr false)
            else
              some (.inl (r2.1, r3.1, r8.1, r10, r12.1))
          else
            some (.inl (r2.1, r3.1, r8.1, r10, r12.1)) : Option (((List GTicket) × (List GTicket) × (List GTicket) × (List GTicket) × (List (List Int))) ⊕ Bool))).bind fun j37 =>
      match j37 with
      | .inl x38 =>
        ((bif r8.2 then
              (i_StandingOf x38.2.2.1 r7.2).bind fun r40 =>
              (i_GiveUp x38.2.2.1 r7.2).bind fun r41 =>
              (bif (!r40.2.2) then
                  some true
                else
                  some (!decide (r40.1 = 2))).bind fun c42 =>
              (bif c42 then
                  some true
                else
                  some r41.2).bind fun c43 =>
              (bif c43 then
                  some true
                else
                  (i_AreTickets x38.2.2.1).bind fun r44 =>
                  some (!r44)).bind fun c45 =>
              bif c45 then
                some (.inr false)
              else
                some (.inl (x38.1, x38.2.1, x38.2.2.2.1, x38.2.2.2.2))
            else
              some (.inl (x38.1, x38.2.1, x38.2.2.2.1, x38.2.2.2.2)) : Option (((List GTicket) × (List GTicket) × (List GTicket) × (List (List Int))) ⊕ Bool))).bind fun j46 =>
        match j46 with
        | .inl x47 =>
          ((bif r11.2 then
                (loopE (fun (st51 : (List GTicket) × (List GTicket) × (List (List Int)) × Int × (List GTicket) × Int) => (
                    bif (decide (st51.2.2.2.2.2 < (x47.2.2.1.length : Int))) then
                      (idx st51.2.2.2.2.1 st51.2.2.2.2.2).bind fun e52 =>
                      bif (decide (e52.2.2.2.1 = 0)) then
                        some (.inl (st51.1, st51.2.1, st51.2.2.1, (w64 (st51.2.2.2.1 + (w64 (e52.2.1 - (e52.2.2.1.length : Int))))), st51.2.2.2.2.1, (w64 (st51.2.2.2.2.2 + 1))))
                      else
                        some (.inl (st51.1, st51.2.1, st51.2.2.1, st51.2.2.2.1, st51.2.2.2.2.1, (w64 (st51.2.2.2.2.2 + 1))))
                    else
                      some (.inr (st51.1, st51.2.1, st51.2.2.1, st51.2.2.2.1)) : Option (((List GTicket) × (List GTicket) × (List (List Int)) × Int × (List GTicket) × Int) ⊕ (((List GTicket) × (List GTicket) × (List (List Int)) × Int))))) (x47.1, x47.2.1, x47.2.2.2, 0, x47.2.2.1, 0)).bind fun o53 =>
                bif (!decide (o53.2.2.2 = (o53.2.2.1.length : Int))) then
                  some (.inr false)
                else
                  (loopE (fun (st55 : (List GTicket) × (List GTicket) × Int) => (
                      bif (decide (st55.2.2 < (o53.2.2.1.length : Int))) then
                        (idx o53.2.2.1 st55.2.2).bind fun e56 =>
                        (bif (!decide ((e56.length : Int) = 2)) then
                            some true
                          else
                            (bif (decide (0 < st55.2.2)) then
                                (idx o53.2.2.1 (w64 (st55.2.2 - 1))).bind fun e57 =>
                                (idx e57 0).bind fun e58 =>
                                (idx e56 0).bind fun e59 =>
                                (bif (decide (e59 < e58)) then
                                    some true
                                  else
                                    (idx o53.2.2.1 (w64 (st55.2.2 - 1))).bind fun e60 =>
                                    (idx e60 0).bind fun e61 =>
                                    (idx e56 0).bind fun e62 =>
                                    (bif (decide (e61 = e62)) then
                                        (idx o53.2.2.1 (w64 (st55.2.2 - 1))).bind fun e63 =>
                                        (idx e63 1).bind fun e64 =>
                                        (idx e56 1).bind fun e65 =>
                                        some (decide (e65 ≤ e64))
                                      else
                                        some false).bind fun c66 =>
                                    some c66).bind fun c67 =>
                                some c67
                              else
                                some false).bind fun c68 =>
                            some c68).bind fun c69 =>
                        bif c69 then
                          some (.inr (.inr false))
                        else
                          some (.inl (st55.1, st55.2.1, (w64 (st55.2.2 + 1))))
                      else
                        some (.inr (.inl (st55.1, st55.2.1))) : Option (((List GTicket) × (List GTicket) × Int) ⊕ (((List GTicket) × (List GTicket)) ⊕ Bool)))) (o53.1, o53.2.1, 0)).bind fun o70 =>
                  match o70 with
                  | .inl x71 =>
                    some (.inl (x71.1, x71.2))
                  | .inr y72 =>
                    some (.inr y72)
              else
                some (.inl (x47.1, x47.2.1)) : Option (((List GTicket) × (List GTicket)) ⊕ Bool))).bind fun j73 =>
          match j73 with
          | .inl x74 =>
            bif (!r2.2) then
              some true
            else
              (i_StandingOf r1.1 r1.2.1).bind fun r76 =>
              (s_StandingOf r1.1 r1.2.1).bind fun r77 =>
              (i_StandingOf x74.1 r1.2.1).bind fun r78 =>
              (s_StandingOf x74.2 r1.2.1).bind fun r79 =>
              (bif (!r76.2.2) then
                  some true
                else
                  some (!r77.2.2)).bind fun c80 =>
              (bif c80 then
                  some true
                else
                  some (!decide (r76.1 = r77.1))).bind fun c81 =>
              (bif c81 then
                  some true
                else
                  some (!decide (r76.2.1 = r77.2.1))).bind fun c82 =>
              (bif c82 then
                  some true
                else
                  some (!r78.2.2)).bind fun c83 =>
              (bif c83 then
                  some true
                else
                  some (!r79.2.2)).bind fun c84 =>
              (bif c84 then
                  some true
                else
                  some (!decide (r78.1 = r79.1))).bind fun c85 =>
              (bif c85 then
                  some true
                else
                  some (!decide (r78.2.1 = r79.2.1))).bind fun c86 =>
              (bif c86 then
                  some true
                else
                  some (!decide (r77.1 = 0))).bind fun c87 =>
              (bif c87 then
                  some true
                else
                  some (decide ((w64 (r77.2.1 - r79.2.1)) < 0))).bind fun c88 =>
              (bif c88 then
                  some true
                else
                  some (decide (1 < (w64 (r77.2.1 - r79.2.1))))).bind fun c89 =>
              (bif c89 then
                  some true
                else
                  some ((decide (r79.1 = 1)) != (decide (r79.2.1 = 0)))).bind fun c90 =>
              (bif c90 then
                  some true
                else
                  (i_AreTickets x74.1).bind fun r91 =>
                  some (!r91)).bind fun c92 =>
              bif c92 then
                some false
              else
                bif (decide (r79.1 = 1)) then
                  (i_NoteArrival x74.1 r1.2.1 r1.2.2).bind fun r93 =>
                  some (!r93.2)
                else
                  (i_NoteArrival x74.1 r1.2.1 r1.2.2).bind fun r94 =>
                  (bif r94.2 then
                      (l_qTickets r94.1 x74.2).bind fun r95 =>
                      some r95
                    else
                      some false).bind fun c96 =>
                  some c96
          | .inr y75 =>
            some y75
        | .inr y48 =>
          some y48
      | .inr y39 =>
        some y39
noncomputable def C3 : FnSpec := { ps := [.val (.slice (.int .u8)), .val (.slice (.int .u8))], rs := [.val .bool], fn := fun x => l_FnDesk x.1 x.2 }
noncomputable def E3 : Env := { T := [(3, (.int .i64)), (4, .bool), (22, (.slice (.int .u8))), (23, (.slice TGTicket)), (32, (.slice (.slice (.int .i64)))), (42, (.slice (.int .i64))), (44, TGTicket)], G := [(5, C5), (6, C6), (7, C7), (8, C8), (9, C9), (10, C10), (11, C11), (12, C12), (13, C13), (14, C14), (15, C15), (16, C16), (17, C17), (18, C18), (19, C19), (20, C20), (21, C21), (22, C22), (23, C23), (24, C24)], ro := [], loops := [(32, { keep := [5, 6, 7, 9, 277, 309, 310, 311, 312, 313, 314, 315, 316, 317, 318, 319, 320, 321, 322, 323, 324, 325, 326, 327, 328, 329, 330, 331, 332, 333, 334, 335, 336, 337, 338, 339, 340, 341, 342, 343, 344, 345, 346, 347, 348, 349, 385, 386, 389, 390, 391, 394, 395, 396, 399, 400, 403, 404, 407, 408, 409, 412, 413, 414, 417, 418, 421, 422, 423, 424, 427, 428, 429, 430, 433, 434, 435, 436, 437, 440, 441, 442, 464, 465, 466], live := [.own 8 [] 1296 TGTicket true, .own 10 [] 1408 TGTicket true, .own 28 [] 2192 (.slice (.int .i64)) true, .tv 44 (.int .i64), .tv 276 (.slice TGTicket), .tv 278 (.int .i64)], outs := [(.exit 0, [.own 8 [] 1296 TGTicket true, .own 10 [] 1408 TGTicket true, .own 28 [] 2192 (.slice (.int .i64)) true, .tv 44 (.int .i64)])] }), (40, { keep := [5, 6, 7, 9, 28, 298, 299, 385, 386, 389, 390, 391, 394, 395, 396, 399, 400, 403, 404, 407, 408, 409, 412, 413, 414, 417, 418, 421, 422, 423, 424, 427, 428, 429, 430, 433, 434, 435, 436, 437, 440, 441, 442, 464, 465, 466], live := [.own 8 [] 1296 TGTicket true, .own 10 [] 1408 TGTicket true, .tv 300 (.int .i64)], outs := [(.exit 2, [.own 8 [] 1296 TGTicket true, .own 10 [] 1408 TGTicket true]), (.ret, [.tv 4 .bool])] })], joins := [(24, { keep := [5, 6, 7, 9, 20, 22, 27], live := [], outs := [(.normal, [.own 8 [] 1296 TGTicket true, .own 10 [] 1408 TGTicket true, .own 21 [] 1904 TGTicket true, .own 25 [] 2064 TGTicket true, .own 28 [] 2192 (.slice (.int .i64)) true]), (.ret, [.tv 4 .bool])] }), (29, { keep := [5, 6, 7, 9, 27], live := [], outs := [(.normal, [.own 8 [] 1296 TGTicket true, .own 10 [] 1408 TGTicket true, .own 25 [] 2064 TGTicket true, .own 28 [] 2192 (.slice (.int .i64)) true]), (.ret, [.tv 4 .bool])] }), (45, { keep := [5, 6, 7, 9], live := [], outs := [(.normal, [.own 8 [] 1296 TGTicket true, .own 10 [] 1408 TGTicket true]), (.ret, [.tv 4 .bool])] })], fz := [280], pre := [(39, [2192])] }
theorem E3_eq : ∀ x, afun E3 Tryz.f3 C3.ps C3.rs x = C3.fn x := fun x => by kernel_rfl
theorem S3 : Sound Tryz.prog 3 C3 := fun_sound (E := E3) ⟨good_T (by kernel_rfl), (good_cons S5 ⟨_, Tryz.func5, by kernel_rfl, by kernel_rfl⟩ (good_cons S6 ⟨_, Tryz.func6, by kernel_rfl, by kernel_rfl⟩ (good_cons S7 ⟨_, Tryz.func7, by kernel_rfl, by kernel_rfl⟩ (good_cons S8 ⟨_, Tryz.func8, by kernel_rfl, by kernel_rfl⟩ (good_cons S9 ⟨_, Tryz.func9, by kernel_rfl, by kernel_rfl⟩ (good_cons S10 ⟨_, Tryz.func10, by kernel_rfl, by kernel_rfl⟩ (good_cons S11 ⟨_, Tryz.func11, by kernel_rfl, by kernel_rfl⟩ (good_cons S12 ⟨_, Tryz.func12, by kernel_rfl, by kernel_rfl⟩ (good_cons S13 ⟨_, Tryz.func13, by kernel_rfl, by kernel_rfl⟩ (good_cons S14 ⟨_, Tryz.func14, by kernel_rfl, by kernel_rfl⟩ (good_cons S15 ⟨_, Tryz.func15, by kernel_rfl, by kernel_rfl⟩ (good_cons S16 ⟨_, Tryz.func16, by kernel_rfl, by kernel_rfl⟩ (good_cons S17 ⟨_, Tryz.func17, by kernel_rfl, by kernel_rfl⟩ (good_cons S18 ⟨_, Tryz.func18, by kernel_rfl, by kernel_rfl⟩ (good_cons S19 ⟨_, Tryz.func19, by kernel_rfl, by kernel_rfl⟩ (good_cons S20 ⟨_, Tryz.func20, by kernel_rfl, by kernel_rfl⟩ (good_cons S21 ⟨_, Tryz.func21, by kernel_rfl, by kernel_rfl⟩ (good_cons S22 ⟨_, Tryz.func22, by kernel_rfl, by kernel_rfl⟩ (good_cons S23 ⟨_, Tryz.func23, by kernel_rfl, by kernel_rfl⟩ (good_cons S24 ⟨_, Tryz.func24, by kernel_rfl, by kernel_rfl⟩ good_nil)))))))))))))))))))), mixedOk, ins_nil⟩ Tryz.func3 rfl E3_eq
/-- spec.DrawRunDesk -/
noncomputable def s_DrawRunDesk (p_code : List Int) : Option ((List GTicket) × (List GDeskMove)) :=
  (s_l1Cur_tickets (p_code, 0, 0, ())).bind fun r1 =>
  (s_l1Cur_one r1.1 2).bind fun r2 =>
  bif r2.2 then
    (s_l1Cur_deskMoves r2.1).bind fun r3 =>
    some ([], r3.2)
  else
    (s_l1Cur_deskMoves r2.1).bind fun r4 =>
    some (r1.2, r4.2)
noncomputable def C25 : FnSpec := { ps := [.val (.slice (.int .u8))], rs := [.own (.slice TGTicket), .own (.slice TGDeskMove)], fn := fun x => s_DrawRunDesk x }
noncomputable def E25 : Env := { T := [(59, TGl1Cur)], G := [(34, C34), (39, C39), (54, C54)], ro := [], loops := [], joins := [] }
theorem E25_eq : ∀ x, afun E25 Tryz.f25 C25.ps C25.rs x = C25.fn x := fun x => by kernel_rfl
theorem S25 : Sound Tryz.prog 25 C25 := fun_sound (E := E25) ⟨good_T (by kernel_rfl), (good_cons S34 ⟨_, Tryz.func34, by kernel_rfl, by kernel_rfl⟩ (good_cons S39 ⟨_, Tryz.func39, by kernel_rfl, by kernel_rfl⟩ (good_cons S54 ⟨_, Tryz.func54, by kernel_rfl, by kernel_rfl⟩ good_nil))), mixedOk, ins_nil⟩ Tryz.func25 rfl E25_eq
/-- impl.RunDesk -/
noncomputable def i_RunDesk (p_l : List GTicket) (p_moves : List GDeskMove) : Option ((List GTicket) × Int × Bool) :=
  (i_AreTickets p_l).bind fun r1 =>
  (bif (!r1) then
      some true
    else
      some (decide (60 < (p_moves.length : Int)))).bind fun c2 =>
  bif c2 then
    some ([], 0, false)
  else
    (i_cloneTickets p_l).bind fun r3 =>
    (loopE (fun (st5 : (List GTicket) × Int) => (
        bif (decide (st5.2 < (p_moves.length : Int))) then
          (idx p_moves st5.2).bind fun e6 =>
          (i_makeMove st5.1 e6).bind fun r7 =>
          bif (!r7.2) then
            some (.inr (.inr (st5.1, st5.2, true)))
          else
            some (.inl (r7.1, (w64 (st5.2 + 1))))
        else
          some (.inr (.inl st5.1)) : Option (((List GTicket) × Int) ⊕ ((List GTicket) ⊕ ((List GTicket) × Int × Bool))))) (r3, 0)).bind fun o8 =>
    match o8 with
    | .inl x9 =>
      some (x9, (p_moves.length : Int), true)
    | .inr y10 =>
      some (y10.1, y10.2.1, y10.2.2)
noncomputable def C26 : FnSpec := { ps := [.val (.slice TGTicket), .val (.slice TGDeskMove)], rs := [.own (.slice TGTicket), .val (.int .i64), .val .bool], fn := fun x => i_RunDesk x.1 x.2 }
noncomputable def E26 : Env := { T := [(46, (.slice TGDeskMove)), (55, TGDeskMove)], G := [(22, C22), (37, C37), (55, C55)], ro := [], loops := [(5, { keep := [1, 21, 22], live := [.own 0 [] 320 TGTicket true, .tv 23 (.int .i64)], outs := [(.exit 0, [.own 0 [] 320 TGTicket true]), (.ret, [.own 4 [] 320 TGTicket true, .tv 5 (.int .i64), .tv 6 .bool])] })], joins := [] }
theorem E26_eq : ∀ x, afun E26 Tryz.f26 C26.ps C26.rs x = C26.fn x := fun x => by kernel_rfl
theorem S26 : Sound Tryz.prog 26 C26 := fun_sound (E := E26) ⟨good_T (by kernel_rfl), (good_cons S22 ⟨_, Tryz.func22, by kernel_rfl, by kernel_rfl⟩ (good_cons S37 ⟨_, Tryz.func37, by kernel_rfl, by kernel_rfl⟩ (good_cons S55 ⟨_, Tryz.func55, by kernel_rfl, by kernel_rfl⟩ good_nil))), mixedOk, ins_nil⟩ Tryz.func26 rfl E26_eq
/-- spec.RunDesk -/
noncomputable def s_RunDesk (p_l : List GTicket) (p_moves : List GDeskMove) : Option ((List GTicket) × Int × Bool) :=
  (s_dkGood p_l).bind fun r1 =>
  (bif (!r1) then
      some true
    else
      some (decide (60 < (p_moves.length : Int)))).bind fun c2 =>
  bif c2 then
    some ([], 0, false)
  else
    (s_dkOwn p_l).bind fun r3 =>
    (loopE (fun (st5 : (List GTicket) × Int) => (
        bif (decide (st5.2 < (p_moves.length : Int))) then
          (idx p_moves st5.2).bind fun e6 =>
          (s_dkStep st5.1 e6).bind fun r7 =>
          bif (!r7.2) then
            some (.inr (.inr (st5.1, st5.2, true)))
          else
            some (.inl (r7.1, (w64 (st5.2 + 1))))
        else
          some (.inr (.inl st5.1)) : Option (((List GTicket) × Int) ⊕ ((List GTicket) ⊕ ((List GTicket) × Int × Bool))))) (r3, 0)).bind fun o8 =>
    match o8 with
    | .inl x9 =>
      some (x9, (p_moves.length : Int), true)
    | .inr y10 =>
      some (y10.1, y10.2.1, y10.2.2)
noncomputable def C27 : FnSpec := { ps := [.val (.slice TGTicket), .val (.slice TGDeskMove)], rs := [.own (.slice TGTicket), .val (.int .i64), .val .bool], fn := fun x => s_RunDesk x.1 x.2 }
noncomputable def E27 : Env := { T := [(46, (.slice TGDeskMove)), (55, TGDeskMove)], G := [(43, C43), (56, C56), (57, C57)], ro := [], loops := [(5, { keep := [1, 22, 23], live := [.own 7 [] 336 TGTicket true, .tv 24 (.int .i64)], outs := [(.exit 0, [.own 7 [] 336 TGTicket true]), (.ret, [.own 4 [] 336 TGTicket true, .tv 5 (.int .i64), .tv 6 .bool])] })], joins := [] }
theorem E27_eq : ∀ x, afun E27 Tryz.f27 C27.ps C27.rs x = C27.fn x := fun x => by kernel_rfl
theorem S27 : Sound Tryz.prog 27 C27 := fun_sound (E := E27) ⟨good_T (by kernel_rfl), (good_cons S43 ⟨_, Tryz.func43, by kernel_rfl, by kernel_rfl⟩ (good_cons S56 ⟨_, Tryz.func56, by kernel_rfl, by kernel_rfl⟩ (good_cons S57 ⟨_, Tryz.func57, by kernel_rfl, by kernel_rfl⟩ good_nil))), mixedOk, ins_nil⟩ Tryz.func27 rfl E27_eq
/-- spec.DrawCountStates -/
noncomputable def s_DrawCountStates (p_code : List Int) : Option ((List GTicket)) :=
  (s_DrawAreTickets p_code).bind fun r1 =>
  some r1
noncomputable def C28 : FnSpec := { ps := [.val (.slice (.int .u8))], rs := [.own (.slice TGTicket)], fn := fun x => s_DrawCountStates x }
noncomputable def E28 : Env := { T := [], G := [(41, C41)], ro := [], loops := [], joins := [] }
theorem E28_eq : ∀ x, afun E28 Tryz.f28 C28.ps C28.rs x = C28.fn x := fun x => by kernel_rfl
theorem S28 : Sound Tryz.prog 28 C28 := fun_sound (E := E28) ⟨good_T (by kernel_rfl), (good_cons S41 ⟨_, Tryz.func41, by kernel_rfl, by kernel_rfl⟩ good_nil), mixedOk, ins_nil⟩ Tryz.func28 rfl E28_eq
/-- impl.CountStates -/
noncomputable def i_CountStates (p_l : List GTicket) : Option (Int × Int × Int × Bool) :=
  (i_AreTickets p_l).bind fun r1 =>
  bif (!r1) then
    some (0, 0, 0, false)
  else
    (loopE (fun (st3 : Int × Int × Int × Int) => (
        bif (decide (st3.2.2.2 < (p_l.length : Int))) then
          (idx p_l st3.2.2.2).bind fun e4 =>
          bif decide (e4.2.2.2.1 = (2 : Int)) then
            bif decide (e4.2.2.2.1 = (2 : Int)) then
              some (.inl (st3.1, st3.2.1, (w64 (st3.2.2.1 + 1)), (w64 (st3.2.2.2 + 1))))
            else
              bif decide (e4.2.2.2.1 = (1 : Int)) then
                some (.inl (st3.1, (w64 (st3.2.2.1 + 1)), st3.2.2.1, (w64 (st3.2.2.2 + 1))))
              else
                bif decide (e4.2.2.2.1 = (0 : Int)) then
                  some (.inl ((w64 (st3.2.2.1 + 1)), st3.2.1, st3.2.2.1, (w64 (st3.2.2.2 + 1))))
                else
                  none
          else
            bif decide (e4.2.2.2.1 = (1 : Int)) then
              bif decide (e4.2.2.2.1 = (2 : Int)) then
                some (.inl (st3.1, st3.2.1, (w64 (st3.2.1 + 1)), (w64 (st3.2.2.2 + 1))))
              else
                bif decide (e4.2.2.2.1 = (1 : Int)) then
                  some (.inl (st3.1, (w64 (st3.2.1 + 1)), st3.2.2.1, (w64 (st3.2.2.2 + 1))))
                else
                  bif decide (e4.2.2.2.1 = (0 : Int)) then
                    some (.inl ((w64 (st3.2.1 + 1)), st3.2.1, st3.2.2.1, (w64 (st3.2.2.2 + 1))))
                  else
                    none
            else
              bif decide (e4.2.2.2.1 = (0 : Int)) then
                bif decide (e4.2.2.2.1 = (2 : Int)) then
                  some (.inl (st3.1, st3.2.1, (w64 (st3.1 + 1)), (w64 (st3.2.2.2 + 1))))
                else
                  bif decide (e4.2.2.2.1 = (1 : Int)) then
                    some (.inl (st3.1, (w64 (st3.1 + 1)), st3.2.2.1, (w64 (st3.2.2.2 + 1))))
                  else
                    bif decide (e4.2.2.2.1 = (0 : Int)) then
                      some (.inl ((w64 (st3.1 + 1)), st3.2.1, st3.2.2.1, (w64 (st3.2.2.2 + 1))))
                    else
                      none
              else
                none
        else
          some (.inr (st3.1, st3.2.1, st3.2.2.1)) : Option ((Int × Int × Int × Int) ⊕ ((Int × Int × Int))))) (0, 0, 0, 0)).bind fun o5 =>
    some (o5.1, o5.2.1, o5.2.2, true)
noncomputable def C29 : FnSpec := { ps := [.val (.slice TGTicket)], rs := [.val (.int .i64), .val (.int .i64), .val (.int .i64), .val .bool], fn := fun x => i_CountStates x }
noncomputable def E29 : Env := { T := [(3, (.int .i64)), (23, (.slice TGTicket)), (44, TGTicket), (78, (.pair .unit TGDeskMove))], G := [(22, C22)], ro := [], loops := [(5, { keep := [12, 13], live := [.bx 6 96 [.pv (.int .i64), .pv (.int .i64), .pv (.int .i64)], .tv 14 (.int .i64)], outs := [(.exit 0, [.bx 6 96 [.pv (.int .i64), .pv (.int .i64), .pv (.int .i64)]])] })], joins := [] }
theorem E29_eq : ∀ x, afun E29 Tryz.f29 C29.ps C29.rs x = C29.fn x := fun x => by kernel_rfl
theorem S29 : Sound Tryz.prog 29 C29 := fun_sound (E := E29) ⟨good_T (by kernel_rfl), (good_cons S22 ⟨_, Tryz.func22, by kernel_rfl, by kernel_rfl⟩ good_nil), mixedOk, ins_nil⟩ Tryz.func29 rfl E29_eq
/-- spec.CountStates -/
noncomputable def s_CountStates (p_l : List GTicket) : Option (Int × Int × Int × Bool) :=
  (s_dkGood p_l).bind fun r1 =>
  bif (!r1) then
    some (0, 0, 0, false)
  else
    bif decide (0 ≤ 3) && decide (3 ≤ 3) && decide (3 ≤ lim) then
      (loopE (fun (st3 : (List Int) × Int) => (
          bif (decide (st3.2 < (p_l.length : Int))) then
            (idx p_l st3.2).bind fun e4 =>
            bif decide (0 ≤ e4.2.2.2.1) && decide (e4.2.2.2.1 < (st3.1.length : Int)) then
              (st3.1[(Int.toNat e4.2.2.2.1)]?).bind fun e5 =>
              bif decide (0 ≤ e4.2.2.2.1) && decide (e4.2.2.2.1 < (st3.1.length : Int)) then
                some (.inl ((st3.1.set (Int.toNat e4.2.2.2.1) (w64 (e5 + 1))), (w64 (st3.2 + 1))))
              else
                none
            else
              none
          else
            some (.inr st3.1) : Option (((List Int) × Int) ⊕ ((List Int))))) ((List.replicate (Int.toNat 3) (0 : Int)), 0)).bind fun o6 =>
      bif decide (0 ≤ 0) && decide (0 < (o6.length : Int)) then
        (o6[(Int.toNat 0)]?).bind fun e7 =>
        bif decide (0 ≤ 1) && decide (1 < (o6.length : Int)) then
          (o6[(Int.toNat 1)]?).bind fun e8 =>
          bif decide (0 ≤ 2) && decide (2 < (o6.length : Int)) then
            (o6[(Int.toNat 2)]?).bind fun e9 =>
            some (e7, e8, e9, true)
          else
            none
        else
          none
      else
        none
    else
      none
noncomputable def C30 : FnSpec := { ps := [.val (.slice TGTicket)], rs := [.val (.int .i64), .val (.int .i64), .val (.int .i64), .val .bool], fn := fun x => s_CountStates x }
noncomputable def E30 : Env := { T := [(3, (.int .i64)), (23, (.slice TGTicket)), (42, (.slice (.int .i64))), (44, TGTicket)], G := [(43, C43)], ro := [], loops := [(5, { keep := [13, 14], live := [.own 6 [] 192 (.int .i64) true, .tv 15 (.int .i64)], outs := [(.exit 0, [.own 6 [] 192 (.int .i64) true])] })], joins := [] }
theorem E30_eq : ∀ x, afun E30 Tryz.f30 C30.ps C30.rs x = C30.fn x := fun x => by kernel_rfl
theorem S30 : Sound Tryz.prog 30 C30 := fun_sound (E := E30) ⟨good_T (by kernel_rfl), (good_cons S43 ⟨_, Tryz.func43, by kernel_rfl, by kernel_rfl⟩ good_nil), mixedOk, ins_nil⟩ Tryz.func30 rfl E30_eq
/-- impl.ClearDesk -/
noncomputable def i_ClearDesk (p_l : List GTicket) : Option ((List GTicket) × Bool) :=
  (i_AreTickets p_l).bind fun r1 =>
  bif (!r1) then
    some ([], false)
  else
    (i_cloneTickets p_l).bind fun r2 =>
    bif decide (List.length r2 ≤ 999999) then
      some ((List.filter DT.keep r2), true)
    else
      none
noncomputable def C31 : FnSpec := { ps := [.val (.slice TGTicket)], rs := [.own (.slice TGTicket), .val .bool], fn := fun x => i_ClearDesk x }
noncomputable def E31 : Env := { T := [], G := [(22, C22), (55, C55)], ro := [], loops := [], joins := [], del := [(58, DT)] }
theorem E31_eq : ∀ x, afun E31 Tryz.f31 C31.ps C31.rs x = C31.fn x := fun x => by kernel_rfl
theorem S31 : Sound Tryz.prog 31 C31 := fun_sound (E := E31) ⟨good_T (by kernel_rfl), (good_cons S22 ⟨_, Tryz.func22, by kernel_rfl, by kernel_rfl⟩ (good_cons S55 ⟨_, Tryz.func55, by kernel_rfl, by kernel_rfl⟩ good_nil)), mixedOk, (del_cons delOk ⟨_, Tryz.func58, by kernel_rfl, by kernel_rfl⟩ ins_nil)⟩ Tryz.func31 rfl E31_eq
/-- spec.ClearDesk -/
noncomputable def s_ClearDesk (p_l : List GTicket) : Option ((List GTicket) × Bool) :=
  (s_dkGood p_l).bind fun r1 =>
  bif (!r1) then
    some ([], false)
  else
    (s_dkOwn p_l).bind fun r2 =>
    (loopE (fun (st5 : (List GTicket) × (List GTicket) × Int) => (
        bif (decide (st5.2.2 < (r2.length : Int))) then
          (idx st5.2.1 st5.2.2).bind fun e6 =>
          bif (decide (e6.2.2.2.1 = 0)) then
            bif decide (List.length st5.1 + List.length [e6] ≤ lim) then
              some (.inl ((st5.1 ++ [e6]), st5.2.1, (w64 (st5.2.2 + 1))))
            else
              none
          else
            some (.inl (st5.1, st5.2.1, (w64 (st5.2.2 + 1))))
        else
          some (.inr st5.1) : Option (((List GTicket) × (List GTicket) × Int) ⊕ ((List GTicket))))) ([], r2, 0)).bind fun o7 =>
    some (o7, true)
noncomputable def C32 : FnSpec := { ps := [.val (.slice TGTicket)], rs := [.val (.slice TGTicket), .val .bool], fn := fun x => s_ClearDesk x }
noncomputable def E32 : Env := { T := [(3, (.int .i64)), (23, (.slice TGTicket)), (44, TGTicket)], G := [(43, C43), (56, C56)], ro := [], loops := [(5, { keep := [12], live := [.own 4 [] 200004 TGTicket false, .tv 11 (.slice TGTicket), .tv 13 (.int .i64)], outs := [(.exit 0, [.own 4 [] 200004 TGTicket false])] })], joins := [], fz := [15] }
theorem E32_eq : ∀ x, afun E32 Tryz.f32 C32.ps C32.rs x = C32.fn x := fun x => by kernel_rfl
theorem S32 : Sound Tryz.prog 32 C32 := fun_sound (E := E32) ⟨good_T (by kernel_rfl), (good_cons S43 ⟨_, Tryz.func43, by kernel_rfl, by kernel_rfl⟩ (good_cons S56 ⟨_, Tryz.func56, by kernel_rfl, by kernel_rfl⟩ good_nil)), mixedOk, ins_nil⟩ Tryz.func32 rfl E32_eq
/-- spec.DrawStandingOf -/
noncomputable def s_DrawStandingOf (p_code : List Int) : Option ((List GTicket) × Int) :=
  (s_DrawGiveUp p_code).bind fun r1 =>
  some (r1.1, r1.2)
noncomputable def C33 : FnSpec := { ps := [.val (.slice (.int .u8))], rs := [.val (.slice TGTicket), .val (.int .i64)], fn := fun x => s_DrawStandingOf x }
noncomputable def E33 : Env := { T := [], G := [(11, C11)], ro := [], loops := [], joins := [] }
theorem E33_eq : ∀ x, afun E33 Tryz.f33 C33.ps C33.rs x = C33.fn x := fun x => by kernel_rfl
theorem S33 : Sound Tryz.prog 33 C33 := fun_sound (E := E33) ⟨good_T (by kernel_rfl), (good_cons S11 ⟨_, Tryz.func11, by kernel_rfl, by kernel_rfl⟩ good_nil), mixedOk, ins_nil⟩ Tryz.func33 rfl E33_eq
/-- laws.FnDeskRuns -/
noncomputable def l_FnDeskRuns (p_code : List Int) (p_more : List Int) : Option (Bool) :=
  bif (decide (1048576 < (w64 ((p_code.length : Int) + (p_more.length : Int))))) then
    some true
  else
    (s_DrawRunDesk p_code).bind fun r1 =>
    (i_RunDesk r1.1 r1.2).bind fun r2 =>
    (s_RunDesk r1.1 r1.2).bind fun r3 =>
    (s_DrawCountStates p_more).bind fun r4 =>
    (i_CountStates r4).bind fun r5 =>
    (s_CountStates r4).bind fun r6 =>
    (i_ClearDesk r4).bind fun r7 =>
    (s_ClearDesk r4).bind fun r8 =>
    (s_DrawStandingOf p_more).bind fun r9 =>
    (i_StandingOf r9.1 r9.2).bind fun r10 =>
    (s_StandingOf r9.1 r9.2).bind fun r11 =>
    (bif (r2.2.2 != r3.2.2) then
        some true
      else
        (l_qTickets r2.1 r3.1).bind fun r12 =>
        some (!r12)).bind fun c13 =>
    (bif c13 then
        some true
      else
        some (!decide (r2.2.1 = r3.2.1))).bind fun c14 =>
    (bif c14 then
        some true
      else
        some (r5.2.2.2 != r6.2.2.2)).bind fun c15 =>
    (bif c15 then
        some true
      else
        some (!decide (r5.1 = r6.1))).bind fun c16 =>
    (bif c16 then
        some true
      else
        some (!decide (r5.2.1 = r6.2.1))).bind fun c17 =>
    (bif c17 then
        some true
      else
        some (!decide (r5.2.2.1 = r6.2.2.1))).bind fun c18 =>
    (bif c18 then
        some true
      else
        some (r7.2 != r8.2)).bind fun c19 =>
    (bif c19 then
        some true
      else
        (l_qTickets r7.1 r8.1).bind fun r20 =>
        some (!r20)).bind fun c21 =>
    (bif c21 then
        some true
      else
        some (r10.2.2 != r11.2.2)).bind fun c22 =>
    (bif c22 then
        some true
      else
        some (!decide (r10.1 = r11.1))).bind fun c23 =>
    (bif c23 then
        some true
      else
        some (!decide (r10.2.1 = r11.2.1))).bind fun c24 =>
    (bif c24 then
        some true
      else
        some (r7.2 != r5.2.2.2)).bind fun c25 =>
    bif c25 then
      some false
    else
      ((bif r5.2.2.2 then
            (i_CountStates r7.1).bind fun r26 =>
            (i_PartsToSend r7.1).bind fun r27 =>
            (i_PartsToSend r4).bind fun r28 =>
            (s_PartsToSend r4).bind fun r29 =>
            (bif (!decide ((w64 ((w64 (r6.1 + r6.2.1)) + r6.2.2.1)) = (r4.length : Int))) then
                some true
              else
                some (!r26.2.2.2)).bind fun c30 =>
            (bif c30 then
                some true
              else
                some (!decide (r26.1 = r6.1))).bind fun c31 =>
            (bif c31 then
                some true
              else
                some (!decide ((r8.1.length : Int) = r6.1))).bind fun c32 =>
            (bif c32 then
                some true
              else
                some (!r27.2)).bind fun c33 =>
            (bif c33 then
                some true
              else
                some (!r28.2)).bind fun c34 =>
            (bif c34 then
                some true
              else
                some (!r29.2)).bind fun c35 =>
            (bif c35 then
                some true
              else
                (l_qLists r27.1 r29.1).bind fun r36 =>
                some (!r36)).bind fun c37 =>
            (bif c37 then
                some true
              else
                (l_qLists r28.1 r29.1).bind fun r38 =>
                some (!r38)).bind fun c39 =>
            bif c39 then
              some (.inr false)
            else
              some (.inl (r1.1, r1.2, r2.1, r3.1))
          else
            some (.inl (r1.1, r1.2, r2.1, r3.1)) : Option (((List GTicket) × (List GDeskMove) × (List GTicket) × (List GTicket)) ⊕ Bool))).bind fun j40 =>
      match j40 with
      | .inl x41 =>
        (bif r10.2.2 then
            (bif (decide (r11.2.1 < 0)) then
                some true
              else
                (bif (decide (r11.1 = 1)) then
                    some (!decide (r11.2.1 = 0))
                  else
                    some false).bind fun c43 =>
                some c43).bind fun c44 =>
            (bif c44 then
                some true
              else
                (bif (!decide (r11.1 = 1)) then
                    some (decide (r11.2.1 = 0))
                  else
                    some false).bind fun c45 =>
                some c45).bind fun c46 =>
            some c46
          else
            some false).bind fun c47 =>
        bif c47 then
          some false
        else
          bif (!r2.2.2) then
            some true
          else
            (sub x41.2.1 0 (w64 (Int.tdiv r3.2.1 2))).bind fun l48 =>
            (i_RunDesk x41.1 l48).bind fun r49 =>
            (sub x41.2.1 (w64 (Int.tdiv r3.2.1 2)) r3.2.1).bind fun l50 =>
            (i_RunDesk r49.1 l50).bind fun r51 =>
            (bif (!r49.2.2) then
                some true
              else
                some (!decide (r49.2.1 = (w64 (Int.tdiv r3.2.1 2))))).bind fun c52 =>
            (bif c52 then
                some true
              else
                some (!r51.2.2)).bind fun c53 =>
            (bif c53 then
                some true
              else
                some (!decide (r51.2.1 = (w64 (r3.2.1 - (w64 (Int.tdiv r3.2.1 2))))))).bind fun c54 =>
            (bif c54 then
                some true
              else
                (l_qTickets r51.1 x41.2.2.2).bind fun r55 =>
                some (!r55)).bind fun c56 =>
            (bif c56 then
                some true
              else
                (i_AreTickets x41.2.2.1).bind fun r57 =>
                some (!r57)).bind fun c58 =>
            bif c58 then
              some false
            else
              (sub x41.2.1 0 r3.2.1).bind fun l59 =>
              (loopE (fun (st61 : (List GTicket) × (List GTicket) × Int) => (
                  bif (decide (st61.2.2 < (l59.length : Int))) then
                    (idx l59 st61.2.2).bind fun e62 =>
                    (i_ReceiptText st61.1 e62.2.1).bind fun r63 =>
                    (s_ReceiptText st61.2.1 e62.2.1).bind fun r64 =>
                    (bif (!r63.2) then
                        some true
                      else
                        some (!r64.2)).bind fun c65 =>
                    (bif c65 then
                        some true
                      else
                        some (!decide (r63.1 = r64.1))).bind fun c66 =>
                    bif c66 then
                      some (.inr (.inr false))
                    else
                      some (.inl (st61.1, st61.2.1, (w64 (st61.2.2 + 1))))
                  else
                    some (.inr (.inl st61.1)) : Option (((List GTicket) × (List GTicket) × Int) ⊕ ((List GTicket) ⊕ Bool)))) (x41.2.2.1, x41.2.2.2, 0)).bind fun o67 =>
              match o67 with
              | .inl x68 =>
                bif (decide (r3.2.1 = (x41.2.1.length : Int))) then
                  some true
                else
                  (sub x41.2.1 r3.2.1 (w64 (r3.2.1 + 1))).bind fun l70 =>
                  (i_RunDesk x68 l70).bind fun r71 =>
                  (bif r71.2.2 then
                      some (decide (r71.2.1 = 0))
                    else
                      some false).bind fun c72 =>
                  some c72
              | .inr y69 =>
                some y69
      | .inr y42 =>
        some y42
noncomputable def C4 : FnSpec := { ps := [.val (.slice (.int .u8)), .val (.slice (.int .u8))], rs := [.val .bool], fn := fun x => l_FnDeskRuns x.1 x.2 }
noncomputable def E4 : Env := { T := [(3, (.int .i64)), (4, .bool), (22, (.slice (.int .u8))), (23, (.slice TGTicket)), (46, (.slice TGDeskMove)), (55, TGDeskMove)], G := [(15, C15), (16, C16), (18, C18), (19, C19), (20, C20), (21, C21), (22, C22), (23, C23), (24, C24), (25, C25), (26, C26), (27, C27), (28, C28), (29, C29), (30, C30), (31, C31), (32, C32), (33, C33)], ro := [], loops := [(32, { keep := [6, 11, 341, 342, 390, 391], live := [.own 7 [] 1168 TGTicket true, .own 10 [] 1280 TGTicket true, .tv 343 (.int .i64)], outs := [(.exit 0, [.own 7 [] 1168 TGTicket true]), (.ret, [.tv 4 .bool])] })], joins := [(23, { keep := [9, 11, 30, 31, 32], live := [], outs := [(.normal, [.own 5 [] 1072 TGTicket true, .own 6 [] 1073 TGDeskMove true, .own 7 [] 1168 TGTicket true, .own 10 [] 1280 TGTicket true]), (.ret, [.tv 4 .bool])] })], pre := [(27, [1073])] }
theorem E4_eq : ∀ x, afun E4 Tryz.f4 C4.ps C4.rs x = C4.fn x := fun x => by kernel_rfl
theorem S4 : Sound Tryz.prog 4 C4 := fun_sound (E := E4) ⟨good_T (by kernel_rfl), (good_cons S15 ⟨_, Tryz.func15, by kernel_rfl, by kernel_rfl⟩ (good_cons S16 ⟨_, Tryz.func16, by kernel_rfl, by kernel_rfl⟩ (good_cons S18 ⟨_, Tryz.func18, by kernel_rfl, by kernel_rfl⟩ (good_cons S19 ⟨_, Tryz.func19, by kernel_rfl, by kernel_rfl⟩ (good_cons S20 ⟨_, Tryz.func20, by kernel_rfl, by kernel_rfl⟩ (good_cons S21 ⟨_, Tryz.func21, by kernel_rfl, by kernel_rfl⟩ (good_cons S22 ⟨_, Tryz.func22, by kernel_rfl, by kernel_rfl⟩ (good_cons S23 ⟨_, Tryz.func23, by kernel_rfl, by kernel_rfl⟩ (good_cons S24 ⟨_, Tryz.func24, by kernel_rfl, by kernel_rfl⟩ (good_cons S25 ⟨_, Tryz.func25, by kernel_rfl, by kernel_rfl⟩ (good_cons S26 ⟨_, Tryz.func26, by kernel_rfl, by kernel_rfl⟩ (good_cons S27 ⟨_, Tryz.func27, by kernel_rfl, by kernel_rfl⟩ (good_cons S28 ⟨_, Tryz.func28, by kernel_rfl, by kernel_rfl⟩ (good_cons S29 ⟨_, Tryz.func29, by kernel_rfl, by kernel_rfl⟩ (good_cons S30 ⟨_, Tryz.func30, by kernel_rfl, by kernel_rfl⟩ (good_cons S31 ⟨_, Tryz.func31, by kernel_rfl, by kernel_rfl⟩ (good_cons S32 ⟨_, Tryz.func32, by kernel_rfl, by kernel_rfl⟩ (good_cons S33 ⟨_, Tryz.func33, by kernel_rfl, by kernel_rfl⟩ good_nil)))))))))))))))))), mixedOk, ins_nil⟩ Tryz.func4 rfl E4_eq
end Go.Proofs.YthgnllgpdheidaaGreatDoor.Sh
