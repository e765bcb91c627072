/-
  The functions that the statement reaches, as plain functions; each with its contract.
-/
import Derived.Test.YteocijadidgagaaXLift
import Derived.Test.YteocijadidgagaaChecked
import Derived.KernelRfl
import Derived.Test.YteocijadidgagaaDWalkI
namespace Go.Proofs.Yteocijadidgagaa.Sh
open Go Go.Ab Go.Proofs
set_option maxRecDepth 100000
abbrev TGerrorAddressString : Ty := .pair .str (.pair (.int .u64) .unit)
abbrev GerrorAddressString : Type := Bytes × Int × Unit
abbrev TGDeskMove : Ty := .pair (.int .i64) (.pair (.int .i64) (.pair (.int .i64) .unit))
abbrev GDeskMove : Type := Int × Int × Int × Unit
abbrev TGboundsError : Ty := .pair (.int .i64) (.pair (.int .i64) (.pair .bool (.pair (.int .u8) .unit)))
abbrev GboundsError : Type := Int × Int × Bool × Int × Unit
abbrev TGTicket : Ty := .pair (.int .i64) (.pair (.int .i64) (.pair (.slice (.int .i64)) (.pair (.int .i64) .unit)))
abbrev GTicket : Type := Int × Int × (List Int) × Int × Unit
theorem mixedOk : Try.prog.follows .mixedOrders = true := by kernel_rfl
/-- laws.szIntS -/
noncomputable def l_szIntS (p_a : List Int) (p_left : Int) : Option (Int) :=
  bif (decide ((w64 (p_left - (p_a.length : Int))) < 0)) then
    some (-1)
  else
    some (w64 (p_left - (p_a.length : Int)))
noncomputable def C43 : FnSpec := { ps := [.val (.slice (.int .i64)), .val (.int .i64)], rs := [.val (.int .i64)], fn := fun x => l_szIntS x.1 x.2 }
noncomputable def E43 : Env := { T := [(45, (.slice (.int .i64)))], G := [], ro := [], loops := [], joins := [] }
theorem E43_eq : ∀ x, afun E43 Try.f43 C43.ps C43.rs x = C43.fn x := fun x => by kernel_rfl
theorem S43 : Sound Try.prog 43 C43 := fun_sound (E := E43) ⟨good_T (by kernel_rfl), good_nil, mixedOk, ins_nil⟩ Try.func43 rfl E43_eq
/-- laws.szTicket -/
noncomputable def l_szTicket (p_a : GTicket) (p_left : Int) : Option (Int) :=
  (l_szIntS p_a.2.2.1 p_left).bind fun r1 =>
  bif (decide (r1 < 0)) then
    some (-1)
  else
    some r1
noncomputable def C27 : FnSpec := { ps := [.val TGTicket, .val (.int .i64)], rs := [.val (.int .i64)], fn := fun x => l_szTicket x.1 x.2 }
noncomputable def E27 : Env := { T := [(45, (.slice (.int .i64))), (47, TGTicket)], G := [(43, C43)], ro := [2], loops := [], joins := [] }
theorem E27_eq : ∀ x, afun E27 Try.f27 C27.ps C27.rs x = C27.fn x := fun x => by kernel_rfl
theorem S27 : Sound Try.prog 27 C27 := fun_sound (E := E27) ⟨good_T (by kernel_rfl), (good_cons S43 ⟨_, Try.func43, by kernel_rfl, by kernel_rfl⟩ good_nil), mixedOk, ins_nil⟩ Try.func27 rfl E27_eq
/-- laws.szTicketS -/
noncomputable def l_szTicketS (p_a : List GTicket) (p_left : Int) : Option (Int) :=
  bif (decide ((w64 (p_left - (p_a.length : Int))) < 0)) then
    some (-1)
  else
    (loopE (fun (st2 : Int × Int) => (
        bif (decide (st2.2 < (p_a.length : Int))) then
          (idx p_a st2.2).bind fun e3 =>
          (l_szTicket e3 st2.1).bind fun r4 =>
          bif (decide (r4 < 0)) then
            some (.inr (.inr (-1)))
          else
            some (.inl (r4, (w64 (st2.2 + 1))))
        else
          some (.inr (.inl st2.1)) : Option ((Int × Int) ⊕ (Int ⊕ Int)))) ((w64 (p_left - (p_a.length : Int))), 0)).bind fun o5 =>
    match o5 with
    | .inl x6 =>
      some x6
    | .inr y7 =>
      some y7
noncomputable def C8 : FnSpec := { ps := [.val (.slice TGTicket), .val (.int .i64)], rs := [.val (.int .i64)], fn := fun x => l_szTicketS x.1 x.2 }
noncomputable def E8 : Env := { T := [(22, (.slice TGTicket)), (47, TGTicket)], G := [(27, C27)], ro := [], loops := [(5, { keep := [0], live := [.tv 1 (.int .i64), .tv 5 (.int .i64)], outs := [(.exit 0, [.tv 1 (.int .i64)]), (.ret, [.tv 4 (.int .i64)])] })], joins := [] }
theorem E8_eq : ∀ x, afun E8 Try.f8 C8.ps C8.rs x = C8.fn x := fun x => by kernel_rfl
theorem S8 : Sound Try.prog 8 C8 := fun_sound (E := E8) ⟨good_T (by kernel_rfl), (good_cons S27 ⟨_, Try.func27, by kernel_rfl, by kernel_rfl⟩ good_nil), mixedOk, ins_nil⟩ Try.func8 rfl E8_eq
/-- spec.l1In -/
noncomputable def s_l1In (p_n : Int) (p_lo : Int) (p_hi : Int) : Option (Bool) :=
  (bif (decide (p_lo ≤ p_n)) then
      some (decide (p_n ≤ p_hi))
    else
      some false).bind fun c1 =>
  some c1
noncomputable def C59 : FnSpec := { ps := [.val (.int .i64), .val (.int .i64), .val (.int .i64)], rs := [.val .bool], fn := fun x => s_l1In x.1 x.2.1 x.2.2 }
noncomputable def E59 : Env := { T := [], G := [], ro := [], loops := [], joins := [] }
theorem E59_eq : ∀ x, afun E59 Try.f59 C59.ps C59.rs x = C59.fn x := fun x => by kernel_rfl
theorem S59 : Sound Try.prog 59 C59 := fun_sound (E := E59) ⟨good_T (by kernel_rfl), good_nil, mixedOk, ins_nil⟩ Try.func59 rfl E59_eq
/-- spec.l1Rising -/
noncomputable def s_l1Rising (p_l : List Int) (p_lo : Int) (p_hi : Int) : Option (Bool) :=
  (loopE (fun (st2 : Int) => (
      bif (decide (st2 < (p_l.length : Int))) then
        (idx p_l st2).bind fun e3 =>
        (s_l1In e3 p_lo p_hi).bind fun r4 =>
        (bif (!r4) then
            some true
          else
            (bif (decide (0 < st2)) then
                (idx p_l (w64 (st2 - 1))).bind fun e5 =>
                some (decide (e3 ≤ e5))
              else
                some false).bind fun c6 =>
            some c6).bind fun c7 =>
        bif c7 then
          some (.inr (.inr false))
        else
          some (.inl (w64 (st2 + 1)))
      else
        some (.inr (.inl ())) : Option ((Int) ⊕ (Unit ⊕ Bool)))) 0).bind fun o8 =>
  match o8 with
  | .inl _ =>
    some true
  | .inr y10 =>
    some y10
noncomputable def C67 : FnSpec := { ps := [.val (.slice (.int .i64)), .val (.int .i64), .val (.int .i64)], rs := [.val .bool], fn := fun x => s_l1Rising x.1 x.2.1 x.2.2 }
noncomputable def E67 : Env := { T := [(3, (.int .i64)), (45, (.slice (.int .i64)))], G := [(59, C59)], ro := [], loops := [(2, { keep := [0, 1, 2, 9, 10], live := [.tv 11 (.int .i64)], outs := [(.exit 0, []), (.ret, [.tv 6 .bool])] })], joins := [] }
theorem E67_eq : ∀ x, afun E67 Try.f67 C67.ps C67.rs x = C67.fn x := fun x => by kernel_rfl
theorem S67 : Sound Try.prog 67 C67 := fun_sound (E := E67) ⟨good_T (by kernel_rfl), (good_cons S59 ⟨_, Try.func59, by kernel_rfl, by kernel_rfl⟩ good_nil), mixedOk, ins_nil⟩ Try.func67 rfl E67_eq
/-- spec.dkTicket -/
noncomputable def s_dkTicket (p_x : GTicket) : Option (Bool) :=
  (s_l1In p_x.1 1 999).bind fun r1 =>
  (bif r1 then
      (s_l1In p_x.2.1 1 9).bind fun r2 =>
      some r2
    else
      some false).bind fun c3 =>
  (bif c3 then
      (s_l1Rising p_x.2.2.1 0 (w64 (p_x.2.1 - 1))).bind fun r4 =>
      some r4
    else
      some false).bind fun c5 =>
  (bif c5 then
      (s_l1In p_x.2.2.2.1 0 2).bind fun r6 =>
      some r6
    else
      some false).bind fun c7 =>
  (bif c7 then
      some ((decide ((p_x.2.2.1.length : Int) = p_x.2.1)) == (decide (p_x.2.2.2.1 = 1)))
    else
      some false).bind fun c8 =>
  some c8
noncomputable def C53 : FnSpec := { ps := [.val TGTicket], rs := [.val .bool], fn := fun x => s_dkTicket x }
noncomputable def E53 : Env := { T := [(3, (.int .i64)), (4, .bool), (45, (.slice (.int .i64))), (49, TGTicket)], G := [(59, C59), (67, C67)], ro := [1], loops := [], joins := [] }
theorem E53_eq : ∀ x, afun E53 Try.f53 C53.ps C53.rs x = C53.fn x := fun x => by kernel_rfl
theorem S53 : Sound Try.prog 53 C53 := fun_sound (E := E53) ⟨good_T (by kernel_rfl), (good_cons S59 ⟨_, Try.func59, by kernel_rfl, by kernel_rfl⟩ (good_cons S67 ⟨_, Try.func67, by kernel_rfl, by kernel_rfl⟩ good_nil)), mixedOk, ins_nil⟩ Try.func53 rfl E53_eq
/-- spec.dkGood -/
noncomputable def s_dkGood (p_l : List GTicket) : Option (Bool) :=
  (loopE (fun (st2 : Int) => (
      bif (decide (st2 < (p_l.length : Int))) then
        (idx p_l st2).bind fun e3 =>
        (s_dkTicket e3).bind fun r4 =>
        (bif (!r4) then
            some true
          else
            (bif (decide (0 < st2)) then
                (idx p_l (w64 (st2 - 1))).bind fun e5 =>
                some (decide (e3.1 ≤ e5.1))
              else
                some false).bind fun c6 =>
            some c6).bind fun c7 =>
        bif c7 then
          some (.inr (.inr false))
        else
          some (.inl (w64 (st2 + 1)))
      else
        some (.inr (.inl ())) : Option ((Int) ⊕ (Unit ⊕ Bool)))) 0).bind fun o8 =>
  match o8 with
  | .inl _ =>
    some (decide ((p_l.length : Int) ≤ 20))
  | .inr y10 =>
    some y10
noncomputable def C35 : FnSpec := { ps := [.val (.slice TGTicket)], rs := [.val .bool], fn := fun x => s_dkGood x }
noncomputable def E35 : Env := { T := [(3, (.int .i64)), (24, (.slice TGTicket)), (49, TGTicket)], G := [(53, C53)], ro := [], loops := [(2, { keep := [0, 5, 6], live := [.tv 7 (.int .i64)], outs := [(.exit 0, []), (.ret, [.tv 2 .bool])] })], joins := [] }
theorem E35_eq : ∀ x, afun E35 Try.f35 C35.ps C35.rs x = C35.fn x := fun x => by kernel_rfl
theorem S35 : Sound Try.prog 35 C35 := fun_sound (E := E35) ⟨good_T (by kernel_rfl), (good_cons S53 ⟨_, Try.func53, by kernel_rfl, by kernel_rfl⟩ good_nil), mixedOk, ins_nil⟩ Try.func35 rfl E35_eq
/-- spec.l1Own -/
noncomputable def s_l1Own (p_l : List Int) : Option ((List Int)) :=
  bif decide (List.length p_l ≤ lim) then
    some p_l
  else
    none
noncomputable def C54 : FnSpec := { ps := [.val (.slice (.int .i64))], rs := [.own (.slice (.int .i64))], fn := fun x => s_l1Own x }
noncomputable def E54 : Env := { T := [(45, (.slice (.int .i64)))], G := [], ro := [], loops := [], joins := [] }
theorem E54_eq : ∀ x, afun E54 Try.f54 C54.ps C54.rs x = C54.fn x := fun x => by kernel_rfl
theorem S54 : Sound Try.prog 54 C54 := fun_sound (E := E54) ⟨good_T (by kernel_rfl), good_nil, mixedOk, ins_nil⟩ Try.func54 rfl E54_eq
/-- spec.dkOwn -/
noncomputable def s_dkOwn (p_l : List GTicket) : Option ((List GTicket)) :=
  (loopE (fun (st2 : (List GTicket) × Int) => (
      bif (decide (st2.2 < (p_l.length : Int))) then
        (idx p_l st2.2).bind fun e3 =>
        (s_l1Own e3.2.2.1).bind fun r4 =>
        bif decide (List.length st2.1 + List.length [(e3.1, e3.2.1, r4, e3.2.2.2)] ≤ lim) then
          some (.inl ((st2.1 ++ [(e3.1, e3.2.1, r4, e3.2.2.2)]), (w64 (st2.2 + 1))))
        else
          none
      else
        some (.inr st2.1) : Option (((List GTicket) × Int) ⊕ ((List GTicket))))) ([], 0)).bind fun o5 =>
  some o5
noncomputable def C36 : FnSpec := { ps := [.val (.slice TGTicket)], rs := [.own (.slice TGTicket)], fn := fun x => s_dkOwn x }
noncomputable def E36 : Env := { T := [(24, (.slice TGTicket)), (45, (.slice (.int .i64))), (49, TGTicket)], G := [(54, C54)], ro := [], loops := [(3, { keep := [6, 7], live := [.own 3 [] 200003 TGTicket true, .tv 8 (.int .i64)], outs := [(.exit 0, [.own 3 [] 200003 TGTicket true])] })], joins := [], mv := true }
theorem E36_eq : ∀ x, afun E36 Try.f36 C36.ps C36.rs x = C36.fn x := fun x => by kernel_rfl
theorem S36 : Sound Try.prog 36 C36 := fun_sound (E := E36) ⟨good_T (by kernel_rfl), (good_cons S54 ⟨_, Try.func54, by kernel_rfl, by kernel_rfl⟩ good_nil), mixedOk, ins_nil⟩ Try.func36 rfl E36_eq
/-- spec.dkAccept -/
noncomputable def s_dkAccept (p_l : List GTicket) (p_message : Int) (p_parts : Int) : Option ((List GTicket) × Bool) :=
  (loopE (fun (st2 : Int) => (
      (bif (decide (st2 < (p_l.length : Int))) then
          (idx p_l st2).bind fun e3 =>
          some (decide (e3.1 < p_message))
        else
          some false).bind fun c4 =>
      bif c4 then
        some (.inl (w64 (st2 + 1)))
      else
        some (.inr st2) : Option ((Int) ⊕ (Int)))) 0).bind fun o5 =>
  (sub p_l 0 o5).bind fun l6 =>
  (s_dkOwn l6).bind fun r7 =>
  (sub p_l o5 (p_l.length : Int)).bind fun l8 =>
  bif decide (List.length r7 + List.length ([(p_message, p_parts, [], 0, ())] : List GTicket) ≤ lim) then
    (s_dkOwn l8).bind fun r9 =>
    bif decide (List.length (r7 ++ ([(p_message, p_parts, [], 0, ())] : List GTicket)) + List.length r9 ≤ lim) then
      (s_dkGood ((r7 ++ ([(p_message, p_parts, [], 0, ())] : List GTicket)) ++ r9)).bind fun r10 =>
      bif (!r10) then
        some ([], false)
      else
        some (((r7 ++ ([(p_message, p_parts, [], 0, ())] : List GTicket)) ++ r9), true)
    else
      none
  else
    none
noncomputable def C57 : FnSpec := { ps := [.val (.slice TGTicket), .val (.int .i64), .val (.int .i64)], rs := [.own (.slice TGTicket), .val .bool], fn := fun x => s_dkAccept x.1 x.2.1 x.2.2 }
noncomputable def E57 : Env := { T := [(3, (.int .i64)), (24, (.slice TGTicket)), (49, TGTicket)], G := [(35, C35), (36, C36)], ro := [], loops := [(2, { keep := [0, 1, 2], live := [.tv 8 (.int .i64)], outs := [(.exit 0, [.tv 8 (.int .i64)])] })], joins := [], mv := true }
theorem E57_eq : ∀ x, afun E57 Try.f57 C57.ps C57.rs x = C57.fn x := fun x => by kernel_rfl
theorem S57 : Sound Try.prog 57 C57 := fun_sound (E := E57) ⟨good_T (by kernel_rfl), (good_cons S35 ⟨_, Try.func35, by kernel_rfl, by kernel_rfl⟩ (good_cons S36 ⟨_, Try.func36, by kernel_rfl, by kernel_rfl⟩ good_nil)), mixedOk, ins_nil⟩ Try.func57 rfl E57_eq
/-- spec.dkFind -/
noncomputable def s_dkFind (p_l : List GTicket) (p_message : Int) : Option (Int) :=
  (loopE (fun (st2 : Int) => (
      bif (decide (st2 < (p_l.length : Int))) then
        (idx p_l st2).bind fun e3 =>
        bif (decide (e3.1 = p_message)) then
          some (.inr (.inr st2))
        else
          some (.inl (w64 (st2 + 1)))
      else
        some (.inr (.inl ())) : Option ((Int) ⊕ (Unit ⊕ Int)))) 0).bind fun o4 =>
  match o4 with
  | .inl _ =>
    some (-1)
  | .inr y6 =>
    some y6
noncomputable def C68 : FnSpec := { ps := [.val (.slice TGTicket), .val (.int .i64)], rs := [.val (.int .i64)], fn := fun x => s_dkFind x.1 x.2 }
noncomputable def E68 : Env := { T := [(3, (.int .i64)), (24, (.slice TGTicket)), (49, TGTicket)], G := [], ro := [], loops := [(2, { keep := [1, 7, 8], live := [.tv 9 (.int .i64)], outs := [(.exit 0, []), (.ret, [.tv 4 (.int .i64)])] })], joins := [] }
theorem E68_eq : ∀ x, afun E68 Try.f68 C68.ps C68.rs x = C68.fn x := fun x => by kernel_rfl
theorem S68 : Sound Try.prog 68 C68 := fun_sound (E := E68) ⟨good_T (by kernel_rfl), good_nil, mixedOk, ins_nil⟩ Try.func68 rfl E68_eq
/-- spec.dkOpen -/
noncomputable def s_dkOpen (p_l : List GTicket) (p_message : Int) : Option (Int) :=
  (s_dkFind p_l p_message).bind fun r1 =>
  (bif (decide (0 ≤ r1)) then
      (idx p_l r1).bind fun e2 =>
      some (!decide (e2.2.2.2.1 = 0))
    else
      some false).bind fun c3 =>
  bif c3 then
    some (-1)
  else
    some r1
noncomputable def C58 : FnSpec := { ps := [.val (.slice TGTicket), .val (.int .i64)], rs := [.val (.int .i64)], fn := fun x => s_dkOpen x.1 x.2 }
noncomputable def E58 : Env := { T := [(3, (.int .i64)), (24, (.slice TGTicket)), (49, TGTicket)], G := [(68, C68)], ro := [], loops := [], joins := [] }
theorem E58_eq : ∀ x, afun E58 Try.f58 C58.ps C58.rs x = C58.fn x := fun x => by kernel_rfl
theorem S58 : Sound Try.prog 58 C58 := fun_sound (E := E58) ⟨good_T (by kernel_rfl), (good_cons S68 ⟨_, Try.func68, by kernel_rfl, by kernel_rfl⟩ good_nil), mixedOk, ins_nil⟩ Try.func58 rfl E58_eq
/-- spec.l1Put -/
noncomputable def s_l1Put (p_l : List Int) (p_n : Int) : Option ((List Int)) :=
  (loopE (fun (st2 : Int) => (
      (bif (decide (st2 < (p_l.length : Int))) then
          (idx p_l st2).bind fun e3 =>
          some (decide (e3 < p_n))
        else
          some false).bind fun c4 =>
      bif c4 then
        some (.inl (w64 (st2 + 1)))
      else
        some (.inr st2) : Option ((Int) ⊕ (Int)))) 0).bind fun o5 =>
  (bif (decide (o5 < (p_l.length : Int))) then
      (idx p_l o5).bind fun e6 =>
      some (decide (e6 = p_n))
    else
      some false).bind fun c7 =>
  bif c7 then
    some p_l
  else
    (sub p_l 0 o5).bind fun l8 =>
    bif decide (List.length l8 ≤ lim) then
      bif decide (List.length l8 + List.length [p_n] ≤ lim) then
        (sub p_l o5 (p_l.length : Int)).bind fun l9 =>
        bif decide (List.length (l8 ++ [p_n]) + List.length l9 ≤ lim) then
          some ((l8 ++ [p_n]) ++ l9)
        else
          none
      else
        none
    else
      none
noncomputable def C60 : FnSpec := { ps := [.val (.slice (.int .i64)), .val (.int .i64)], rs := [.val (.slice (.int .i64))], fn := fun x => s_l1Put x.1 x.2 }
noncomputable def E60 : Env := { T := [(3, (.int .i64)), (45, (.slice (.int .i64)))], G := [], ro := [], loops := [(2, { keep := [0, 1, 26, 27, 28, 29, 30, 31], live := [.tv 5 (.int .i64)], outs := [(.exit 0, [.tv 5 (.int .i64)])] })], joins := [] }
theorem E60_eq : ∀ x, afun E60 Try.f60 C60.ps C60.rs x = C60.fn x := fun x => by kernel_rfl
theorem S60 : Sound Try.prog 60 C60 := fun_sound (E := E60) ⟨good_T (by kernel_rfl), good_nil, mixedOk, ins_nil⟩ Try.func60 rfl E60_eq
/-- spec.dkStep -/
noncomputable def s_dkStep (p_l : List GTicket) (p_m : GDeskMove) : Option ((List GTicket) × Bool) :=
  bif (decide (p_m.1 = 1)) then
    (s_dkAccept p_l p_m.2.1 p_m.2.2.1).bind fun r1 =>
    some (r1.1, r1.2)
  else
    (s_dkOpen p_l p_m.2.1).bind fun r2 =>
    bif (decide (r2 < 0)) then
      some ([], false)
    else
      (s_dkOwn p_l).bind fun r3 =>
      bif decide (0 ≤ r2) && decide (r2 < (r3.length : Int)) then
        bif (decide (p_m.1 = 3)) then
          (r3[(Int.toNat r2)]?).bind fun e4 =>
          some ((r3.set (Int.toNat r2) (e4.1, e4.2.1, e4.2.2.1, 2, ())), true)
        else
          (bif (decide (p_m.1 = 2)) then
              (r3[(Int.toNat r2)]?).bind fun e5 =>
              (s_l1In p_m.2.2.1 0 (w64 (e5.2.1 - 1))).bind fun r6 =>
              some r6
            else
              some false).bind fun c7 =>
          bif c7 then
            (r3[(Int.toNat r2)]?).bind fun e8 =>
            (s_l1Put e8.2.2.1 p_m.2.2.1).bind fun r9 =>
            (r3[(Int.toNat r2)]?).bind fun e10 =>
            ((r3.set (Int.toNat r2) (e10.1, e10.2.1, r9, e10.2.2.2))[(Int.toNat r2)]?).bind fun e11 =>
            ((r3.set (Int.toNat r2) (e10.1, e10.2.1, r9, e10.2.2.2))[(Int.toNat r2)]?).bind fun e12 =>
            bif (decide ((e11.2.2.1.length : Int) = e12.2.1)) then
              ((r3.set (Int.toNat r2) (e10.1, e10.2.1, r9, e10.2.2.2))[(Int.toNat r2)]?).bind fun e13 =>
              some (((r3.set (Int.toNat r2) (e10.1, e10.2.1, r9, e10.2.2.2)).set (Int.toNat r2) (e13.1, e13.2.1, e13.2.2.1, 1, ())), true)
            else
              some ((r3.set (Int.toNat r2) (e10.1, e10.2.1, r9, e10.2.2.2)), true)
          else
            some ([], false)
      else
        none
noncomputable def C40 : FnSpec := { ps := [.val (.slice TGTicket), .val TGDeskMove], rs := [.val (.slice TGTicket), .val .bool], fn := fun x => s_dkStep x.1 x.2 }
noncomputable def E40 : Env := { T := [(3, (.int .i64)), (24, (.slice TGTicket)), (45, (.slice (.int .i64))), (49, TGTicket), (54, TGDeskMove)], G := [(36, C36), (57, C57), (58, C58), (59, C59), (60, C60)], ro := [3], loops := [], joins := [], sh := [30] }
theorem E40_eq : ∀ x, afun E40 Try.f40 C40.ps C40.rs x = C40.fn x := fun x => by kernel_rfl
theorem S40 : Sound Try.prog 40 C40 := fun_sound (E := E40) ⟨good_T (by kernel_rfl), (good_cons S36 ⟨_, Try.func36, by kernel_rfl, by kernel_rfl⟩ (good_cons S57 ⟨_, Try.func57, by kernel_rfl, by kernel_rfl⟩ (good_cons S58 ⟨_, Try.func58, by kernel_rfl, by kernel_rfl⟩ (good_cons S59 ⟨_, Try.func59, by kernel_rfl, by kernel_rfl⟩ (good_cons S60 ⟨_, Try.func60, by kernel_rfl, by kernel_rfl⟩ good_nil))))), mixedOk, ins_nil⟩ Try.func40 rfl E40_eq
/-- spec.dkAsked -/
noncomputable def s_dkAsked (p_l : List GTicket) (p_kind : Int) (p_message : Int) (p_number : Int) : Option ((List GTicket) × Bool) :=
  (s_dkGood p_l).bind fun r1 =>
  bif (!r1) then
    some ([], false)
  else
    (s_dkStep p_l (p_kind, p_message, p_number, ())).bind fun r2 =>
    some (r2.1, r2.2)
noncomputable def C28 : FnSpec := { ps := [.val (.slice TGTicket), .val (.int .i64), .val (.int .i64), .val (.int .i64)], rs := [.val (.slice TGTicket), .val .bool], fn := fun x => s_dkAsked x.1 x.2.1 x.2.2.1 x.2.2.2 }
noncomputable def E28 : Env := { T := [(54, TGDeskMove)], G := [(35, C35), (40, C40)], ro := [], loops := [], joins := [] }
theorem E28_eq : ∀ x, afun E28 Try.f28 C28.ps C28.rs x = C28.fn x := fun x => by kernel_rfl
theorem S28 : Sound Try.prog 28 C28 := fun_sound (E := E28) ⟨good_T (by kernel_rfl), (good_cons S35 ⟨_, Try.func35, by kernel_rfl, by kernel_rfl⟩ (good_cons S40 ⟨_, Try.func40, by kernel_rfl, by kernel_rfl⟩ good_nil)), mixedOk, ins_nil⟩ Try.func28 rfl E28_eq
/-- spec.GiveUp -/
noncomputable def s_GiveUp (p_l : List GTicket) (p_message : Int) : Option ((List GTicket) × Bool) :=
  (s_dkAsked p_l 3 p_message 0).bind fun r1 =>
  some (r1.1, r1.2)
noncomputable def C9 : FnSpec := { ps := [.val (.slice TGTicket), .val (.int .i64)], rs := [.val (.slice TGTicket), .val .bool], fn := fun x => s_GiveUp x.1 x.2 }
noncomputable def E9 : Env := { T := [], G := [(28, C28)], ro := [], loops := [], joins := [] }
theorem E9_eq : ∀ x, afun E9 Try.f9 C9.ps C9.rs x = C9.fn x := fun x => by kernel_rfl
theorem S9 : Sound Try.prog 9 C9 := fun_sound (E := E9) ⟨good_T (by kernel_rfl), (good_cons S28 ⟨_, Try.func28, by kernel_rfl, by kernel_rfl⟩ good_nil), mixedOk, ins_nil⟩ Try.func9 rfl E9_eq
/-- laws.toIntS -/
noncomputable def l_toIntS (p_a : List Int) : Option ((List Int)) :=
  bif decide (0 ≤ (p_a.length : Int)) && decide ((p_a.length : Int) ≤ (p_a.length : Int)) && decide ((p_a.length : Int) ≤ lim) then
    (loopE (fun (st2 : (List Int) × Int) => (
        bif (decide (st2.2 < (p_a.length : Int))) then
          (idx p_a st2.2).bind fun e3 =>
          bif decide (0 ≤ st2.2) && decide (st2.2 < (st2.1.length : Int)) then
            some (.inl ((st2.1.set (Int.toNat st2.2) e3), (w64 (st2.2 + 1))))
          else
            none
        else
          some (.inr st2.1) : Option (((List Int) × Int) ⊕ ((List Int))))) ((List.replicate (Int.toNat (p_a.length : Int)) (0 : Int)), 0)).bind fun o4 =>
    some o4
  else
    none
noncomputable def C44 : FnSpec := { ps := [.val (.slice (.int .i64))], rs := [.own (.slice (.int .i64))], fn := fun x => l_toIntS x }
noncomputable def E44 : Env := { T := [(3, (.int .i64)), (45, (.slice (.int .i64)))], G := [], ro := [], loops := [(3, { keep := [0], live := [.own 3 [] 112 (.int .i64) true, .tv 4 (.int .i64)], outs := [(.exit 0, [.own 3 [] 112 (.int .i64) true])] })], joins := [] }
theorem E44_eq : ∀ x, afun E44 Try.f44 C44.ps C44.rs x = C44.fn x := fun x => by kernel_rfl
theorem S44 : Sound Try.prog 44 C44 := fun_sound (E := E44) ⟨good_T (by kernel_rfl), good_nil, mixedOk, ins_nil⟩ Try.func44 rfl E44_eq
/-- laws.toTicket -/
noncomputable def l_toTicket (p_a : GTicket) : Option (GTicket) :=
  (l_toIntS p_a.2.2.1).bind fun r1 =>
  some (p_a.1, p_a.2.1, r1, p_a.2.2.2)
noncomputable def C29 : FnSpec := { ps := [.val TGTicket], rs := [.own TGTicket], fn := fun x => l_toTicket x }
noncomputable def E29 : Env := { T := [(3, (.int .i64)), (45, (.slice (.int .i64))), (47, TGTicket), (49, TGTicket)], G := [(44, C44)], ro := [1], loops := [], joins := [] }
theorem E29_eq : ∀ x, afun E29 Try.f29 C29.ps C29.rs x = C29.fn x := fun x => by kernel_rfl
theorem S29 : Sound Try.prog 29 C29 := fun_sound (E := E29) ⟨good_T (by kernel_rfl), (good_cons S44 ⟨_, Try.func44, by kernel_rfl, by kernel_rfl⟩ good_nil), mixedOk, ins_nil⟩ Try.func29 rfl E29_eq
/-- laws.toTicketS -/
noncomputable def l_toTicketS (p_a : List GTicket) : Option ((List GTicket)) :=
  bif decide (0 ≤ (p_a.length : Int)) && decide ((p_a.length : Int) ≤ (p_a.length : Int)) && decide ((p_a.length : Int) ≤ lim) then
    (loopE (fun (st2 : (List GTicket) × Int) => (
        bif (decide (st2.2 < (p_a.length : Int))) then
          (idx p_a st2.2).bind fun e3 =>
          (l_toTicket e3).bind fun r4 =>
          bif decide (0 ≤ st2.2) && decide (st2.2 < (st2.1.length : Int)) then
            some (.inl ((st2.1.set (Int.toNat st2.2) r4), (w64 (st2.2 + 1))))
          else
            none
        else
          some (.inr st2.1) : Option (((List GTicket) × Int) ⊕ ((List GTicket))))) ((List.replicate (Int.toNat (p_a.length : Int)) ((0, (0, ([], (0, ())))) : GTicket)), 0)).bind fun o5 =>
    some o5
  else
    none
noncomputable def C10 : FnSpec := { ps := [.val (.slice TGTicket)], rs := [.own (.slice TGTicket)], fn := fun x => l_toTicketS x }
noncomputable def E10 : Env := { T := [(22, (.slice TGTicket)), (24, (.slice TGTicket)), (47, TGTicket), (49, TGTicket)], G := [(29, C29)], ro := [], loops := [(3, { keep := [0], live := [.own 3 [] 112 TGTicket true, .tv 4 (.int .i64)], outs := [(.exit 0, [.own 3 [] 112 TGTicket true])] })], joins := [], mv := true }
theorem E10_eq : ∀ x, afun E10 Try.f10 C10.ps C10.rs x = C10.fn x := fun x => by kernel_rfl
theorem S10 : Sound Try.prog 10 C10 := fun_sound (E := E10) ⟨good_T (by kernel_rfl), (good_cons S29 ⟨_, Try.func29, by kernel_rfl, by kernel_rfl⟩ good_nil), mixedOk, ins_nil⟩ Try.func10 rfl E10_eq
/-- impl.within -/
noncomputable def i_within (p_n : Int) (p_low : Int) (p_high : Int) : Option (Bool) :=
  (bif (decide (p_low ≤ p_n)) then
      some (decide (p_n ≤ p_high))
    else
      some false).bind fun c1 =>
  some c1
noncomputable def C45 : FnSpec := { ps := [.val (.int .i64), .val (.int .i64), .val (.int .i64)], rs := [.val .bool], fn := fun x => i_within x.1 x.2.1 x.2.2 }
noncomputable def E45 : Env := { T := [], G := [], ro := [], loops := [], joins := [] }
theorem E45_eq : ∀ x, afun E45 Try.f45 C45.ps C45.rs x = C45.fn x := fun x => by kernel_rfl
theorem S45 : Sound Try.prog 45 C45 := fun_sound (E := E45) ⟨good_T (by kernel_rfl), good_nil, mixedOk, ins_nil⟩ Try.func45 rfl E45_eq
/-- impl.allWithin -/
noncomputable def i_allWithin (p_l : List Int) (p_low : Int) (p_high : Int) : Option (Bool) :=
  (loopE (fun (st2 : Int) => (
      bif (decide (st2 < (p_l.length : Int))) then
        (idx p_l st2).bind fun e3 =>
        (i_within e3 p_low p_high).bind fun r4 =>
        bif (!r4) then
          some (.inr (.inr false))
        else
          some (.inl (w64 (st2 + 1)))
      else
        some (.inr (.inl ())) : Option ((Int) ⊕ (Unit ⊕ Bool)))) 0).bind fun o5 =>
  match o5 with
  | .inl _ =>
    some true
  | .inr y7 =>
    some y7
noncomputable def C46 : FnSpec := { ps := [.val (.slice (.int .i64)), .val (.int .i64), .val (.int .i64)], rs := [.val .bool], fn := fun x => i_allWithin x.1 x.2.1 x.2.2 }
noncomputable def E46 : Env := { T := [(3, (.int .i64)), (45, (.slice (.int .i64)))], G := [(45, C45)], ro := [], loops := [(2, { keep := [1, 2, 9, 10], live := [.tv 11 (.int .i64)], outs := [(.exit 0, []), (.ret, [.tv 6 .bool])] })], joins := [] }
theorem E46_eq : ∀ x, afun E46 Try.f46 C46.ps C46.rs x = C46.fn x := fun x => by kernel_rfl
theorem S46 : Sound Try.prog 46 C46 := fun_sound (E := E46) ⟨good_T (by kernel_rfl), (good_cons S45 ⟨_, Try.func45, by kernel_rfl, by kernel_rfl⟩ good_nil), mixedOk, ins_nil⟩ Try.func46 rfl E46_eq
/-- impl.increasing -/
noncomputable def i_increasing (p_l : List Int) : Option (Bool) :=
  (loopE (fun (st2 : Int) => (
      bif (decide (st2 < (p_l.length : Int))) then
        (idx p_l (w64 (st2 - 1))).bind fun e3 =>
        (idx p_l st2).bind fun e4 =>
        bif (decide (e4 ≤ e3)) then
          some (.inr (.inr false))
        else
          some (.inl (w64 (st2 + 1)))
      else
        some (.inr (.inl ())) : Option ((Int) ⊕ (Unit ⊕ Bool)))) 1).bind fun o5 =>
  match o5 with
  | .inl _ =>
    some true
  | .inr y7 =>
    some y7
noncomputable def C47 : FnSpec := { ps := [.val (.slice (.int .i64))], rs := [.val .bool], fn := fun x => i_increasing x }
noncomputable def E47 : Env := { T := [(3, (.int .i64)), (45, (.slice (.int .i64)))], G := [], ro := [], loops := [(2, { keep := [0], live := [.tv 3 (.int .i64)], outs := [(.exit 0, []), (.ret, [.tv 2 .bool])] })], joins := [] }
theorem E47_eq : ∀ x, afun E47 Try.f47 C47.ps C47.rs x = C47.fn x := fun x => by kernel_rfl
theorem S47 : Sound Try.prog 47 C47 := fun_sound (E := E47) ⟨good_T (by kernel_rfl), good_nil, mixedOk, ins_nil⟩ Try.func47 rfl E47_eq
/-- impl.AreTickets -/
noncomputable def i_AreTickets (p_l : List GTicket) : Option (Bool) :=
  bif (decide (20 < (p_l.length : Int))) then
    some false
  else
    (loopE (fun (st2 : Int) => (
        bif (decide (st2 < (p_l.length : Int))) then
          (idx p_l st2).bind fun e3 =>
          (i_within e3.1 1 999).bind fun r4 =>
          (bif (!r4) then
              some true
            else
              (i_within e3.2.1 1 9).bind fun r5 =>
              some (!r5)).bind fun c6 =>
          (bif c6 then
              some true
            else
              (i_allWithin e3.2.2.1 0 (w64 (e3.2.1 - 1))).bind fun r7 =>
              some (!r7)).bind fun c8 =>
          (bif c8 then
              some true
            else
              (i_increasing e3.2.2.1).bind fun r9 =>
              some (!r9)).bind fun c10 =>
          (bif c10 then
              some true
            else
              (bif (decide (0 < st2)) then
                  (idx p_l (w64 (st2 - 1))).bind fun e11 =>
                  some (decide (e3.1 ≤ e11.1))
                else
                  some false).bind fun c12 =>
              some c12).bind fun c13 =>
          bif c13 then
            some (.inr (.inr false))
          else
            (bif ((decide ((e3.2.2.1.length : Int) = e3.2.1)) != (decide (e3.2.2.2.1 = 1))) then
                some true
              else
                (i_within e3.2.2.2.1 0 2).bind fun r14 =>
                some (!r14)).bind fun c15 =>
            bif c15 then
              some (.inr (.inr false))
            else
              some (.inl (w64 (st2 + 1)))
        else
          some (.inr (.inl ())) : Option ((Int) ⊕ (Unit ⊕ Bool)))) 0).bind fun o16 =>
    match o16 with
    | .inl _ =>
      some true
    | .inr y18 =>
      some y18
noncomputable def C30 : FnSpec := { ps := [.val (.slice TGTicket)], rs := [.val .bool], fn := fun x => i_AreTickets x }
noncomputable def E30 : Env := { T := [(3, (.int .i64)), (4, .bool), (24, (.slice TGTicket)), (45, (.slice (.int .i64))), (49, TGTicket)], G := [(45, C45), (46, C46), (47, C47)], ro := [], loops := [(4, { keep := [0, 9, 10], live := [.tv 11 (.int .i64)], outs := [(.exit 0, []), (.ret, [.tv 2 .bool])] })], joins := [] }
theorem E30_eq : ∀ x, afun E30 Try.f30 C30.ps C30.rs x = C30.fn x := fun x => by kernel_rfl
theorem S30 : Sound Try.prog 30 C30 := fun_sound (E := E30) ⟨good_T (by kernel_rfl), (good_cons S45 ⟨_, Try.func45, by kernel_rfl, by kernel_rfl⟩ (good_cons S46 ⟨_, Try.func46, by kernel_rfl, by kernel_rfl⟩ (good_cons S47 ⟨_, Try.func47, by kernel_rfl, by kernel_rfl⟩ good_nil))), mixedOk, ins_nil⟩ Try.func30 rfl E30_eq
/-- slices.Clone[[]int,int] -/
noncomputable def slices_Clone_int (p_s : List Int) : Option ((List Int)) :=
  bif List.isEmpty p_s then
    bothSame (
      bif true then
        some []
      else
        bif decide (List.length p_s ≤ lim) then
          some p_s
        else
          none)
    (
      bif false then
        some []
      else
        bif decide (List.length p_s ≤ lim) then
          some p_s
        else
          none)
  else
    bif false then
      some []
    else
      bif decide (List.length p_s ≤ lim) then
        some p_s
      else
        none
noncomputable def C56 : FnSpec := { ps := [.val (.slice (.int .i64))], rs := [.own (.slice (.int .i64))], fn := fun x => slices_Clone_int x }
noncomputable def E56 : Env := { T := [(45, (.slice (.int .i64)))], G := [], ro := [], loops := [], joins := [] }
theorem E56_eq : ∀ x, afun E56 Try.f56 C56.ps C56.rs x = C56.fn x := fun x => by kernel_rfl
theorem S56 : Sound Try.prog 56 C56 := fun_sound (E := E56) ⟨good_T (by kernel_rfl), good_nil, mixedOk, ins_nil⟩ Try.func56 rfl E56_eq
/-- impl.cloneTickets -/
noncomputable def i_cloneTickets (p_l : List GTicket) : Option ((List GTicket)) :=
  bif decide (0 ≤ (p_l.length : Int)) && decide ((p_l.length : Int) ≤ (p_l.length : Int)) && decide ((p_l.length : Int) ≤ lim) then
    (loopE (fun (st2 : (List GTicket) × Int) => (
        bif (decide (st2.2 < (p_l.length : Int))) then
          (idx p_l st2.2).bind fun e3 =>
          (slices_Clone_int e3.2.2.1).bind fun r4 =>
          bif decide (0 ≤ st2.2) && decide (st2.2 < (st2.1.length : Int)) then
            some (.inl ((st2.1.set (Int.toNat st2.2) (e3.1, e3.2.1, r4, e3.2.2.2)), (w64 (st2.2 + 1))))
          else
            none
        else
          some (.inr st2.1) : Option (((List GTicket) × Int) ⊕ ((List GTicket))))) ((List.replicate (Int.toNat (p_l.length : Int)) ((0, (0, ([], (0, ())))) : GTicket)), 0)).bind fun o5 =>
    some o5
  else
    none
noncomputable def C38 : FnSpec := { ps := [.val (.slice TGTicket)], rs := [.own (.slice TGTicket)], fn := fun x => i_cloneTickets x }
noncomputable def E38 : Env := { T := [(24, (.slice TGTicket)), (45, (.slice (.int .i64))), (49, TGTicket)], G := [(56, C56)], ro := [], loops := [(3, { keep := [9, 10], live := [.own 3 [] 128 TGTicket true, .tv 11 (.int .i64)], outs := [(.exit 0, [.own 3 [] 128 TGTicket true])] })], joins := [], mv := true }
theorem E38_eq : ∀ x, afun E38 Try.f38 C38.ps C38.rs x = C38.fn x := fun x => by kernel_rfl
theorem S38 : Sound Try.prog 38 C38 := fun_sound (E := E38) ⟨good_T (by kernel_rfl), (good_cons S56 ⟨_, Try.func56, by kernel_rfl, by kernel_rfl⟩ good_nil), mixedOk, ins_nil⟩ Try.func38 rfl E38_eq
/-- impl.ticketIndex$1 -/
noncomputable def i_ticketIndex_1 (p_x : GTicket) (p_a1 : Int) : Option (Bool) :=
  some (decide (p_x.1 = p_a1))
noncomputable def C61 : FnSpec := { ps := [.val TGTicket, .rp (.int .i64)], rs := [.val .bool], fn := fun x => i_ticketIndex_1 x.1 x.2 }
noncomputable def E61 : Env := { T := [(3, (.int .i64)), (49, TGTicket)], G := [], ro := [2], loops := [], joins := [] }
theorem E61_eq : ∀ x, afun E61 Try.f61 C61.ps C61.rs x = C61.fn x := fun x => by kernel_rfl
theorem S61 : Sound Try.prog 61 C61 := fun_sound (E := E61) ⟨good_T (by kernel_rfl), good_nil, mixedOk, ins_nil⟩ Try.func61 rfl E61_eq
/-- slices.IndexFunc[[]impl.Ticket,impl.Ticket] -/
noncomputable def slices_IndexFunc_Ticket_61 (p_s : List GTicket) (p_f : Int × Unit) : Option (Int) :=
  (loopE (fun (st2 : Int) => (
      bif (decide (st2 < (p_s.length : Int))) then
        (idx p_s st2).bind fun e3 =>
        (i_ticketIndex_1 e3 p_f.1).bind fun r4 =>
        bif r4 then
          some (.inr (.inr st2))
        else
          some (.inl (w64 (st2 + 1)))
      else
        some (.inr (.inl ())) : Option ((Int) ⊕ (Unit ⊕ Int)))) 0).bind fun o5 =>
  match o5 with
  | .inl _ =>
    some (-1)
  | .inr y7 =>
    some y7
noncomputable def C55_61 : FnSpec := { ps := [.val (.slice TGTicket), .fn 61 [(.int .i64)]], rs := [.val (.int .i64)], fn := fun x => slices_IndexFunc_Ticket_61 x.1 x.2 }
noncomputable def E55_61 : Env := { T := [(24, (.slice TGTicket)), (49, TGTicket)], G := [(61, C61)], ro := [], loops := [(2, { keep := [0, 1, 7], live := [.tv 8 (.int .i64)], outs := [(.exit 0, []), (.ret, [.tv 4 (.int .i64)])] })], joins := [] }
theorem E55_61_eq : ∀ x, afun E55_61 Try.f55 C55_61.ps C55_61.rs x = C55_61.fn x := fun x => by kernel_rfl
theorem S55_61 : Sound Try.prog 55 C55_61 := fun_sound (E := E55_61) ⟨good_T (by kernel_rfl), (good_cons S61 ⟨_, Try.func61, by kernel_rfl, by kernel_rfl⟩ good_nil), mixedOk, ins_nil⟩ Try.func55 rfl E55_61_eq
/-- impl.ticketIndex -/
noncomputable def i_ticketIndex (p_l : List GTicket) (p_message : Int) : Option (Int) :=
  (slices_IndexFunc_Ticket_61 p_l (p_message, ())).bind fun r1 =>
  some r1
noncomputable def C48 : FnSpec := { ps := [.val (.slice TGTicket), .val (.int .i64)], rs := [.val (.int .i64)], fn := fun x => i_ticketIndex x.1 x.2 }
noncomputable def E48 : Env := { T := [(3, (.int .i64))], G := [(55, C55_61)], ro := [3], loops := [], joins := [] }
theorem E48_eq : ∀ x, afun E48 Try.f48 C48.ps C48.rs x = C48.fn x := fun x => by kernel_rfl
theorem S48 : Sound Try.prog 48 C48 := fun_sound (E := E48) ⟨good_T (by kernel_rfl), (good_cons S55_61 ⟨_, Try.func55, by kernel_rfl, by kernel_rfl⟩ good_nil), mixedOk, ins_nil⟩ Try.func48 rfl E48_eq
/-- slices.Index[[]int,int] -/
noncomputable def slices_Index_int (p_s : List Int) (p_v : Int) : Option (Int) :=
  (loopE (fun (st2 : Int) => (
      bif (decide (st2 < (p_s.length : Int))) then
        (idx p_s st2).bind fun e3 =>
        bif (decide (p_v = e3)) then
          some (.inr (.inr st2))
        else
          some (.inl (w64 (st2 + 1)))
      else
        some (.inr (.inl ())) : Option ((Int) ⊕ (Unit ⊕ Int)))) 0).bind fun o4 =>
  match o4 with
  | .inl _ =>
    some (-1)
  | .inr y6 =>
    some y6
noncomputable def C64 : FnSpec := { ps := [.val (.slice (.int .i64)), .val (.int .i64)], rs := [.val (.int .i64)], fn := fun x => slices_Index_int x.1 x.2 }
noncomputable def E64 : Env := { T := [(3, (.int .i64)), (45, (.slice (.int .i64)))], G := [], ro := [], loops := [(2, { keep := [0, 1, 7], live := [.tv 8 (.int .i64)], outs := [(.exit 0, []), (.ret, [.tv 4 (.int .i64)])] })], joins := [] }
theorem E64_eq : ∀ x, afun E64 Try.f64 C64.ps C64.rs x = C64.fn x := fun x => by kernel_rfl
theorem S64 : Sound Try.prog 64 C64 := fun_sound (E := E64) ⟨good_T (by kernel_rfl), good_nil, mixedOk, ins_nil⟩ Try.func64 rfl E64_eq
/-- slices.Contains[[]int,int] -/
noncomputable def slices_Contains_int (p_s : List Int) (p_v : Int) : Option (Bool) :=
  (slices_Index_int p_s p_v).bind fun r1 =>
  some (decide (0 ≤ r1))
noncomputable def C50 : FnSpec := { ps := [.val (.slice (.int .i64)), .val (.int .i64)], rs := [.val .bool], fn := fun x => slices_Contains_int x.1 x.2 }
noncomputable def E50 : Env := { T := [], G := [(64, C64)], ro := [], loops := [], joins := [] }
theorem E50_eq : ∀ x, afun E50 Try.f50 C50.ps C50.rs x = C50.fn x := fun x => by kernel_rfl
theorem S50 : Sound Try.prog 50 C50 := fun_sound (E := E50) ⟨good_T (by kernel_rfl), (good_cons S64 ⟨_, Try.func64, by kernel_rfl, by kernel_rfl⟩ good_nil), mixedOk, ins_nil⟩ Try.func50 rfl E50_eq
/-- slices.pdqsortOrdered[int] -/
noncomputable def slices_pdqsortOrdered_int_again (_ : List Int) (_ : Int) (_ : Int) (_ : Int) : Option ((List Int)) :=
  none
noncomputable def CR65 : FnSpec := { ps := [.own (.slice (.int .i64)), .val (.int .i64), .val (.int .i64), .val (.int .i64)], rs := [], fn := fun x => slices_pdqsortOrdered_int_again x.1 x.2.1 x.2.2.1 x.2.2.2 }
theorem SR65 : Sound Try.prog 65 CR65 := fun _ _ _ _ _ _ _ _ _ h => nomatch h
/-- cmp.isNaN[int] -/
noncomputable def cmp_isNaN_int (p_x : Int) : Option (Bool) :=
  some (!decide (p_x = p_x))
noncomputable def C87 : FnSpec := { ps := [.val (.int .i64)], rs := [.val .bool], fn := fun x => cmp_isNaN_int x }
noncomputable def E87 : Env := { T := [], G := [], ro := [], loops := [], joins := [] }
theorem E87_eq : ∀ x, afun E87 Try.f87 C87.ps C87.rs x = C87.fn x := fun x => by kernel_rfl
theorem S87 : Sound Try.prog 87 C87 := fun_sound (E := E87) ⟨good_T (by kernel_rfl), good_nil, mixedOk, ins_nil⟩ Try.func87 rfl E87_eq
/-- cmp.Less[int] -/
noncomputable def cmp_Less_int (p_x : Int) (p_y : Int) : Option (Bool) :=
  (cmp_isNaN_int p_x).bind fun r1 =>
  (bif r1 then
      (cmp_isNaN_int p_y).bind fun r2 =>
      some (!r2)
    else
      some false).bind fun c3 =>
  (bif c3 then
      some true
    else
      some (decide (p_x < p_y))).bind fun c4 =>
  some c4
noncomputable def C76 : FnSpec := { ps := [.val (.int .i64), .val (.int .i64)], rs := [.val .bool], fn := fun x => cmp_Less_int x.1 x.2 }
noncomputable def E76 : Env := { T := [], G := [(87, C87)], ro := [], loops := [], joins := [] }
theorem E76_eq : ∀ x, afun E76 Try.f76 C76.ps C76.rs x = C76.fn x := fun x => by kernel_rfl
theorem S76 : Sound Try.prog 76 C76 := fun_sound (E := E76) ⟨good_T (by kernel_rfl), (good_cons S87 ⟨_, Try.func87, by kernel_rfl, by kernel_rfl⟩ good_nil), mixedOk, ins_nil⟩ Try.func76 rfl E76_eq
/-- slices.insertionSortOrdered[int] -/
noncomputable def slices_insertionSortOrdered_int (p_data : List Int) (p_a : Int) (p_b : Int) : Option ((List Int)) :=
  (loopE (fun (st2 : (List Int) × Int) => (
      bif (decide (st2.2 < p_b)) then
        (loopE (fun (st4 : (List Int) × Int) => (
            (bif (decide (p_a < st4.2)) then
                bif decide (0 ≤ st4.2) && decide (st4.2 < (st4.1.length : Int)) then
                  (st4.1[(Int.toNat st4.2)]?).bind fun e5 =>
                  bif decide (0 ≤ (w64 (st4.2 - 1))) && decide ((w64 (st4.2 - 1)) < (st4.1.length : Int)) then
                    (st4.1[(Int.toNat (w64 (st4.2 - 1)))]?).bind fun e6 =>
                    (cmp_Less_int e5 e6).bind fun r7 =>
                    some r7
                  else
                    none
                else
                  none
              else
                some false).bind fun c8 =>
            bif c8 then
              bif decide (0 ≤ (w64 (st4.2 - 1))) && decide ((w64 (st4.2 - 1)) < (st4.1.length : Int)) then
                (st4.1[(Int.toNat (w64 (st4.2 - 1)))]?).bind fun e9 =>
                bif decide (0 ≤ st4.2) && decide (st4.2 < (st4.1.length : Int)) then
                  (st4.1[(Int.toNat st4.2)]?).bind fun e10 =>
                  bif decide (0 ≤ st4.2) && decide (st4.2 < (st4.1.length : Int)) then
                    bif decide (0 ≤ (w64 (st4.2 - 1))) && decide ((w64 (st4.2 - 1)) < ((st4.1.set (Int.toNat st4.2) e9).length : Int)) then
                      some (.inl (((st4.1.set (Int.toNat st4.2) e9).set (Int.toNat (w64 (st4.2 - 1))) e10), (w64 (st4.2 - 1))))
                    else
                      none
                  else
                    none
                else
                  none
              else
                none
            else
              some (.inr st4.1) : Option (((List Int) × Int) ⊕ ((List Int))))) (st2.1, st2.2)).bind fun o11 =>
        some (.inl (o11, (w64 (st2.2 + 1))))
      else
        some (.inr st2.1) : Option (((List Int) × Int) ⊕ ((List Int))))) (p_data, (w64 (p_a + 1)))).bind fun o12 =>
  some o12
noncomputable def C70 : FnSpec := { ps := [.own (.slice (.int .i64)), .val (.int .i64), .val (.int .i64)], rs := [], fn := fun x => slices_insertionSortOrdered_int x.1 x.2.1 x.2.2 }
noncomputable def E70 : Env := { T := [(3, (.int .i64)), (45, (.slice (.int .i64)))], G := [(76, C76)], ro := [], loops := [(1, { keep := [1, 2], live := [.own 0 [] 100000 (.int .i64) true, .tv 6 (.int .i64)], outs := [(.exit 0, [.own 0 [] 100000 (.int .i64) true])] }), (4, { keep := [1, 2, 6], live := [.own 0 [] 100000 (.int .i64) true, .tv 7 (.int .i64)], outs := [(.exit 2, [.own 0 [] 100000 (.int .i64) true])] })], joins := [], hoist := [(6, [2, 3, 4])] }
theorem E70_eq : ∀ x, afun E70 Try.f70 C70.ps C70.rs x = C70.fn x := fun x => by kernel_rfl
theorem S70 : Sound Try.prog 70 C70 := fun_sound_own (E := E70) ⟨good_T (by kernel_rfl), (good_cons S76 ⟨_, Try.func76, by kernel_rfl, by kernel_rfl⟩ good_nil), mixedOk, ins_nil⟩ Try.func70 rfl rfl E70_eq
/-- slices.heapSortOrdered[int] -/
noncomputable def slices_heapSortOrdered_int (_ : List Int) (_ : Int) (_ : Int) : Option (Unit) :=
  none
noncomputable def C71 : FnSpec := { ps := [.val (.slice (.int .i64)), .val (.int .i64), .val (.int .i64)], rs := [], fn := fun x => slices_heapSortOrdered_int x.1 x.2.1 x.2.2 }
theorem S71 : Sound Try.prog 71 C71 := fun _ _ _ _ _ _ _ _ _ h => nomatch h
/-- slices.breakPatternsOrdered[int] -/
noncomputable def slices_breakPatternsOrdered_int (_ : List Int) (_ : Int) (_ : Int) : Option (Unit) :=
  none
noncomputable def C72 : FnSpec := { ps := [.val (.slice (.int .i64)), .val (.int .i64), .val (.int .i64)], rs := [], fn := fun x => slices_breakPatternsOrdered_int x.1 x.2.1 x.2.2 }
theorem S72 : Sound Try.prog 72 C72 := fun _ _ _ _ _ _ _ _ _ h => nomatch h
/-- slices.choosePivotOrdered[int] -/
noncomputable def slices_choosePivotOrdered_int (_ : List Int) (_ : Int) (_ : Int) : Option (Int × Int) :=
  none
noncomputable def C73 : FnSpec := { ps := [.val (.slice (.int .i64)), .val (.int .i64), .val (.int .i64)], rs := [.val (.int .i64), .val (.int .i64)], fn := fun x => slices_choosePivotOrdered_int x.1 x.2.1 x.2.2 }
theorem S73 : Sound Try.prog 73 C73 := fun _ _ _ _ _ _ _ _ _ h => nomatch h
/-- slices.reverseRangeOrdered[int] -/
noncomputable def slices_reverseRangeOrdered_int (_ : List Int) (_ : Int) (_ : Int) : Option (Unit) :=
  none
noncomputable def C74 : FnSpec := { ps := [.val (.slice (.int .i64)), .val (.int .i64), .val (.int .i64)], rs := [], fn := fun x => slices_reverseRangeOrdered_int x.1 x.2.1 x.2.2 }
theorem S74 : Sound Try.prog 74 C74 := fun _ _ _ _ _ _ _ _ _ h => nomatch h
/-- slices.partialInsertionSortOrdered[int] -/
noncomputable def slices_partialInsertionSortOrdered_int (_ : List Int) (_ : Int) (_ : Int) : Option (Bool) :=
  none
noncomputable def C75 : FnSpec := { ps := [.val (.slice (.int .i64)), .val (.int .i64), .val (.int .i64)], rs := [.val .bool], fn := fun x => slices_partialInsertionSortOrdered_int x.1 x.2.1 x.2.2 }
theorem S75 : Sound Try.prog 75 C75 := fun _ _ _ _ _ _ _ _ _ h => nomatch h
/-- slices.partitionEqualOrdered[int] -/
noncomputable def slices_partitionEqualOrdered_int (_ : List Int) (_ : Int) (_ : Int) (_ : Int) : Option (Int) :=
  none
noncomputable def C77 : FnSpec := { ps := [.val (.slice (.int .i64)), .val (.int .i64), .val (.int .i64), .val (.int .i64)], rs := [.val (.int .i64)], fn := fun x => slices_partitionEqualOrdered_int x.1 x.2.1 x.2.2.1 x.2.2.2 }
theorem S77 : Sound Try.prog 77 C77 := fun _ _ _ _ _ _ _ _ _ h => nomatch h
/-- slices.partitionOrdered[int] -/
noncomputable def slices_partitionOrdered_int (_ : List Int) (_ : Int) (_ : Int) (_ : Int) : Option (Int × Bool) :=
  none
noncomputable def C78 : FnSpec := { ps := [.val (.slice (.int .i64)), .val (.int .i64), .val (.int .i64), .val (.int .i64)], rs := [.val (.int .i64), .val .bool], fn := fun x => slices_partitionOrdered_int x.1 x.2.1 x.2.2.1 x.2.2.2 }
theorem S78 : Sound Try.prog 78 C78 := fun _ _ _ _ _ _ _ _ _ h => nomatch h
/-- slices.pdqsortOrdered[int] -/
noncomputable def slices_pdqsortOrdered_int (p_data : List Int) (p_a : Int) (p_b : Int) (p_limit : Int) : Option ((List Int)) :=
  (loopE (fun (st2 : (List Int) × Int × Int × Int × Bool × Bool) => (
      bif (decide ((w64 (st2.2.2.1 - st2.2.1)) ≤ 12)) then
        (slices_insertionSortOrdered_int st2.1 st2.2.1 st2.2.2.1).bind fun r3 =>
        some (.inr r3)
      else
        bif (decide (st2.2.2.2.1 = 0)) then
          (slices_heapSortOrdered_int st2.1 st2.2.1 st2.2.2.1).bind fun _ =>
          some (.inr st2.1)
        else
          (bif (!st2.2.2.2.2.1) then
              (slices_breakPatternsOrdered_int st2.1 st2.2.1 st2.2.2.1).bind fun _ =>
              some (st2.1, (w64 (st2.2.2.2.1 - 1)))
            else
              some (st2.1, st2.2.2.2.1)).bind fun j6 =>
          (slices_choosePivotOrdered_int j6.1 st2.2.1 st2.2.2.1).bind fun r7 =>
          (bif (decide (r7.2 = 2)) then
              (slices_reverseRangeOrdered_int j6.1 st2.2.1 st2.2.2.1).bind fun _ =>
              some (j6.1, (w64 ((w64 (st2.2.2.1 - 1)) - (w64 (r7.1 - st2.2.1)))), 1)
            else
              some (j6.1, r7.1, r7.2)).bind fun j9 =>
          (((bif st2.2.2.2.2.1 then
                  some st2.2.2.2.2.2
                else
                  some false).bind fun c10 =>
              (bif c10 then
                  some (decide (j9.2.2 = 1))
                else
                  some false).bind fun c11 =>
              bif c11 then
                (slices_partialInsertionSortOrdered_int j9.1 st2.2.1 st2.2.2.1).bind fun r12 =>
                bif r12 then
                  some (.inr j9.1)
                else
                  some (.inl j9.1)
              else
                some (.inl j9.1) : Option ((List Int) ⊕ (List Int)))).bind fun j13 =>
          match j13 with
          | .inl x14 =>
            (bif (decide (0 < st2.2.1)) then
                bif decide (0 ≤ (w64 (st2.2.1 - 1))) && decide ((w64 (st2.2.1 - 1)) < (x14.length : Int)) then
                  (x14[(Int.toNat (w64 (st2.2.1 - 1)))]?).bind fun e16 =>
                  bif decide (0 ≤ j9.2.1) && decide (j9.2.1 < (x14.length : Int)) then
                    (x14[(Int.toNat j9.2.1)]?).bind fun e17 =>
                    (cmp_Less_int e16 e17).bind fun r18 =>
                    some (!r18)
                  else
                    none
                else
                  none
              else
                some false).bind fun c19 =>
            bif c19 then
              (slices_partitionEqualOrdered_int x14 st2.2.1 st2.2.2.1 j9.2.1).bind fun r20 =>
              some (.inl (x14, r20, st2.2.2.1, j6.2, st2.2.2.2.2.1, st2.2.2.2.2.2))
            else
              (slices_partitionOrdered_int x14 st2.2.1 st2.2.2.1 j9.2.1).bind fun r21 =>
              bif (decide ((w64 (r21.1 - st2.2.1)) < (w64 (st2.2.2.1 - r21.1)))) then
                (slices_pdqsortOrdered_int_again x14 st2.2.1 r21.1 j6.2).bind fun r22 =>
                some (.inl (r22, (w64 (r21.1 + 1)), st2.2.2.1, j6.2, (decide ((w64 (Int.tdiv (w64 (st2.2.2.1 - st2.2.1)) 8)) ≤ (w64 (r21.1 - st2.2.1)))), r21.2))
              else
                (slices_pdqsortOrdered_int_again x14 (w64 (r21.1 + 1)) st2.2.2.1 j6.2).bind fun r23 =>
                some (.inl (r23, st2.2.1, r21.1, j6.2, (decide ((w64 (Int.tdiv (w64 (st2.2.2.1 - st2.2.1)) 8)) ≤ (w64 (st2.2.2.1 - r21.1)))), r21.2))
          | .inr y15 =>
            some (.inr y15) : Option (((List Int) × Int × Int × Int × Bool × Bool) ⊕ ((List Int))))) (p_data, p_a, p_b, p_limit, true, true)).bind fun o24 =>
  some o24
noncomputable def C65 : FnSpec := { ps := [.own (.slice (.int .i64)), .val (.int .i64), .val (.int .i64), .val (.int .i64)], rs := [], fn := fun x => slices_pdqsortOrdered_int x.1 x.2.1 x.2.2.1 x.2.2.2 }
noncomputable def E65 : Env := { T := [(3, (.int .i64)), (45, (.slice (.int .i64)))], G := [(65, CR65), (70, C70), (71, C71), (72, C72), (73, C73), (74, C74), (75, C75), (76, C76), (77, C77), (78, C78)], ro := [], loops := [(2, { keep := [], live := [.own 0 [] 100000 (.int .i64) true, .tv 1 (.int .i64), .tv 2 (.int .i64), .tv 3 (.int .i64), .tv 8 .bool, .tv 9 .bool], outs := [(.ret, [.own 0 [] 100000 (.int .i64) true])] })], joins := [(10, { keep := [1, 2, 8, 9, 10], live := [], outs := [(.normal, [.own 0 [] 100000 (.int .i64) true, .tv 3 (.int .i64)])] }), (15, { keep := [1, 2, 3, 8, 9, 10], live := [], outs := [(.normal, [.own 0 [] 100000 (.int .i64) true, .tv 11 (.int .i64), .tv 12 (.int .i64)])] }), (17, { keep := [1, 2, 3, 8, 9, 10, 11], live := [], outs := [(.normal, [.own 0 [] 100000 (.int .i64) true]), (.ret, [.own 0 [] 100000 (.int .i64) true])] })] }
theorem E65_eq : ∀ x, afun E65 Try.f65 C65.ps C65.rs x = C65.fn x := fun x => by kernel_rfl
theorem S65 : Sound Try.prog 65 C65 := fun_sound_own (E := E65) ⟨good_T (by kernel_rfl), (good_cons SR65 ⟨_, Try.func65, by kernel_rfl, by kernel_rfl⟩ (good_cons S70 ⟨_, Try.func70, by kernel_rfl, by kernel_rfl⟩ (good_cons S71 ⟨_, Try.func71, by kernel_rfl, by kernel_rfl⟩ (good_cons S72 ⟨_, Try.func72, by kernel_rfl, by kernel_rfl⟩ (good_cons S73 ⟨_, Try.func73, by kernel_rfl, by kernel_rfl⟩ (good_cons S74 ⟨_, Try.func74, by kernel_rfl, by kernel_rfl⟩ (good_cons S75 ⟨_, Try.func75, by kernel_rfl, by kernel_rfl⟩ (good_cons S76 ⟨_, Try.func76, by kernel_rfl, by kernel_rfl⟩ (good_cons S77 ⟨_, Try.func77, by kernel_rfl, by kernel_rfl⟩ (good_cons S78 ⟨_, Try.func78, by kernel_rfl, by kernel_rfl⟩ good_nil)))))))))), mixedOk, ins_nil⟩ Try.func65 rfl rfl E65_eq
/-- math/bits.Len32 -/
noncomputable def math_bits_Len32 (p_x : Int) : Option (Int) :=
  bif (decide (65536 ≤ p_x)) then
    bif (decide (256 ≤ (shiftI .shr .u32 p_x 16))) then
      (idx ([0, 1, 2, 2, 3, 3, 3, 3, 4, 4, 4, 4, 4, 4, 4, 4, 5, 5, 5, 5, 5, 5, 5, 5, 5, 5, 5, 5, 5, 5, 5, 5, 6, 6, 6, 6, 6, 6, 6, 6, 6, 6, 6, 6, 6, 6, 6, 6, 6, 6, 6, 6, 6, 6, 6, 6, 6, 6, 6, 6, 6, 6, 6, 6, 7, 7, 7, 7, 7, 7, 7, 7, 7, 7, 7, 7, 7, 7, 7, 7, 7, 7, 7, 7, 7, 7, 7, 7, 7, 7, 7, 7, 7, 7, 7, 7, 7, 7, 7, 7, 7, 7, 7, 7, 7, 7, 7, 7, 7, 7, 7, 7, 7, 7, 7, 7, 7, 7, 7, 7, 7, 7, 7, 7, 7, 7, 7, 7, 8, 8, 8, 8, 8, 8, 8, 8, 8, 8, 8, 8, 8, 8, 8, 8, 8, 8, 8, 8, 8, 8, 8, 8, 8, 8, 8, 8, 8, 8, 8, 8, 8, 8, 8, 8, 8, 8, 8, 8, 8, 8, 8, 8, 8, 8, 8, 8, 8, 8, 8, 8, 8, 8, 8, 8, 8, 8, 8, 8, 8, 8, 8, 8, 8, 8, 8, 8, 8, 8, 8, 8, 8, 8, 8, 8, 8, 8, 8, 8, 8, 8, 8, 8, 8, 8, 8, 8, 8, 8, 8, 8, 8, 8, 8, 8, 8, 8, 8, 8, 8, 8, 8, 8, 8, 8, 8, 8, 8, 8, 8, 8, 8, 8, 8, 8, 8, 8, 8, 8, 8, 8, 8, 8, 8, 8, 8, 8] : Bytes) (IntKind.u8.wrap (shiftI .shr .u32 (shiftI .shr .u32 p_x 16) 8))).bind fun b1 =>
      some (w64 ((w64 (16 + 8)) + (w64 (b1.toNat : Int))))
    else
      (idx ([0, 1, 2, 2, 3, 3, 3, 3, 4, 4, 4, 4, 4, 4, 4, 4, 5, 5, 5, 5, 5, 5, 5, 5, 5, 5, 5, 5, 5, 5, 5, 5, 6, 6, 6, 6, 6, 6, 6, 6, 6, 6, 6, 6, 6, 6, 6, 6, 6, 6, 6, 6, 6, 6, 6, 6, 6, 6, 6, 6, 6, 6, 6, 6, 7, 7, 7, 7, 7, 7, 7, 7, 7, 7, 7, 7, 7, 7, 7, 7, 7, 7, 7, 7, 7, 7, 7, 7, 7, 7, 7, 7, 7, 7, 7, 7, 7, 7, 7, 7, 7, 7, 7, 7, 7, 7, 7, 7, 7, 7, 7, 7, 7, 7, 7, 7, 7, 7, 7, 7, 7, 7, 7, 7, 7, 7, 7, 7, 8, 8, 8, 8, 8, 8, 8, 8, 8, 8, 8, 8, 8, 8, 8, 8, 8, 8, 8, 8, 8, 8, 8, 8, 8, 8, 8, 8, 8, 8, 8, 8, 8, 8, 8, 8, 8, 8, 8, 8, 8, 8, 8, 8, 8, 8, 8, 8, 8, 8, 8, 8, 8, 8, 8, 8, 8, 8, 8, 8, 8, 8, 8, 8, 8, 8, 8, 8, 8, 8, 8, 8, 8, 8, 8, 8, 8, 8, 8, 8, 8, 8, 8, 8, 8, 8, 8, 8, 8, 8, 8, 8, 8, 8, 8, 8, 8, 8, 8, 8, 8, 8, 8, 8, 8, 8, 8, 8, 8, 8, 8, 8, 8, 8, 8, 8, 8, 8, 8, 8, 8, 8, 8, 8, 8, 8, 8, 8] : Bytes) (IntKind.u8.wrap (shiftI .shr .u32 p_x 16))).bind fun b2 =>
      some (w64 (16 + (w64 (b2.toNat : Int))))
  else
    bif (decide (256 ≤ p_x)) then
      (idx ([0, 1, 2, 2, 3, 3, 3, 3, 4, 4, 4, 4, 4, 4, 4, 4, 5, 5, 5, 5, 5, 5, 5, 5, 5, 5, 5, 5, 5, 5, 5, 5, 6, 6, 6, 6, 6, 6, 6, 6, 6, 6, 6, 6, 6, 6, 6, 6, 6, 6, 6, 6, 6, 6, 6, 6, 6, 6, 6, 6, 6, 6, 6, 6, 7, 7, 7, 7, 7, 7, 7, 7, 7, 7, 7, 7, 7, 7, 7, 7, 7, 7, 7, 7, 7, 7, 7, 7, 7, 7, 7, 7, 7, 7, 7, 7, 7, 7, 7, 7, 7, 7, 7, 7, 7, 7, 7, 7, 7, 7, 7, 7, 7, 7, 7, 7, 7, 7, 7, 7, 7, 7, 7, 7, 7, 7, 7, 7, 8, 8, 8, 8, 8, 8, 8, 8, 8, 8, 8, 8, 8, 8, 8, 8, 8, 8, 8, 8, 8, 8, 8, 8, 8, 8, 8, 8, 8, 8, 8, 8, 8, 8, 8, 8, 8, 8, 8, 8, 8, 8, 8, 8, 8, 8, 8, 8, 8, 8, 8, 8, 8, 8, 8, 8, 8, 8, 8, 8, 8, 8, 8, 8, 8, 8, 8, 8, 8, 8, 8, 8, 8, 8, 8, 8, 8, 8, 8, 8, 8, 8, 8, 8, 8, 8, 8, 8, 8, 8, 8, 8, 8, 8, 8, 8, 8, 8, 8, 8, 8, 8, 8, 8, 8, 8, 8, 8, 8, 8, 8, 8, 8, 8, 8, 8, 8, 8, 8, 8, 8, 8, 8, 8, 8, 8, 8, 8] : Bytes) (IntKind.u8.wrap (shiftI .shr .u32 p_x 8))).bind fun b3 =>
      some (w64 ((w64 (0 + 8)) + (w64 (b3.toNat : Int))))
    else
      (idx ([0, 1, 2, 2, 3, 3, 3, 3, 4, 4, 4, 4, 4, 4, 4, 4, 5, 5, 5, 5, 5, 5, 5, 5, 5, 5, 5, 5, 5, 5, 5, 5, 6, 6, 6, 6, 6, 6, 6, 6, 6, 6, 6, 6, 6, 6, 6, 6, 6, 6, 6, 6, 6, 6, 6, 6, 6, 6, 6, 6, 6, 6, 6, 6, 7, 7, 7, 7, 7, 7, 7, 7, 7, 7, 7, 7, 7, 7, 7, 7, 7, 7, 7, 7, 7, 7, 7, 7, 7, 7, 7, 7, 7, 7, 7, 7, 7, 7, 7, 7, 7, 7, 7, 7, 7, 7, 7, 7, 7, 7, 7, 7, 7, 7, 7, 7, 7, 7, 7, 7, 7, 7, 7, 7, 7, 7, 7, 7, 8, 8, 8, 8, 8, 8, 8, 8, 8, 8, 8, 8, 8, 8, 8, 8, 8, 8, 8, 8, 8, 8, 8, 8, 8, 8, 8, 8, 8, 8, 8, 8, 8, 8, 8, 8, 8, 8, 8, 8, 8, 8, 8, 8, 8, 8, 8, 8, 8, 8, 8, 8, 8, 8, 8, 8, 8, 8, 8, 8, 8, 8, 8, 8, 8, 8, 8, 8, 8, 8, 8, 8, 8, 8, 8, 8, 8, 8, 8, 8, 8, 8, 8, 8, 8, 8, 8, 8, 8, 8, 8, 8, 8, 8, 8, 8, 8, 8, 8, 8, 8, 8, 8, 8, 8, 8, 8, 8, 8, 8, 8, 8, 8, 8, 8, 8, 8, 8, 8, 8, 8, 8, 8, 8, 8, 8, 8, 8] : Bytes) (IntKind.u8.wrap p_x)).bind fun b4 =>
      some (w64 (0 + (w64 (b4.toNat : Int))))
noncomputable def C79 : FnSpec := { ps := [.val (.int .u32)], rs := [.val (.int .i64)], fn := fun x => math_bits_Len32 x }
noncomputable def E79 : Env := { T := [(3, (.int .i64)), (5, (.int .u8)), (9, .str), (87, (.int .u32))], G := [], ro := [], loops := [], joins := [] }
theorem E79_eq : ∀ x, afun E79 Try.f79 C79.ps C79.rs x = C79.fn x := fun x => by kernel_rfl
theorem S79 : Sound Try.prog 79 C79 := fun_sound (E := E79) ⟨good_T (by kernel_rfl), good_nil, mixedOk, ins_nil⟩ Try.func79 rfl E79_eq
/-- math/bits.Len64 -/
noncomputable def math_bits_Len64 (p_x : Int) : Option (Int) :=
  bif (decide (4294967296 ≤ p_x)) then
    bif (decide (65536 ≤ (shiftI .shr .u64 p_x 32))) then
      bif (decide (256 ≤ (shiftI .shr .u64 (shiftI .shr .u64 p_x 32) 16))) then
        (idx ([0, 1, 2, 2, 3, 3, 3, 3, 4, 4, 4, 4, 4, 4, 4, 4, 5, 5, 5, 5, 5, 5, 5, 5, 5, 5, 5, 5, 5, 5, 5, 5, 6, 6, 6, 6, 6, 6, 6, 6, 6, 6, 6, 6, 6, 6, 6, 6, 6, 6, 6, 6, 6, 6, 6, 6, 6, 6, 6, 6, 6, 6, 6, 6, 7, 7, 7, 7, 7, 7, 7, 7, 7, 7, 7, 7, 7, 7, 7, 7, 7, 7, 7, 7, 7, 7, 7, 7, 7, 7, 7, 7, 7, 7, 7, 7, 7, 7, 7, 7, 7, 7, 7, 7, 7, 7, 7, 7, 7, 7, 7, 7, 7, 7, 7, 7, 7, 7, 7, 7, 7, 7, 7, 7, 7, 7, 7, 7, 8, 8, 8, 8, 8, 8, 8, 8, 8, 8, 8, 8, 8, 8, 8, 8, 8, 8, 8, 8, 8, 8, 8, 8, 8, 8, 8, 8, 8, 8, 8, 8, 8, 8, 8, 8, 8, 8, 8, 8, 8, 8, 8, 8, 8, 8, 8, 8, 8, 8, 8, 8, 8, 8, 8, 8, 8, 8, 8, 8, 8, 8, 8, 8, 8, 8, 8, 8, 8, 8, 8, 8, 8, 8, 8, 8, 8, 8, 8, 8, 8, 8, 8, 8, 8, 8, 8, 8, 8, 8, 8, 8, 8, 8, 8, 8, 8, 8, 8, 8, 8, 8, 8, 8, 8, 8, 8, 8, 8, 8, 8, 8, 8, 8, 8, 8, 8, 8, 8, 8, 8, 8, 8, 8, 8, 8, 8, 8] : Bytes) (IntKind.u8.wrap (shiftI .shr .u64 (shiftI .shr .u64 (shiftI .shr .u64 p_x 32) 16) 8))).bind fun b1 =>
        some (w64 ((w64 ((w64 (32 + 16)) + 8)) + (w64 (b1.toNat : Int))))
      else
        (idx ([0, 1, 2, 2, 3, 3, 3, 3, 4, 4, 4, 4, 4, 4, 4, 4, 5, 5, 5, 5, 5, 5, 5, 5, 5, 5, 5, 5, 5, 5, 5, 5, 6, 6, 6, 6, 6, 6, 6, 6, 6, 6, 6, 6, 6, 6, 6, 6, 6, 6, 6, 6, 6, 6, 6, 6, 6, 6, 6, 6, 6, 6, 6, 6, 7, 7, 7, 7, 7, 7, 7, 7, 7, 7, 7, 7, 7, 7, 7, 7, 7, 7, 7, 7, 7, 7, 7, 7, 7, 7, 7, 7, 7, 7, 7, 7, 7, 7, 7, 7, 7, 7, 7, 7, 7, 7, 7, 7, 7, 7, 7, 7, 7, 7, 7, 7, 7, 7, 7, 7, 7, 7, 7, 7, 7, 7, 7, 7, 8, 8, 8, 8, 8, 8, 8, 8, 8, 8, 8, 8, 8, 8, 8, 8, 8, 8, 8, 8, 8, 8, 8, 8, 8, 8, 8, 8, 8, 8, 8, 8, 8, 8, 8, 8, 8, 8, 8, 8, 8, 8, 8, 8, 8, 8, 8, 8, 8, 8, 8, 8, 8, 8, 8, 8, 8, 8, 8, 8, 8, 8, 8, 8, 8, 8, 8, 8, 8, 8, 8, 8, 8, 8, 8, 8, 8, 8, 8, 8, 8, 8, 8, 8, 8, 8, 8, 8, 8, 8, 8, 8, 8, 8, 8, 8, 8, 8, 8, 8, 8, 8, 8, 8, 8, 8, 8, 8, 8, 8, 8, 8, 8, 8, 8, 8, 8, 8, 8, 8, 8, 8, 8, 8, 8, 8, 8, 8] : Bytes) (IntKind.u8.wrap (shiftI .shr .u64 (shiftI .shr .u64 p_x 32) 16))).bind fun b2 =>
        some (w64 ((w64 (32 + 16)) + (w64 (b2.toNat : Int))))
    else
      bif (decide (256 ≤ (shiftI .shr .u64 p_x 32))) then
        (idx ([0, 1, 2, 2, 3, 3, 3, 3, 4, 4, 4, 4, 4, 4, 4, 4, 5, 5, 5, 5, 5, 5, 5, 5, 5, 5, 5, 5, 5, 5, 5, 5, 6, 6, 6, 6, 6, 6, 6, 6, 6, 6, 6, 6, 6, 6, 6, 6, 6, 6, 6, 6, 6, 6, 6, 6, 6, 6, 6, 6, 6, 6, 6, 6, 7, 7, 7, 7, 7, 7, 7, 7, 7, 7, 7, 7, 7, 7, 7, 7, 7, 7, 7, 7, 7, 7, 7, 7, 7, 7, 7, 7, 7, 7, 7, 7, 7, 7, 7, 7, 7, 7, 7, 7, 7, 7, 7, 7, 7, 7, 7, 7, 7, 7, 7, 7, 7, 7, 7, 7, 7, 7, 7, 7, 7, 7, 7, 7, 8, 8, 8, 8, 8, 8, 8, 8, 8, 8, 8, 8, 8, 8, 8, 8, 8, 8, 8, 8, 8, 8, 8, 8, 8, 8, 8, 8, 8, 8, 8, 8, 8, 8, 8, 8, 8, 8, 8, 8, 8, 8, 8, 8, 8, 8, 8, 8, 8, 8, 8, 8, 8, 8, 8, 8, 8, 8, 8, 8, 8, 8, 8, 8, 8, 8, 8, 8, 8, 8, 8, 8, 8, 8, 8, 8, 8, 8, 8, 8, 8, 8, 8, 8, 8, 8, 8, 8, 8, 8, 8, 8, 8, 8, 8, 8, 8, 8, 8, 8, 8, 8, 8, 8, 8, 8, 8, 8, 8, 8, 8, 8, 8, 8, 8, 8, 8, 8, 8, 8, 8, 8, 8, 8, 8, 8, 8, 8] : Bytes) (IntKind.u8.wrap (shiftI .shr .u64 (shiftI .shr .u64 p_x 32) 8))).bind fun b3 =>
        some (w64 ((w64 (32 + 8)) + (w64 (b3.toNat : Int))))
      else
        (idx ([0, 1, 2, 2, 3, 3, 3, 3, 4, 4, 4, 4, 4, 4, 4, 4, 5, 5, 5, 5, 5, 5, 5, 5, 5, 5, 5, 5, 5, 5, 5, 5, 6, 6, 6, 6, 6, 6, 6, 6, 6, 6, 6, 6, 6, 6, 6, 6, 6, 6, 6, 6, 6, 6, 6, 6, 6, 6, 6, 6, 6, 6, 6, 6, 7, 7, 7, 7, 7, 7, 7, 7, 7, 7, 7, 7, 7, 7, 7, 7, 7, 7, 7, 7, 7, 7, 7, 7, 7, 7, 7, 7, 7, 7, 7, 7, 7, 7, 7, 7, 7, 7, 7, 7, 7, 7, 7, 7, 7, 7, 7, 7, 7, 7, 7, 7, 7, 7, 7, 7, 7, 7, 7, 7, 7, 7, 7, 7, 8, 8, 8, 8, 8, 8, 8, 8, 8, 8, 8, 8, 8, 8, 8, 8, 8, 8, 8, 8, 8, 8, 8, 8, 8, 8, 8, 8, 8, 8, 8, 8, 8, 8, 8, 8, 8, 8, 8, 8, 8, 8, 8, 8, 8, 8, 8, 8, 8, 8, 8, 8, 8, 8, 8, 8, 8, 8, 8, 8, 8, 8, 8, 8, 8, 8, 8, 8, 8, 8, 8, 8, 8, 8, 8, 8, 8, 8, 8, 8, 8, 8, 8, 8, 8, 8, 8, 8, 8, 8, 8, 8, 8, 8, 8, 8, 8, 8, 8, 8, 8, 8, 8, 8, 8, 8, 8, 8, 8, 8, 8, 8, 8, 8, 8, 8, 8, 8, 8, 8, 8, 8, 8, 8, 8, 8, 8, 8] : Bytes) (IntKind.u8.wrap (shiftI .shr .u64 p_x 32))).bind fun b4 =>
        some (w64 (32 + (w64 (b4.toNat : Int))))
  else
    bif (decide (65536 ≤ p_x)) then
      bif (decide (256 ≤ (shiftI .shr .u64 p_x 16))) then
        (idx ([0, 1, 2, 2, 3, 3, 3, 3, 4, 4, 4, 4, 4, 4, 4, 4, 5, 5, 5, 5, 5, 5, 5, 5, 5, 5, 5, 5, 5, 5, 5, 5, 6, 6, 6, 6, 6, 6, 6, 6, 6, 6, 6, 6, 6, 6, 6, 6, 6, 6, 6, 6, 6, 6, 6, 6, 6, 6, 6, 6, 6, 6, 6, 6, 7, 7, 7, 7, 7, 7, 7, 7, 7, 7, 7, 7, 7, 7, 7, 7, 7, 7, 7, 7, 7, 7, 7, 7, 7, 7, 7, 7, 7, 7, 7, 7, 7, 7, 7, 7, 7, 7, 7, 7, 7, 7, 7, 7, 7, 7, 7, 7, 7, 7, 7, 7, 7, 7, 7, 7, 7, 7, 7, 7, 7, 7, 7, 7, 8, 8, 8, 8, 8, 8, 8, 8, 8, 8, 8, 8, 8, 8, 8, 8, 8, 8, 8, 8, 8, 8, 8, 8, 8, 8, 8, 8, 8, 8, 8, 8, 8, 8, 8, 8, 8, 8, 8, 8, 8, 8, 8, 8, 8, 8, 8, 8, 8, 8, 8, 8, 8, 8, 8, 8, 8, 8, 8, 8, 8, 8, 8, 8, 8, 8, 8, 8, 8, 8, 8, 8, 8, 8, 8, 8, 8, 8, 8, 8, 8, 8, 8, 8, 8, 8, 8, 8, 8, 8, 8, 8, 8, 8, 8, 8, 8, 8, 8, 8, 8, 8, 8, 8, 8, 8, 8, 8, 8, 8, 8, 8, 8, 8, 8, 8, 8, 8, 8, 8, 8, 8, 8, 8, 8, 8, 8, 8] : Bytes) (IntKind.u8.wrap (shiftI .shr .u64 (shiftI .shr .u64 p_x 16) 8))).bind fun b5 =>
        some (w64 ((w64 ((w64 (0 + 16)) + 8)) + (w64 (b5.toNat : Int))))
      else
        (idx ([0, 1, 2, 2, 3, 3, 3, 3, 4, 4, 4, 4, 4, 4, 4, 4, 5, 5, 5, 5, 5, 5, 5, 5, 5, 5, 5, 5, 5, 5, 5, 5, 6, 6, 6, 6, 6, 6, 6, 6, 6, 6, 6, 6, 6, 6, 6, 6, 6, 6, 6, 6, 6, 6, 6, 6, 6, 6, 6, 6, 6, 6, 6, 6, 7, 7, 7, 7, 7, 7, 7, 7, 7, 7, 7, 7, 7, 7, 7, 7, 7, 7, 7, 7, 7, 7, 7, 7, 7, 7, 7, 7, 7, 7, 7, 7, 7, 7, 7, 7, 7, 7, 7, 7, 7, 7, 7, 7, 7, 7, 7, 7, 7, 7, 7, 7, 7, 7, 7, 7, 7, 7, 7, 7, 7, 7, 7, 7, 8, 8, 8, 8, 8, 8, 8, 8, 8, 8, 8, 8, 8, 8, 8, 8, 8, 8, 8, 8, 8, 8, 8, 8, 8, 8, 8, 8, 8, 8, 8, 8, 8, 8, 8, 8, 8, 8, 8, 8, 8, 8, 8, 8, 8, 8, 8, 8, 8, 8, 8, 8, 8, 8, 8, 8, 8, 8, 8, 8, 8, 8, 8, 8, 8, 8, 8, 8, 8, 8, 8, 8, 8, 8, 8, 8, 8, 8, 8, 8, 8, 8, 8, 8, 8, 8, 8, 8, 8, 8, 8, 8, 8, 8, 8, 8, 8, 8, 8, 8, 8, 8, 8, 8, 8, 8, 8, 8, 8, 8, 8, 8, 8, 8, 8, 8, 8, 8, 8, 8, 8, 8, 8, 8, 8, 8, 8, 8] : Bytes) (IntKind.u8.wrap (shiftI .shr .u64 p_x 16))).bind fun b6 =>
        some (w64 ((w64 (0 + 16)) + (w64 (b6.toNat : Int))))
    else
      bif (decide (256 ≤ p_x)) then
        (idx ([0, 1, 2, 2, 3, 3, 3, 3, 4, 4, 4, 4, 4, 4, 4, 4, 5, 5, 5, 5, 5, 5, 5, 5, 5, 5, 5, 5, 5, 5, 5, 5, 6, 6, 6, 6, 6, 6, 6, 6, 6, 6, 6, 6, 6, 6, 6, 6, 6, 6, 6, 6, 6, 6, 6, 6, 6, 6, 6, 6, 6, 6, 6, 6, 7, 7, 7, 7, 7, 7, 7, 7, 7, 7, 7, 7, 7, 7, 7, 7, 7, 7, 7, 7, 7, 7, 7, 7, 7, 7, 7, 7, 7, 7, 7, 7, 7, 7, 7, 7, 7, 7, 7, 7, 7, 7, 7, 7, 7, 7, 7, 7, 7, 7, 7, 7, 7, 7, 7, 7, 7, 7, 7, 7, 7, 7, 7, 7, 8, 8, 8, 8, 8, 8, 8, 8, 8, 8, 8, 8, 8, 8, 8, 8, 8, 8, 8, 8, 8, 8, 8, 8, 8, 8, 8, 8, 8, 8, 8, 8, 8, 8, 8, 8, 8, 8, 8, 8, 8, 8, 8, 8, 8, 8, 8, 8, 8, 8, 8, 8, 8, 8, 8, 8, 8, 8, 8, 8, 8, 8, 8, 8, 8, 8, 8, 8, 8, 8, 8, 8, 8, 8, 8, 8, 8, 8, 8, 8, 8, 8, 8, 8, 8, 8, 8, 8, 8, 8, 8, 8, 8, 8, 8, 8, 8, 8, 8, 8, 8, 8, 8, 8, 8, 8, 8, 8, 8, 8, 8, 8, 8, 8, 8, 8, 8, 8, 8, 8, 8, 8, 8, 8, 8, 8, 8, 8] : Bytes) (IntKind.u8.wrap (shiftI .shr .u64 p_x 8))).bind fun b7 =>
        some (w64 ((w64 (0 + 8)) + (w64 (b7.toNat : Int))))
      else
        (idx ([0, 1, 2, 2, 3, 3, 3, 3, 4, 4, 4, 4, 4, 4, 4, 4, 5, 5, 5, 5, 5, 5, 5, 5, 5, 5, 5, 5, 5, 5, 5, 5, 6, 6, 6, 6, 6, 6, 6, 6, 6, 6, 6, 6, 6, 6, 6, 6, 6, 6, 6, 6, 6, 6, 6, 6, 6, 6, 6, 6, 6, 6, 6, 6, 7, 7, 7, 7, 7, 7, 7, 7, 7, 7, 7, 7, 7, 7, 7, 7, 7, 7, 7, 7, 7, 7, 7, 7, 7, 7, 7, 7, 7, 7, 7, 7, 7, 7, 7, 7, 7, 7, 7, 7, 7, 7, 7, 7, 7, 7, 7, 7, 7, 7, 7, 7, 7, 7, 7, 7, 7, 7, 7, 7, 7, 7, 7, 7, 8, 8, 8, 8, 8, 8, 8, 8, 8, 8, 8, 8, 8, 8, 8, 8, 8, 8, 8, 8, 8, 8, 8, 8, 8, 8, 8, 8, 8, 8, 8, 8, 8, 8, 8, 8, 8, 8, 8, 8, 8, 8, 8, 8, 8, 8, 8, 8, 8, 8, 8, 8, 8, 8, 8, 8, 8, 8, 8, 8, 8, 8, 8, 8, 8, 8, 8, 8, 8, 8, 8, 8, 8, 8, 8, 8, 8, 8, 8, 8, 8, 8, 8, 8, 8, 8, 8, 8, 8, 8, 8, 8, 8, 8, 8, 8, 8, 8, 8, 8, 8, 8, 8, 8, 8, 8, 8, 8, 8, 8, 8, 8, 8, 8, 8, 8, 8, 8, 8, 8, 8, 8, 8, 8, 8, 8, 8, 8] : Bytes) (IntKind.u8.wrap p_x)).bind fun b8 =>
        some (w64 (0 + (w64 (b8.toNat : Int))))
noncomputable def C80 : FnSpec := { ps := [.val (.int .u64)], rs := [.val (.int .i64)], fn := fun x => math_bits_Len64 x }
noncomputable def E80 : Env := { T := [(3, (.int .i64)), (5, (.int .u8)), (9, .str), (89, (.int .u64))], G := [], ro := [], loops := [], joins := [] }
theorem E80_eq : ∀ x, afun E80 Try.f80 C80.ps C80.rs x = C80.fn x := fun x => by kernel_rfl
theorem S80 : Sound Try.prog 80 C80 := fun_sound (E := E80) ⟨good_T (by kernel_rfl), good_nil, mixedOk, ins_nil⟩ Try.func80 rfl E80_eq
/-- math/bits.Len -/
noncomputable def math_bits_Len (p_x : Int) : Option (Int) :=
  bif false then
    (math_bits_Len32 (IntKind.u32.wrap p_x)).bind fun r1 =>
    some r1
  else
    (math_bits_Len64 p_x).bind fun r2 =>
    some r2
noncomputable def C66 : FnSpec := { ps := [.val (.int .u64)], rs := [.val (.int .i64)], fn := fun x => math_bits_Len x }
noncomputable def E66 : Env := { T := [(77, (.int .u64)), (87, (.int .u32))], G := [(79, C79), (80, C80)], ro := [], loops := [], joins := [] }
theorem E66_eq : ∀ x, afun E66 Try.f66 C66.ps C66.rs x = C66.fn x := fun x => by kernel_rfl
theorem S66 : Sound Try.prog 66 C66 := fun_sound (E := E66) ⟨good_T (by kernel_rfl), (good_cons S79 ⟨_, Try.func79, by kernel_rfl, by kernel_rfl⟩ (good_cons S80 ⟨_, Try.func80, by kernel_rfl, by kernel_rfl⟩ good_nil)), mixedOk, ins_nil⟩ Try.func66 rfl E66_eq
/-- slices.Sort[[]int,int] -/
noncomputable def slices_Sort_int (p_x : List Int) : Option ((List Int)) :=
  (math_bits_Len (IntKind.u64.wrap (p_x.length : Int))).bind fun r1 =>
  (slices_pdqsortOrdered_int p_x 0 (p_x.length : Int) r1).bind fun r2 =>
  some r2
noncomputable def C51 : FnSpec := { ps := [.own (.slice (.int .i64))], rs := [], fn := fun x => slices_Sort_int x }
noncomputable def E51 : Env := { T := [(3, (.int .i64)), (45, (.slice (.int .i64))), (77, (.int .u64))], G := [(65, C65), (66, C66)], ro := [], loops := [], joins := [] }
theorem E51_eq : ∀ x, afun E51 Try.f51 C51.ps C51.rs x = C51.fn x := fun x => by kernel_rfl
theorem S51 : Sound Try.prog 51 C51 := fun_sound_own (E := E51) ⟨good_T (by kernel_rfl), (good_cons S65 ⟨_, Try.func65, by kernel_rfl, by kernel_rfl⟩ (good_cons S66 ⟨_, Try.func66, by kernel_rfl, by kernel_rfl⟩ good_nil)), mixedOk, ins_nil⟩ Try.func51 rfl rfl E51_eq
/-- impl.makeMove -/
noncomputable def i_makeMove (p_l : List GTicket) (p_m : GDeskMove) : Option ((List GTicket) × Bool) :=
  (i_cloneTickets p_l).bind fun r1 =>
  (i_ticketIndex r1 p_m.2.1).bind fun r2 =>
  (bif (decide (p_m.1 = 1)) then
      some (decide (r2 < 0))
    else
      some false).bind fun c3 =>
  bif c3 then
    (loopE (fun (st5 : (List GTicket) × Int) => (
        (bif (decide (st5.2 < (st5.1.length : Int))) then
            bif decide (0 ≤ st5.2) && decide (st5.2 < (st5.1.length : Int)) then
              (st5.1[(Int.toNat st5.2)]?).bind fun e6 =>
              some (decide (e6.1 < p_m.2.1))
            else
              none
          else
            some false).bind fun c7 =>
        bif c7 then
          some (.inl (st5.1, (w64 (st5.2 + 1))))
        else
          some (.inr (st5.1, st5.2)) : Option (((List GTicket) × Int) ⊕ (((List GTicket) × Int))))) (r1, 0)).bind fun o8 =>
    bif decide (0 ≤ o8.2) && decide (o8.2 ≤ (o8.1.length : Int)) && decide (List.length o8.1 ≤ 999999) then
      (i_AreTickets (insV o8.1 o8.2 (p_m.2.1, p_m.2.2.1, [], 0, ()))).bind fun r9 =>
      bif (!r9) then
        some ([], false)
      else
        some ((insV o8.1 o8.2 (p_m.2.1, p_m.2.2.1, [], 0, ())), true)
    else
      none
  else
    (bif (decide (p_m.1 = 2)) then
        some (decide (0 ≤ r2))
      else
        some false).bind fun c10 =>
    (bif c10 then
        bif decide (0 ≤ r2) && decide (r2 < (r1.length : Int)) then
          (r1[(Int.toNat r2)]?).bind fun e11 =>
          some (decide (e11.2.2.2.1 = 0))
        else
          none
      else
        some false).bind fun c12 =>
    (bif c12 then
        bif decide (0 ≤ r2) && decide (r2 < (r1.length : Int)) then
          (r1[(Int.toNat r2)]?).bind fun e13 =>
          (i_within p_m.2.2.1 0 (w64 (e13.2.1 - 1))).bind fun r14 =>
          some r14
        else
          none
      else
        some false).bind fun c15 =>
    bif c15 then
      bif decide (0 ≤ r2) && decide (r2 < (r1.length : Int)) then
        (r1[(Int.toNat r2)]?).bind fun e16 =>
        (slices_Contains_int e16.2.2.1 p_m.2.2.1).bind fun r17 =>
        bif (!r17) then
          (r1[(Int.toNat r2)]?).bind fun e18 =>
          bif decide (List.length e18.2.2.1 + List.length [p_m.2.2.1] ≤ lim) then
            bothSame (
              bif Nat.beq (Int.toNat r2) (Int.toNat r2) then
                ((r1.set (Int.toNat r2) (e18.1, e18.2.1, (e18.2.2.1 ++ [p_m.2.2.1]), e18.2.2.2))[(Int.toNat r2)]?).bind fun e19 =>
                (slices_Sort_int e19.2.2.1).bind fun r20 =>
                (((r1.set (Int.toNat r2) (e18.1, e18.2.1, (e18.2.2.1 ++ [p_m.2.2.1]), e18.2.2.2)).set (Int.toNat r2) (e19.1, e19.2.1, r20, e19.2.2.2))[(Int.toNat r2)]?).bind fun e21 =>
                (((r1.set (Int.toNat r2) (e18.1, e18.2.1, (e18.2.2.1 ++ [p_m.2.2.1]), e18.2.2.2)).set (Int.toNat r2) (e19.1, e19.2.1, r20, e19.2.2.2))[(Int.toNat r2)]?).bind fun e22 =>
                bif (decide ((e21.2.2.1.length : Int) = e22.2.1)) then
                  (((r1.set (Int.toNat r2) (e18.1, e18.2.1, (e18.2.2.1 ++ [p_m.2.2.1]), e18.2.2.2)).set (Int.toNat r2) (e19.1, e19.2.1, r20, e19.2.2.2))[(Int.toNat r2)]?).bind fun e23 =>
                  (i_AreTickets (((r1.set (Int.toNat r2) (e18.1, e18.2.1, (e18.2.2.1 ++ [p_m.2.2.1]), e18.2.2.2)).set (Int.toNat r2) (e19.1, e19.2.1, r20, e19.2.2.2)).set (Int.toNat r2) (e23.1, e23.2.1, e23.2.2.1, 1, ()))).bind fun r24 =>
                  bif (!r24) then
                    some ([], false)
                  else
                    some ((((r1.set (Int.toNat r2) (e18.1, e18.2.1, (e18.2.2.1 ++ [p_m.2.2.1]), e18.2.2.2)).set (Int.toNat r2) (e19.1, e19.2.1, r20, e19.2.2.2)).set (Int.toNat r2) (e23.1, e23.2.1, e23.2.2.1, 1, ())), true)
                else
                  (i_AreTickets ((r1.set (Int.toNat r2) (e18.1, e18.2.1, (e18.2.2.1 ++ [p_m.2.2.1]), e18.2.2.2)).set (Int.toNat r2) (e19.1, e19.2.1, r20, e19.2.2.2))).bind fun r25 =>
                  bif (!r25) then
                    some ([], false)
                  else
                    some (((r1.set (Int.toNat r2) (e18.1, e18.2.1, (e18.2.2.1 ++ [p_m.2.2.1]), e18.2.2.2)).set (Int.toNat r2) (e19.1, e19.2.1, r20, e19.2.2.2)), true)
              else
                none)
            (
              (r1[(Int.toNat r2)]?).bind fun e26 =>
              ((r1.set (Int.toNat r2) (e26.1, e26.2.1, (e18.2.2.1 ++ [p_m.2.2.1]), e26.2.2.2))[(Int.toNat r2)]?).bind fun e27 =>
              (slices_Sort_int e27.2.2.1).bind fun r28 =>
              (((r1.set (Int.toNat r2) (e26.1, e26.2.1, (e18.2.2.1 ++ [p_m.2.2.1]), e26.2.2.2)).set (Int.toNat r2) (e27.1, e27.2.1, r28, e27.2.2.2))[(Int.toNat r2)]?).bind fun e29 =>
              (((r1.set (Int.toNat r2) (e26.1, e26.2.1, (e18.2.2.1 ++ [p_m.2.2.1]), e26.2.2.2)).set (Int.toNat r2) (e27.1, e27.2.1, r28, e27.2.2.2))[(Int.toNat r2)]?).bind fun e30 =>
              bif (decide ((e29.2.2.1.length : Int) = e30.2.1)) then
                (((r1.set (Int.toNat r2) (e26.1, e26.2.1, (e18.2.2.1 ++ [p_m.2.2.1]), e26.2.2.2)).set (Int.toNat r2) (e27.1, e27.2.1, r28, e27.2.2.2))[(Int.toNat r2)]?).bind fun e31 =>
                (i_AreTickets (((r1.set (Int.toNat r2) (e26.1, e26.2.1, (e18.2.2.1 ++ [p_m.2.2.1]), e26.2.2.2)).set (Int.toNat r2) (e27.1, e27.2.1, r28, e27.2.2.2)).set (Int.toNat r2) (e31.1, e31.2.1, e31.2.2.1, 1, ()))).bind fun r32 =>
                bif (!r32) then
                  some ([], false)
                else
                  some ((((r1.set (Int.toNat r2) (e26.1, e26.2.1, (e18.2.2.1 ++ [p_m.2.2.1]), e26.2.2.2)).set (Int.toNat r2) (e27.1, e27.2.1, r28, e27.2.2.2)).set (Int.toNat r2) (e31.1, e31.2.1, e31.2.2.1, 1, ())), true)
              else
                (i_AreTickets ((r1.set (Int.toNat r2) (e26.1, e26.2.1, (e18.2.2.1 ++ [p_m.2.2.1]), e26.2.2.2)).set (Int.toNat r2) (e27.1, e27.2.1, r28, e27.2.2.2))).bind fun r33 =>
                bif (!r33) then
                  some ([], false)
                else
                  some (((r1.set (Int.toNat r2) (e26.1, e26.2.1, (e18.2.2.1 ++ [p_m.2.2.1]), e26.2.2.2)).set (Int.toNat r2) (e27.1, e27.2.1, r28, e27.2.2.2)), true))
          else
            none
        else
          (r1[(Int.toNat r2)]?).bind fun e34 =>
          (r1[(Int.toNat r2)]?).bind fun e35 =>
          bif (decide ((e34.2.2.1.length : Int) = e35.2.1)) then
            (r1[(Int.toNat r2)]?).bind fun e36 =>
            (i_AreTickets (r1.set (Int.toNat r2) (e36.1, e36.2.1, e36.2.2.1, 1, ()))).bind fun r37 =>
            bif (!r37) then
              some ([], false)
            else
              some ((r1.set (Int.toNat r2) (e36.1, e36.2.1, e36.2.2.1, 1, ())), true)
          else
            (i_AreTickets r1).bind fun r38 =>
            bif (!r38) then
              some ([], false)
            else
              some (r1, true)
      else
        none
    else
      (bif (decide (p_m.1 = 3)) then
          some (decide (0 ≤ r2))
        else
          some false).bind fun c39 =>
      (bif c39 then
          bif decide (0 ≤ r2) && decide (r2 < (r1.length : Int)) then
            (r1[(Int.toNat r2)]?).bind fun e40 =>
            some (decide (e40.2.2.2.1 = 0))
          else
            none
        else
          some false).bind fun c41 =>
      bif c41 then
        bif decide (0 ≤ r2) && decide (r2 < (r1.length : Int)) then
          (r1[(Int.toNat r2)]?).bind fun e42 =>
          (i_AreTickets (r1.set (Int.toNat r2) (e42.1, e42.2.1, e42.2.2.1, 2, ()))).bind fun r43 =>
          bif (!r43) then
            some ([], false)
          else
            some ((r1.set (Int.toNat r2) (e42.1, e42.2.1, e42.2.2.1, 2, ())), true)
        else
          none
      else
        some ([], false)
noncomputable def C31 : FnSpec := { ps := [.val (.slice TGTicket), .val TGDeskMove], rs := [.own (.slice TGTicket), .val .bool], fn := fun x => i_makeMove x.1 x.2 }
noncomputable def E31 : Env := { T := [(3, (.int .i64)), (24, (.slice TGTicket)), (45, (.slice (.int .i64))), (49, TGTicket), (54, TGDeskMove)], G := [(30, C30), (38, C38), (45, C45), (48, C48), (50, C50), (51, C51)], ro := [3], loops := [(6, { keep := [3], live := [.own 6 [] 160 TGTicket true, .tv 7 (.int .i64)], outs := [(.exit 1, [.own 6 [] 160 TGTicket true, .tv 7 (.int .i64)])] })], joins := [], mv := true, ins := [(49, TGTicket)], hoist := [(12, [0])] }
theorem E31_eq : ∀ x, afun E31 Try.f31 C31.ps C31.rs x = C31.fn x := fun x => by kernel_rfl
theorem S31 : Sound Try.prog 31 C31 := fun_sound (E := E31) ⟨good_T (by kernel_rfl), (good_cons S30 ⟨_, Try.func30, by kernel_rfl, by kernel_rfl⟩ (good_cons S38 ⟨_, Try.func38, by kernel_rfl, by kernel_rfl⟩ (good_cons S45 ⟨_, Try.func45, by kernel_rfl, by kernel_rfl⟩ (good_cons S48 ⟨_, Try.func48, by kernel_rfl, by kernel_rfl⟩ (good_cons S50 ⟨_, Try.func50, by kernel_rfl, by kernel_rfl⟩ (good_cons S51 ⟨_, Try.func51, by kernel_rfl, by kernel_rfl⟩ good_nil)))))), mixedOk, (ins_cons insOk ⟨_, Try.func49, by kernel_rfl, by kernel_rfl⟩ ins_nil)⟩ Try.func31 rfl E31_eq
/-- impl.GiveUp -/
noncomputable def i_GiveUp (p_l : List GTicket) (p_message : Int) : Option ((List GTicket) × Bool) :=
  (i_AreTickets p_l).bind fun r1 =>
  bif (!r1) then
    some ([], false)
  else
    (i_makeMove p_l (3, p_message, 0, ())).bind fun r2 =>
    some (r2.1, r2.2)
noncomputable def C11 : FnSpec := { ps := [.val (.slice TGTicket), .val (.int .i64)], rs := [.own (.slice TGTicket), .val .bool], fn := fun x => i_GiveUp x.1 x.2 }
noncomputable def E11 : Env := { T := [(54, TGDeskMove)], G := [(30, C30), (31, C31)], ro := [], loops := [], joins := [] }
theorem E11_eq : ∀ x, afun E11 Try.f11 C11.ps C11.rs x = C11.fn x := fun x => by kernel_rfl
theorem S11 : Sound Try.prog 11 C11 := fun_sound (E := E11) ⟨good_T (by kernel_rfl), (good_cons S30 ⟨_, Try.func30, by kernel_rfl, by kernel_rfl⟩ (good_cons S31 ⟨_, Try.func31, by kernel_rfl, by kernel_rfl⟩ good_nil)), mixedOk, ins_nil⟩ Try.func11 rfl E11_eq
/-- laws.eqIntS -/
noncomputable def l_eqIntS (p_a : List Int) (p_b : List Int) : Option (Bool) :=
  bif (!decide ((p_a.length : Int) = (p_b.length : Int))) then
    some false
  else
    (loopE (fun (st2 : Int) => (
        bif (decide (st2 < (p_a.length : Int))) then
          (idx p_a st2).bind fun e3 =>
          (idx p_b st2).bind fun e4 =>
          bif (!decide (e3 = e4)) then
            some (.inr (.inr false))
          else
            some (.inl (w64 (st2 + 1)))
        else
          some (.inr (.inl ())) : Option ((Int) ⊕ (Unit ⊕ Bool)))) 0).bind fun o5 =>
    match o5 with
    | .inl _ =>
      some true
    | .inr y7 =>
      some y7
noncomputable def C52 : FnSpec := { ps := [.val (.slice (.int .i64)), .val (.slice (.int .i64))], rs := [.val .bool], fn := fun x => l_eqIntS x.1 x.2 }
noncomputable def E52 : Env := { T := [(3, (.int .i64)), (45, (.slice (.int .i64)))], G := [], ro := [], loops := [(4, { keep := [0, 1], live := [.tv 5 (.int .i64)], outs := [(.exit 0, []), (.ret, [.tv 4 .bool])] })], joins := [] }
theorem E52_eq : ∀ x, afun E52 Try.f52 C52.ps C52.rs x = C52.fn x := fun x => by kernel_rfl
theorem S52 : Sound Try.prog 52 C52 := fun_sound (E := E52) ⟨good_T (by kernel_rfl), good_nil, mixedOk, ins_nil⟩ Try.func52 rfl E52_eq
/-- laws.eqTicket -/
noncomputable def l_eqTicket (p_a : GTicket) (p_b : GTicket) : Option (Bool) :=
  bif (!decide (p_a.1 = p_b.1)) then
    some false
  else
    bif (!decide (p_a.2.1 = p_b.2.1)) then
      some false
    else
      (l_eqIntS p_a.2.2.1 p_b.2.2.1).bind fun r1 =>
      bif (!r1) then
        some false
      else
        bif (!decide (p_a.2.2.2.1 = p_b.2.2.2.1)) then
          some false
        else
          some true
noncomputable def C32 : FnSpec := { ps := [.val TGTicket, .val TGTicket], rs := [.val .bool], fn := fun x => l_eqTicket x.1 x.2 }
noncomputable def E32 : Env := { T := [(3, (.int .i64)), (45, (.slice (.int .i64))), (49, TGTicket)], G := [(52, C52)], ro := [2, 3], loops := [], joins := [] }
theorem E32_eq : ∀ x, afun E32 Try.f32 C32.ps C32.rs x = C32.fn x := fun x => by kernel_rfl
theorem S32 : Sound Try.prog 32 C32 := fun_sound (E := E32) ⟨good_T (by kernel_rfl), (good_cons S52 ⟨_, Try.func52, by kernel_rfl, by kernel_rfl⟩ good_nil), mixedOk, ins_nil⟩ Try.func32 rfl E32_eq
/-- laws.eqTicketS -/
noncomputable def l_eqTicketS (p_a : List GTicket) (p_b : List GTicket) : Option (Bool) :=
  bif (!decide ((p_a.length : Int) = (p_b.length : Int))) then
    some false
  else
    (loopE (fun (st2 : Int) => (
        bif (decide (st2 < (p_a.length : Int))) then
          (idx p_a st2).bind fun e3 =>
          (idx p_b st2).bind fun e4 =>
          (l_eqTicket e3 e4).bind fun r5 =>
          bif (!r5) then
            some (.inr (.inr false))
          else
            some (.inl (w64 (st2 + 1)))
        else
          some (.inr (.inl ())) : Option ((Int) ⊕ (Unit ⊕ Bool)))) 0).bind fun o6 =>
    match o6 with
    | .inl _ =>
      some true
    | .inr y8 =>
      some y8
noncomputable def C12 : FnSpec := { ps := [.val (.slice TGTicket), .val (.slice TGTicket)], rs := [.val .bool], fn := fun x => l_eqTicketS x.1 x.2 }
noncomputable def E12 : Env := { T := [(24, (.slice TGTicket)), (49, TGTicket)], G := [(32, C32)], ro := [], loops := [(4, { keep := [0, 1], live := [.tv 5 (.int .i64)], outs := [(.exit 0, []), (.ret, [.tv 4 .bool])] })], joins := [] }
theorem E12_eq : ∀ x, afun E12 Try.f12 C12.ps C12.rs x = C12.fn x := fun x => by kernel_rfl
theorem S12 : Sound Try.prog 12 C12 := fun_sound (E := E12) ⟨good_T (by kernel_rfl), (good_cons S32 ⟨_, Try.func32, by kernel_rfl, by kernel_rfl⟩ good_nil), mixedOk, ins_nil⟩ Try.func12 rfl E12_eq
/-- laws.markIntS -/
noncomputable def l_markIntS (p_a : List Int) (p_k : Int) : Option ((List Int) × Int) :=
  (loopE (fun (st2 : (List Int) × Int × Int) => (
      bif (decide (st2.2.2 < (st2.1.length : Int))) then
        bif decide (0 ≤ st2.2.2) && decide (st2.2.2 < (st2.1.length : Int)) then
          some (.inl ((st2.1.set (Int.toNat st2.2.2) st2.2.1), (w64 (st2.2.1 + 1)), (w64 (st2.2.2 + 1))))
        else
          none
      else
        some (.inr (st2.1, st2.2.1)) : Option (((List Int) × Int × Int) ⊕ (((List Int) × Int))))) (p_a, p_k, 0)).bind fun o3 =>
  some (o3.1, o3.2)
noncomputable def C33 : FnSpec := { ps := [.own (.slice (.int .i64)), .val (.int .i64)], rs := [.val (.int .i64)], fn := fun x => l_markIntS x.1 x.2 }
noncomputable def E33 : Env := { T := [(3, (.int .i64)), (45, (.slice (.int .i64)))], G := [], ro := [], loops := [(2, { keep := [], live := [.own 0 [] 100000 (.int .i64) true, .tv 1 (.int .i64), .tv 5 (.int .i64)], outs := [(.exit 0, [.own 0 [] 100000 (.int .i64) true, .tv 1 (.int .i64)])] })], joins := [] }
theorem E33_eq : ∀ x, afun E33 Try.f33 C33.ps C33.rs x = C33.fn x := fun x => by kernel_rfl
theorem S33 : Sound Try.prog 33 C33 := fun_sound_own (E := E33) ⟨good_T (by kernel_rfl), good_nil, mixedOk, ins_nil⟩ Try.func33 rfl rfl E33_eq
/-- laws.markTicketS -/
noncomputable def l_markTicketS (p_a : List GTicket) (p_k : Int) : Option ((List GTicket) × Int) :=
  (loopE (fun (st2 : (List GTicket) × Int × Int) => (
      bif (decide (st2.2.2 < (st2.1.length : Int))) then
        bif decide (0 ≤ st2.2.2) && decide (st2.2.2 < (st2.1.length : Int)) then
          (st2.1[(Int.toNat st2.2.2)]?).bind fun e3 =>
          bif decide (0 ≤ st2.2.2) && decide (st2.2.2 < ((st2.1.set (Int.toNat st2.2.2) (st2.2.1, e3.2)).length : Int)) then
            ((st2.1.set (Int.toNat st2.2.2) (st2.2.1, e3.2))[(Int.toNat st2.2.2)]?).bind fun e4 =>
            bif decide (0 ≤ st2.2.2) && decide (st2.2.2 < (((st2.1.set (Int.toNat st2.2.2) (st2.2.1, e3.2)).set (Int.toNat st2.2.2) (e4.1, (w64 (st2.2.1 + 1)), e4.2.2)).length : Int)) then
              (((st2.1.set (Int.toNat st2.2.2) (st2.2.1, e3.2)).set (Int.toNat st2.2.2) (e4.1, (w64 (st2.2.1 + 1)), e4.2.2))[(Int.toNat st2.2.2)]?).bind fun e5 =>
              (l_markIntS e5.2.2.1 (w64 ((w64 (st2.2.1 + 1)) + 1))).bind fun r6 =>
              bif decide (0 ≤ st2.2.2) && decide (st2.2.2 < ((((st2.1.set (Int.toNat st2.2.2) (st2.2.1, e3.2)).set (Int.toNat st2.2.2) (e4.1, (w64 (st2.2.1 + 1)), e4.2.2)).set (Int.toNat st2.2.2) (e5.1, e5.2.1, r6.1, e5.2.2.2)).length : Int)) then
                ((((st2.1.set (Int.toNat st2.2.2) (st2.2.1, e3.2)).set (Int.toNat st2.2.2) (e4.1, (w64 (st2.2.1 + 1)), e4.2.2)).set (Int.toNat st2.2.2) (e5.1, e5.2.1, r6.1, e5.2.2.2))[(Int.toNat st2.2.2)]?).bind fun e7 =>
                some (.inl (((((st2.1.set (Int.toNat st2.2.2) (st2.2.1, e3.2)).set (Int.toNat st2.2.2) (e4.1, (w64 (st2.2.1 + 1)), e4.2.2)).set (Int.toNat st2.2.2) (e5.1, e5.2.1, r6.1, e5.2.2.2)).set (Int.toNat st2.2.2) (e7.1, e7.2.1, e7.2.2.1, r6.2, ())), (w64 (r6.2 + 1)), (w64 (st2.2.2 + 1))))
              else
                none
            else
              none
          else
            none
        else
          none
      else
        some (.inr (st2.1, st2.2.1)) : Option (((List GTicket) × Int × Int) ⊕ (((List GTicket) × Int))))) (p_a, p_k, 0)).bind fun o8 =>
  some (o8.1, o8.2)
noncomputable def C13 : FnSpec := { ps := [.own (.slice TGTicket), .val (.int .i64)], rs := [.val (.int .i64)], fn := fun x => l_markTicketS x.1 x.2 }
noncomputable def E13 : Env := { T := [(3, (.int .i64)), (24, (.slice TGTicket)), (45, (.slice (.int .i64))), (49, TGTicket)], G := [(33, C33)], ro := [], loops := [(2, { keep := [], live := [.own 0 [] 100000 TGTicket true, .tv 1 (.int .i64), .tv 5 (.int .i64)], outs := [(.exit 0, [.own 0 [] 100000 TGTicket true, .tv 1 (.int .i64)])] })], joins := [] }
theorem E13_eq : ∀ x, afun E13 Try.f13 C13.ps C13.rs x = C13.fn x := fun x => by kernel_rfl
theorem S13 : Sound Try.prog 13 C13 := fun_sound_own (E := E13) ⟨good_T (by kernel_rfl), (good_cons S33 ⟨_, Try.func33, by kernel_rfl, by kernel_rfl⟩ good_nil), mixedOk, ins_nil⟩ Try.func13 rfl rfl E13_eq
/-- laws.heldIntS -/
noncomputable def l_heldIntS (p_a : List Int) (p_k : Int) : Option (Int) :=
  (loopE (fun (st2 : Int × Int) => (
      bif (decide (st2.2 < (p_a.length : Int))) then
        (idx p_a st2.2).bind fun e3 =>
        bif (!decide (e3 = st2.1)) then
          some (.inr (.inr (-1)))
        else
          some (.inl ((w64 (st2.1 + 1)), (w64 (st2.2 + 1))))
      else
        some (.inr (.inl st2.1)) : Option ((Int × Int) ⊕ (Int ⊕ Int)))) (p_k, 0)).bind fun o4 =>
  match o4 with
  | .inl x5 =>
    some x5
  | .inr y6 =>
    some y6
noncomputable def C34 : FnSpec := { ps := [.val (.slice (.int .i64)), .val (.int .i64)], rs := [.val (.int .i64)], fn := fun x => l_heldIntS x.1 x.2 }
noncomputable def E34 : Env := { T := [(3, (.int .i64)), (45, (.slice (.int .i64)))], G := [], ro := [], loops := [(2, { keep := [0], live := [.tv 1 (.int .i64), .tv 5 (.int .i64)], outs := [(.exit 0, [.tv 1 (.int .i64)]), (.ret, [.tv 4 (.int .i64)])] })], joins := [] }
theorem E34_eq : ∀ x, afun E34 Try.f34 C34.ps C34.rs x = C34.fn x := fun x => by kernel_rfl
theorem S34 : Sound Try.prog 34 C34 := fun_sound (E := E34) ⟨good_T (by kernel_rfl), good_nil, mixedOk, ins_nil⟩ Try.func34 rfl E34_eq
/-- laws.heldTicketS -/
noncomputable def l_heldTicketS (p_a : List GTicket) (p_k : Int) : Option (Int) :=
  (loopE (fun (st2 : Int × Int) => (
      bif (decide (st2.2 < (p_a.length : Int))) then
        (idx p_a st2.2).bind fun e3 =>
        bif (!decide (e3.1 = st2.1)) then
          some (.inr (.inr (-1)))
        else
          (idx p_a st2.2).bind fun e4 =>
          bif (!decide (e4.2.1 = (w64 (st2.1 + 1)))) then
            some (.inr (.inr (-1)))
          else
            (idx p_a st2.2).bind fun e5 =>
            (l_heldIntS e5.2.2.1 (w64 ((w64 (st2.1 + 1)) + 1))).bind fun r6 =>
            bif (decide (r6 < 0)) then
              some (.inr (.inr (-1)))
            else
              (idx p_a st2.2).bind fun e7 =>
              bif (!decide (e7.2.2.2.1 = r6)) then
                some (.inr (.inr (-1)))
              else
                some (.inl ((w64 (r6 + 1)), (w64 (st2.2 + 1))))
      else
        some (.inr (.inl st2.1)) : Option ((Int × Int) ⊕ (Int ⊕ Int)))) (p_k, 0)).bind fun o8 =>
  match o8 with
  | .inl x9 =>
    some x9
  | .inr y10 =>
    some y10
noncomputable def C14 : FnSpec := { ps := [.val (.slice TGTicket), .val (.int .i64)], rs := [.val (.int .i64)], fn := fun x => l_heldTicketS x.1 x.2 }
noncomputable def E14 : Env := { T := [(3, (.int .i64)), (24, (.slice TGTicket)), (45, (.slice (.int .i64))), (49, TGTicket)], G := [(34, C34)], ro := [], loops := [(2, { keep := [0], live := [.tv 1 (.int .i64), .tv 5 (.int .i64)], outs := [(.exit 0, [.tv 1 (.int .i64)]), (.ret, [.tv 4 (.int .i64)])] })], joins := [] }
theorem E14_eq : ∀ x, afun E14 Try.f14 C14.ps C14.rs x = C14.fn x := fun x => by kernel_rfl
theorem S14 : Sound Try.prog 14 C14 := fun_sound (E := E14) ⟨good_T (by kernel_rfl), (good_cons S34 ⟨_, Try.func34, by kernel_rfl, by kernel_rfl⟩ good_nil), mixedOk, ins_nil⟩ Try.func14 rfl E14_eq
/-- laws.FnExactGiveUp -/
noncomputable def l_FnExactGiveUp (p_aL : List GTicket) (p_aMessage : Int) : Option (Bool) :=
  (l_szTicketS p_aL 1048576).bind fun r1 =>
  bif (decide (r1 < 0)) then
    some true
  else
    (l_toTicketS p_aL).bind fun r2 =>
    (s_GiveUp r2 p_aMessage).bind fun r3 =>
    (l_toTicketS p_aL).bind fun r4 =>
    (i_GiveUp r4 p_aMessage).bind fun r5 =>
    (l_eqTicketS r5.1 r3.1).bind fun r6 =>
    (bif (!r6) then
        some true
      else
        some (r5.2 != r3.2)).bind fun c7 =>
    bif c7 then
      some false
    else
      (l_toTicketS p_aL).bind fun r8 =>
      (l_eqTicketS r4 r8).bind fun r9 =>
      bif (!r9) then
        some false
      else
        (l_markTicketS r4 1).bind fun r10 =>
        (bif (decide (r10.2 < 0)) then
            some true
          else
            (l_eqTicketS r5.1 r3.1).bind fun r11 =>
            some (!r11)).bind fun c12 =>
        (bif c12 then
            some true
          else
            some (r5.2 != r3.2)).bind fun c13 =>
        bif c13 then
          some false
        else
          (l_markTicketS r5.1 1).bind fun r14 =>
          (l_heldTicketS r14.1 1).bind fun r15 =>
          bif (decide (r15 < 0)) then
            some false
          else
            bif (!decide (r15 = r14.2)) then
              some false
            else
              (l_toTicketS p_aL).bind fun r16 =>
              (i_GiveUp r16 p_aMessage).bind fun r17 =>
              (l_eqTicketS r17.1 r3.1).bind fun r18 =>
              (bif (!r18) then
                  some true
                else
                  some (r17.2 != r3.2)).bind fun c19 =>
              bif c19 then
                some false
              else
                (l_heldTicketS r14.1 1).bind fun r20 =>
                bif (decide (r20 < 0)) then
                  some false
                else
                  bif (!decide (r20 = r14.2)) then
                    some false
                  else
                    some true
noncomputable def C3 : FnSpec := { ps := [.val (.slice TGTicket), .val (.int .i64)], rs := [.val .bool], fn := fun x => l_FnExactGiveUp x.1 x.2 }
noncomputable def E3 : Env := { T := [(4, .bool)], G := [(8, C8), (9, C9), (10, C10), (11, C11), (12, C12), (13, C13), (14, C14)], ro := [], loops := [], joins := [] }
theorem E3_eq : ∀ x, afun E3 Try.f3 C3.ps C3.rs x = C3.fn x := fun x => by kernel_rfl
theorem S3 : Sound Try.prog 3 C3 := fun_sound (E := E3) ⟨good_T (by kernel_rfl), (good_cons S8 ⟨_, Try.func8, by kernel_rfl, by kernel_rfl⟩ (good_cons S9 ⟨_, Try.func9, by kernel_rfl, by kernel_rfl⟩ (good_cons S10 ⟨_, Try.func10, by kernel_rfl, by kernel_rfl⟩ (good_cons S11 ⟨_, Try.func11, by kernel_rfl, by kernel_rfl⟩ (good_cons S12 ⟨_, Try.func12, by kernel_rfl, by kernel_rfl⟩ (good_cons S13 ⟨_, Try.func13, by kernel_rfl, by kernel_rfl⟩ (good_cons S14 ⟨_, Try.func14, by kernel_rfl, by kernel_rfl⟩ good_nil))))))), mixedOk, ins_nil⟩ Try.func3 rfl E3_eq
/-- spec.AcceptMessage -/
noncomputable def s_AcceptMessage (p_l : List GTicket) (p_message : Int) (p_parts : Int) : Option ((List GTicket) × Bool) :=
  (s_dkAsked p_l 1 p_message p_parts).bind fun r1 =>
  some (r1.1, r1.2)
noncomputable def C17 : FnSpec := { ps := [.val (.slice TGTicket), .val (.int .i64), .val (.int .i64)], rs := [.val (.slice TGTicket), .val .bool], fn := fun x => s_AcceptMessage x.1 x.2.1 x.2.2 }
noncomputable def E17 : Env := { T := [], G := [(28, C28)], ro := [], loops := [], joins := [] }
theorem E17_eq : ∀ x, afun E17 Try.f17 C17.ps C17.rs x = C17.fn x := fun x => by kernel_rfl
theorem S17 : Sound Try.prog 17 C17 := fun_sound (E := E17) ⟨good_T (by kernel_rfl), (good_cons S28 ⟨_, Try.func28, by kernel_rfl, by kernel_rfl⟩ good_nil), mixedOk, ins_nil⟩ Try.func17 rfl E17_eq
/-- impl.AcceptMessage -/
noncomputable def i_AcceptMessage (p_l : List GTicket) (p_message : Int) (p_parts : Int) : Option ((List GTicket) × Bool) :=
  (i_AreTickets p_l).bind fun r1 =>
  bif (!r1) then
    some ([], false)
  else
    (i_makeMove p_l (1, p_message, p_parts, ())).bind fun r2 =>
    some (r2.1, r2.2)
noncomputable def C18 : FnSpec := { ps := [.val (.slice TGTicket), .val (.int .i64), .val (.int .i64)], rs := [.own (.slice TGTicket), .val .bool], fn := fun x => i_AcceptMessage x.1 x.2.1 x.2.2 }
noncomputable def E18 : Env := { T := [(54, TGDeskMove)], G := [(30, C30), (31, C31)], ro := [], loops := [], joins := [] }
theorem E18_eq : ∀ x, afun E18 Try.f18 C18.ps C18.rs x = C18.fn x := fun x => by kernel_rfl
theorem S18 : Sound Try.prog 18 C18 := fun_sound (E := E18) ⟨good_T (by kernel_rfl), (good_cons S30 ⟨_, Try.func30, by kernel_rfl, by kernel_rfl⟩ (good_cons S31 ⟨_, Try.func31, by kernel_rfl, by kernel_rfl⟩ good_nil)), mixedOk, ins_nil⟩ Try.func18 rfl E18_eq
/-- laws.FnExactAcceptMessage -/
noncomputable def l_FnExactAcceptMessage (p_aL : List GTicket) (p_aMessage : Int) (p_aParts : Int) : Option (Bool) :=
  (l_szTicketS p_aL 1048576).bind fun r1 =>
  bif (decide (r1 < 0)) then
    some true
  else
    (l_toTicketS p_aL).bind fun r2 =>
    (s_AcceptMessage r2 p_aMessage p_aParts).bind fun r3 =>
    (l_toTicketS p_aL).bind fun r4 =>
    (i_AcceptMessage r4 p_aMessage p_aParts).bind fun r5 =>
    (l_eqTicketS r5.1 r3.1).bind fun r6 =>
    (bif (!r6) then
        some true
      else
        some (r5.2 != r3.2)).bind fun c7 =>
    bif c7 then
      some false
    else
      (l_toTicketS p_aL).bind fun r8 =>
      (l_eqTicketS r4 r8).bind fun r9 =>
      bif (!r9) then
        some false
      else
        (l_markTicketS r4 1).bind fun r10 =>
        (bif (decide (r10.2 < 0)) then
            some true
          else
            (l_eqTicketS r5.1 r3.1).bind fun r11 =>
            some (!r11)).bind fun c12 =>
        (bif c12 then
            some true
          else
            some (r5.2 != r3.2)).bind fun c13 =>
        bif c13 then
          some false
        else
          (l_markTicketS r5.1 1).bind fun r14 =>
          (l_heldTicketS r14.1 1).bind fun r15 =>
          bif (decide (r15 < 0)) then
            some false
          else
            bif (!decide (r15 = r14.2)) then
              some false
            else
              (l_toTicketS p_aL).bind fun r16 =>
              (i_AcceptMessage r16 p_aMessage p_aParts).bind fun r17 =>
              (l_eqTicketS r17.1 r3.1).bind fun r18 =>
              (bif (!r18) then
                  some true
                else
                  some (r17.2 != r3.2)).bind fun c19 =>
              bif c19 then
                some false
              else
                (l_heldTicketS r14.1 1).bind fun r20 =>
                bif (decide (r20 < 0)) then
                  some false
                else
                  bif (!decide (r20 = r14.2)) then
                    some false
                  else
                    some true
noncomputable def C5 : FnSpec := { ps := [.val (.slice TGTicket), .val (.int .i64), .val (.int .i64)], rs := [.val .bool], fn := fun x => l_FnExactAcceptMessage x.1 x.2.1 x.2.2 }
noncomputable def E5 : Env := { T := [(4, .bool)], G := [(8, C8), (10, C10), (12, C12), (13, C13), (14, C14), (17, C17), (18, C18)], ro := [], loops := [], joins := [] }
theorem E5_eq : ∀ x, afun E5 Try.f5 C5.ps C5.rs x = C5.fn x := fun x => by kernel_rfl
theorem S5 : Sound Try.prog 5 C5 := fun_sound (E := E5) ⟨good_T (by kernel_rfl), (good_cons S8 ⟨_, Try.func8, by kernel_rfl, by kernel_rfl⟩ (good_cons S10 ⟨_, Try.func10, by kernel_rfl, by kernel_rfl⟩ (good_cons S12 ⟨_, Try.func12, by kernel_rfl, by kernel_rfl⟩ (good_cons S13 ⟨_, Try.func13, by kernel_rfl, by kernel_rfl⟩ (good_cons S14 ⟨_, Try.func14, by kernel_rfl, by kernel_rfl⟩ (good_cons S17 ⟨_, Try.func17, by kernel_rfl, by kernel_rfl⟩ (good_cons S18 ⟨_, Try.func18, by kernel_rfl, by kernel_rfl⟩ good_nil))))))), mixedOk, ins_nil⟩ Try.func5 rfl E5_eq
/-- spec.NoteArrival -/
noncomputable def s_NoteArrival (p_l : List GTicket) (p_message : Int) (p_part : Int) : Option ((List GTicket) × Bool) :=
  (s_dkAsked p_l 2 p_message p_part).bind fun r1 =>
  some (r1.1, r1.2)
noncomputable def C19 : FnSpec := { ps := [.val (.slice TGTicket), .val (.int .i64), .val (.int .i64)], rs := [.val (.slice TGTicket), .val .bool], fn := fun x => s_NoteArrival x.1 x.2.1 x.2.2 }
noncomputable def E19 : Env := { T := [], G := [(28, C28)], ro := [], loops := [], joins := [] }
theorem E19_eq : ∀ x, afun E19 Try.f19 C19.ps C19.rs x = C19.fn x := fun x => by kernel_rfl
theorem S19 : Sound Try.prog 19 C19 := fun_sound (E := E19) ⟨good_T (by kernel_rfl), (good_cons S28 ⟨_, Try.func28, by kernel_rfl, by kernel_rfl⟩ good_nil), mixedOk, ins_nil⟩ Try.func19 rfl E19_eq
/-- impl.NoteArrival -/
noncomputable def i_NoteArrival (p_l : List GTicket) (p_message : Int) (p_part : Int) : Option ((List GTicket) × Bool) :=
  (i_AreTickets p_l).bind fun r1 =>
  bif (!r1) then
    some ([], false)
  else
    (i_makeMove p_l (2, p_message, p_part, ())).bind fun r2 =>
    some (r2.1, r2.2)
noncomputable def C20 : FnSpec := { ps := [.val (.slice TGTicket), .val (.int .i64), .val (.int .i64)], rs := [.own (.slice TGTicket), .val .bool], fn := fun x => i_NoteArrival x.1 x.2.1 x.2.2 }
noncomputable def E20 : Env := { T := [(54, TGDeskMove)], G := [(30, C30), (31, C31)], ro := [], loops := [], joins := [] }
theorem E20_eq : ∀ x, afun E20 Try.f20 C20.ps C20.rs x = C20.fn x := fun x => by kernel_rfl
theorem S20 : Sound Try.prog 20 C20 := fun_sound (E := E20) ⟨good_T (by kernel_rfl), (good_cons S30 ⟨_, Try.func30, by kernel_rfl, by kernel_rfl⟩ (good_cons S31 ⟨_, Try.func31, by kernel_rfl, by kernel_rfl⟩ good_nil)), mixedOk, ins_nil⟩ Try.func20 rfl E20_eq
/-- laws.FnExactNoteArrival -/
noncomputable def l_FnExactNoteArrival (p_aL : List GTicket) (p_aMessage : Int) (p_aPart : Int) : Option (Bool) :=
  (l_szTicketS p_aL 1048576).bind fun r1 =>
  bif (decide (r1 < 0)) then
    some true
  else
    (l_toTicketS p_aL).bind fun r2 =>
    (s_NoteArrival r2 p_aMessage p_aPart).bind fun r3 =>
    (l_toTicketS p_aL).bind fun r4 =>
    (i_NoteArrival r4 p_aMessage p_aPart).bind fun r5 =>
    (l_eqTicketS r5.1 r3.1).bind fun r6 =>
    (bif (!r6) then
        some true
      else
        some (r5.2 != r3.2)).bind fun c7 =>
    bif c7 then
      some false
    else
      (l_toTicketS p_aL).bind fun r8 =>
      (l_eqTicketS r4 r8).bind fun r9 =>
      bif (!r9) then
        some false
      else
        (l_markTicketS r4 1).bind fun r10 =>
        (bif (decide (r10.2 < 0)) then
            some true
          else
            (l_eqTicketS r5.1 r3.1).bind fun r11 =>
            some (!r11)).bind fun c12 =>
        (bif c12 then
            some true
          else
            some (r5.2 != r3.2)).bind fun c13 =>
        bif c13 then
          some false
        else
          (l_markTicketS r5.1 1).bind fun r14 =>
          (l_heldTicketS r14.1 1).bind fun r15 =>
          bif (decide (r15 < 0)) then
            some false
          else
            bif (!decide (r15 = r14.2)) then
              some false
            else
              (l_toTicketS p_aL).bind fun r16 =>
              (i_NoteArrival r16 p_aMessage p_aPart).bind fun r17 =>
              (l_eqTicketS r17.1 r3.1).bind fun r18 =>
              (bif (!r18) then
                  some true
                else
                  some (r17.2 != r3.2)).bind fun c19 =>
              bif c19 then
                some false
              else
                (l_heldTicketS r14.1 1).bind fun r20 =>
                bif (decide (r20 < 0)) then
                  some false
                else
                  bif (!decide (r20 = r14.2)) then
                    some false
                  else
                    some true
noncomputable def C6 : FnSpec := { ps := [.val (.slice TGTicket), .val (.int .i64), .val (.int .i64)], rs := [.val .bool], fn := fun x => l_FnExactNoteArrival x.1 x.2.1 x.2.2 }
noncomputable def E6 : Env := { T := [(4, .bool)], G := [(8, C8), (10, C10), (12, C12), (13, C13), (14, C14), (19, C19), (20, C20)], ro := [], loops := [], joins := [] }
theorem E6_eq : ∀ x, afun E6 Try.f6 C6.ps C6.rs x = C6.fn x := fun x => by kernel_rfl
theorem S6 : Sound Try.prog 6 C6 := fun_sound (E := E6) ⟨good_T (by kernel_rfl), (good_cons S8 ⟨_, Try.func8, by kernel_rfl, by kernel_rfl⟩ (good_cons S10 ⟨_, Try.func10, by kernel_rfl, by kernel_rfl⟩ (good_cons S12 ⟨_, Try.func12, by kernel_rfl, by kernel_rfl⟩ (good_cons S13 ⟨_, Try.func13, by kernel_rfl, by kernel_rfl⟩ (good_cons S14 ⟨_, Try.func14, by kernel_rfl, by kernel_rfl⟩ (good_cons S19 ⟨_, Try.func19, by kernel_rfl, by kernel_rfl⟩ (good_cons S20 ⟨_, Try.func20, by kernel_rfl, by kernel_rfl⟩ good_nil))))))), mixedOk, ins_nil⟩ Try.func6 rfl E6_eq
/-- laws.szDeskMoveS -/
noncomputable def l_szDeskMoveS (p_a : List GDeskMove) (p_left : Int) : Option (Int) :=
  bif (decide ((w64 (p_left - (p_a.length : Int))) < 0)) then
    some (-1)
  else
    some (w64 (p_left - (p_a.length : Int)))
noncomputable def C21 : FnSpec := { ps := [.val (.slice TGDeskMove), .val (.int .i64)], rs := [.val (.int .i64)], fn := fun x => l_szDeskMoveS x.1 x.2 }
noncomputable def E21 : Env := { T := [(35, (.slice TGDeskMove))], G := [], ro := [], loops := [], joins := [] }
theorem E21_eq : ∀ x, afun E21 Try.f21 C21.ps C21.rs x = C21.fn x := fun x => by kernel_rfl
theorem S21 : Sound Try.prog 21 C21 := fun_sound (E := E21) ⟨good_T (by kernel_rfl), good_nil, mixedOk, ins_nil⟩ Try.func21 rfl E21_eq
/-- spec.RunDesk -/
noncomputable def s_RunDesk (p_l : List GTicket) (p_moves : List GDeskMove) : Option ((List GTicket) × Int × Bool) :=
  (s_dkGood p_l).bind fun r1 =>
  (bif (!r1) then
      some true
    else
      some (decide (60 < (p_moves.length : Int)))).bind fun c2 =>
  bif c2 then
    some ([], 0, false)
  else
    (s_dkOwn p_l).bind fun r3 =>
    (loopE (fun (st6 : (List GTicket) × Int) => (
        bif (decide (st6.2 < (p_moves.length : Int))) then
          (idx p_moves st6.2).bind fun e7 =>
          (s_dkStep st6.1 e7).bind fun r8 =>
          bif (!r8.2) then
            some (.inr (.inr (st6.1, st6.2, true)))
          else
            some (.inl (r8.1, (w64 (st6.2 + 1))))
        else
          some (.inr (.inl st6.1)) : Option (((List GTicket) × Int) ⊕ ((List GTicket) ⊕ ((List GTicket) × Int × Bool))))) (r3, 0)).bind fun o9 =>
    match o9 with
    | .inl x10 =>
      some (x10, (p_moves.length : Int), true)
    | .inr y11 =>
      some (y11.1, y11.2.1, y11.2.2)
noncomputable def C22 : FnSpec := { ps := [.val (.slice TGTicket), .val (.slice TGDeskMove)], rs := [.val (.slice TGTicket), .val (.int .i64), .val .bool], fn := fun x => s_RunDesk x.1 x.2 }
noncomputable def E22 : Env := { T := [(39, (.slice TGDeskMove)), (54, TGDeskMove)], G := [(35, C35), (36, C36), (40, C40)], ro := [], loops := [(5, { keep := [1, 22, 23], live := [.tv 7 (.slice TGTicket), .tv 24 (.int .i64)], outs := [(.exit 0, [.tv 7 (.slice TGTicket)]), (.ret, [.tv 4 (.slice TGTicket), .tv 5 (.int .i64), .tv 6 .bool])] })], joins := [] }
theorem E22_eq : ∀ x, afun E22 Try.f22 C22.ps C22.rs x = C22.fn x := fun x => by kernel_rfl
theorem S22 : Sound Try.prog 22 C22 := fun_sound (E := E22) ⟨good_T (by kernel_rfl), (good_cons S35 ⟨_, Try.func35, by kernel_rfl, by kernel_rfl⟩ (good_cons S36 ⟨_, Try.func36, by kernel_rfl, by kernel_rfl⟩ (good_cons S40 ⟨_, Try.func40, by kernel_rfl, by kernel_rfl⟩ good_nil))), mixedOk, ins_nil⟩ Try.func22 rfl E22_eq
/-- laws.toDeskMove -/
noncomputable def l_toDeskMove (p_a : GDeskMove) : Option (GDeskMove) :=
  some p_a
noncomputable def C41 : FnSpec := { ps := [.val TGDeskMove], rs := [.val TGDeskMove], fn := fun x => l_toDeskMove x }
noncomputable def E41 : Env := { T := [(3, (.int .i64)), (54, TGDeskMove), (61, TGDeskMove)], G := [], ro := [1], loops := [], joins := [] }
theorem E41_eq : ∀ x, afun E41 Try.f41 C41.ps C41.rs x = C41.fn x := fun x => by kernel_rfl
theorem S41 : Sound Try.prog 41 C41 := fun_sound (E := E41) ⟨good_T (by kernel_rfl), good_nil, mixedOk, ins_nil⟩ Try.func41 rfl E41_eq
/-- laws.toDeskMoveS -/
noncomputable def l_toDeskMoveS (p_a : List GDeskMove) : Option ((List GDeskMove)) :=
  bif decide (0 ≤ (p_a.length : Int)) && decide ((p_a.length : Int) ≤ (p_a.length : Int)) && decide ((p_a.length : Int) ≤ lim) then
    (loopE (fun (st2 : (List GDeskMove) × Int) => (
        bif (decide (st2.2 < (p_a.length : Int))) then
          (idx p_a st2.2).bind fun e3 =>
          (l_toDeskMove e3).bind fun r4 =>
          bif decide (0 ≤ st2.2) && decide (st2.2 < (st2.1.length : Int)) then
            some (.inl ((st2.1.set (Int.toNat st2.2) r4), (w64 (st2.2 + 1))))
          else
            none
        else
          some (.inr st2.1) : Option (((List GDeskMove) × Int) ⊕ ((List GDeskMove))))) ((List.replicate (Int.toNat (p_a.length : Int)) ((0, (0, (0, ()))) : GDeskMove)), 0)).bind fun o5 =>
    some o5
  else
    none
noncomputable def C23 : FnSpec := { ps := [.val (.slice TGDeskMove)], rs := [.own (.slice TGDeskMove)], fn := fun x => l_toDeskMoveS x }
noncomputable def E23 : Env := { T := [(35, (.slice TGDeskMove)), (39, (.slice TGDeskMove)), (54, TGDeskMove), (61, TGDeskMove)], G := [(41, C41)], ro := [], loops := [(3, { keep := [0], live := [.own 3 [] 112 TGDeskMove true, .tv 4 (.int .i64)], outs := [(.exit 0, [.own 3 [] 112 TGDeskMove true])] })], joins := [] }
theorem E23_eq : ∀ x, afun E23 Try.f23 C23.ps C23.rs x = C23.fn x := fun x => by kernel_rfl
theorem S23 : Sound Try.prog 23 C23 := fun_sound (E := E23) ⟨good_T (by kernel_rfl), (good_cons S41 ⟨_, Try.func41, by kernel_rfl, by kernel_rfl⟩ good_nil), mixedOk, ins_nil⟩ Try.func23 rfl E23_eq
/-- impl.RunDesk -/
noncomputable def i_RunDesk (p_l : List GTicket) (p_moves : List GDeskMove) : Option ((List GTicket) × Int × Bool) :=
  (i_AreTickets p_l).bind fun r1 =>
  (bif (!r1) then
      some true
    else
      some (decide (60 < (p_moves.length : Int)))).bind fun c2 =>
  bif c2 then
    some ([], 0, false)
  else
    (i_cloneTickets p_l).bind fun r3 =>
    (loopE (fun (st5 : (List GTicket) × Int) => (
        bif (decide (st5.2 < (p_moves.length : Int))) then
          (idx p_moves st5.2).bind fun e6 =>
          (i_makeMove st5.1 e6).bind fun r7 =>
          bif (!r7.2) then
            some (.inr (.inr (st5.1, st5.2, true)))
          else
            some (.inl (r7.1, (w64 (st5.2 + 1))))
        else
          some (.inr (.inl st5.1)) : Option (((List GTicket) × Int) ⊕ ((List GTicket) ⊕ ((List GTicket) × Int × Bool))))) (r3, 0)).bind fun o8 =>
    match o8 with
    | .inl x9 =>
      some (x9, (p_moves.length : Int), true)
    | .inr y10 =>
      some (y10.1, y10.2.1, y10.2.2)
noncomputable def C24 : FnSpec := { ps := [.val (.slice TGTicket), .val (.slice TGDeskMove)], rs := [.own (.slice TGTicket), .val (.int .i64), .val .bool], fn := fun x => i_RunDesk x.1 x.2 }
noncomputable def E24 : Env := { T := [(39, (.slice TGDeskMove)), (54, TGDeskMove)], G := [(30, C30), (31, C31), (38, C38)], ro := [], loops := [(5, { keep := [1, 21, 22], live := [.own 0 [] 320 TGTicket true, .tv 23 (.int .i64)], outs := [(.exit 0, [.own 0 [] 320 TGTicket true]), (.ret, [.own 4 [] 320 TGTicket true, .tv 5 (.int .i64), .tv 6 .bool])] })], joins := [] }
theorem E24_eq : ∀ x, afun E24 Try.f24 C24.ps C24.rs x = C24.fn x := fun x => by kernel_rfl
theorem S24 : Sound Try.prog 24 C24 := fun_sound (E := E24) ⟨good_T (by kernel_rfl), (good_cons S30 ⟨_, Try.func30, by kernel_rfl, by kernel_rfl⟩ (good_cons S31 ⟨_, Try.func31, by kernel_rfl, by kernel_rfl⟩ (good_cons S38 ⟨_, Try.func38, by kernel_rfl, by kernel_rfl⟩ good_nil))), mixedOk, ins_nil⟩ Try.func24 rfl E24_eq
/-- laws.eqDeskMove -/
noncomputable def l_eqDeskMove (p_a : GDeskMove) (p_b : GDeskMove) : Option (Bool) :=
  bif (!decide (p_a.1 = p_b.1)) then
    some false
  else
    bif (!decide (p_a.2.1 = p_b.2.1)) then
      some false
    else
      bif (!decide (p_a.2.2.1 = p_b.2.2.1)) then
        some false
      else
        some true
noncomputable def C42 : FnSpec := { ps := [.val TGDeskMove, .val TGDeskMove], rs := [.val .bool], fn := fun x => l_eqDeskMove x.1 x.2 }
noncomputable def E42 : Env := { T := [(3, (.int .i64)), (54, TGDeskMove)], G := [], ro := [2, 3], loops := [], joins := [] }
theorem E42_eq : ∀ x, afun E42 Try.f42 C42.ps C42.rs x = C42.fn x := fun x => by kernel_rfl
theorem S42 : Sound Try.prog 42 C42 := fun_sound (E := E42) ⟨good_T (by kernel_rfl), good_nil, mixedOk, ins_nil⟩ Try.func42 rfl E42_eq
/-- laws.eqDeskMoveS -/
noncomputable def l_eqDeskMoveS (p_a : List GDeskMove) (p_b : List GDeskMove) : Option (Bool) :=
  bif (!decide ((p_a.length : Int) = (p_b.length : Int))) then
    some false
  else
    (loopE (fun (st2 : Int) => (
        bif (decide (st2 < (p_a.length : Int))) then
          (idx p_a st2).bind fun e3 =>
          (idx p_b st2).bind fun e4 =>
          (l_eqDeskMove e3 e4).bind fun r5 =>
          bif (!r5) then
            some (.inr (.inr false))
          else
            some (.inl (w64 (st2 + 1)))
        else
          some (.inr (.inl ())) : Option ((Int) ⊕ (Unit ⊕ Bool)))) 0).bind fun o6 =>
    match o6 with
    | .inl _ =>
      some true
    | .inr y8 =>
      some y8
noncomputable def C25 : FnSpec := { ps := [.val (.slice TGDeskMove), .val (.slice TGDeskMove)], rs := [.val .bool], fn := fun x => l_eqDeskMoveS x.1 x.2 }
noncomputable def E25 : Env := { T := [(39, (.slice TGDeskMove)), (54, TGDeskMove)], G := [(42, C42)], ro := [], loops := [(4, { keep := [0, 1], live := [.tv 5 (.int .i64)], outs := [(.exit 0, []), (.ret, [.tv 4 .bool])] })], joins := [] }
theorem E25_eq : ∀ x, afun E25 Try.f25 C25.ps C25.rs x = C25.fn x := fun x => by kernel_rfl
theorem S25 : Sound Try.prog 25 C25 := fun_sound (E := E25) ⟨good_T (by kernel_rfl), (good_cons S42 ⟨_, Try.func42, by kernel_rfl, by kernel_rfl⟩ good_nil), mixedOk, ins_nil⟩ Try.func25 rfl E25_eq
/-- laws.markDeskMoveS -/
noncomputable def l_markDeskMoveS (p_a : List GDeskMove) (p_k : Int) : Option ((List GDeskMove) × Int) :=
  (loopE (fun (st2 : (List GDeskMove) × Int × Int) => (
      bif (decide (st2.2.2 < (st2.1.length : Int))) then
        bif decide (0 ≤ st2.2.2) && decide (st2.2.2 < (st2.1.length : Int)) then
          (st2.1[(Int.toNat st2.2.2)]?).bind fun e3 =>
          bif decide (0 ≤ st2.2.2) && decide (st2.2.2 < ((st2.1.set (Int.toNat st2.2.2) (st2.2.1, e3.2)).length : Int)) then
            ((st2.1.set (Int.toNat st2.2.2) (st2.2.1, e3.2))[(Int.toNat st2.2.2)]?).bind fun e4 =>
            bif decide (0 ≤ st2.2.2) && decide (st2.2.2 < (((st2.1.set (Int.toNat st2.2.2) (st2.2.1, e3.2)).set (Int.toNat st2.2.2) (e4.1, (w64 (st2.2.1 + 1)), e4.2.2)).length : Int)) then
              (((st2.1.set (Int.toNat st2.2.2) (st2.2.1, e3.2)).set (Int.toNat st2.2.2) (e4.1, (w64 (st2.2.1 + 1)), e4.2.2))[(Int.toNat st2.2.2)]?).bind fun e5 =>
              some (.inl ((((st2.1.set (Int.toNat st2.2.2) (st2.2.1, e3.2)).set (Int.toNat st2.2.2) (e4.1, (w64 (st2.2.1 + 1)), e4.2.2)).set (Int.toNat st2.2.2) (e5.1, e5.2.1, (w64 ((w64 (st2.2.1 + 1)) + 1)), ())), (w64 ((w64 ((w64 (st2.2.1 + 1)) + 1)) + 1)), (w64 (st2.2.2 + 1))))
            else
              none
          else
            none
        else
          none
      else
        some (.inr (st2.1, st2.2.1)) : Option (((List GDeskMove) × Int × Int) ⊕ (((List GDeskMove) × Int))))) (p_a, p_k, 0)).bind fun o6 =>
  some (o6.1, o6.2)
noncomputable def C26 : FnSpec := { ps := [.own (.slice TGDeskMove), .val (.int .i64)], rs := [.val (.int .i64)], fn := fun x => l_markDeskMoveS x.1 x.2 }
noncomputable def E26 : Env := { T := [(3, (.int .i64)), (39, (.slice TGDeskMove)), (54, TGDeskMove)], G := [], ro := [], loops := [(2, { keep := [], live := [.own 0 [] 100000 TGDeskMove true, .tv 1 (.int .i64), .tv 5 (.int .i64)], outs := [(.exit 0, [.own 0 [] 100000 TGDeskMove true, .tv 1 (.int .i64)])] })], joins := [] }
theorem E26_eq : ∀ x, afun E26 Try.f26 C26.ps C26.rs x = C26.fn x := fun x => by kernel_rfl
theorem S26 : Sound Try.prog 26 C26 := fun_sound_own (E := E26) ⟨good_T (by kernel_rfl), good_nil, mixedOk, ins_nil⟩ Try.func26 rfl rfl E26_eq
/-- laws.FnExactRunDesk -/
noncomputable def l_FnExactRunDesk (p_aL : List GTicket) (p_aMoves : List GDeskMove) : Option (Bool) :=
  (l_szTicketS p_aL 1048576).bind fun r1 =>
  bif (decide (r1 < 0)) then
    some true
  else
    (l_szDeskMoveS p_aMoves r1).bind fun r2 =>
    bif (decide (r2 < 0)) then
      some true
    else
      (l_toTicketS p_aL).bind fun r3 =>
      (l_toDeskMoveS p_aMoves).bind fun r4 =>
      (s_RunDesk r3 r4).bind fun r5 =>
      (l_toTicketS p_aL).bind fun r6 =>
      (l_toDeskMoveS p_aMoves).bind fun r7 =>
      (i_RunDesk r6 r7).bind fun r8 =>
      (l_eqTicketS r8.1 r5.1).bind fun r9 =>
      (bif (!r9) then
          some true
        else
          some (!decide (r8.2.1 = r5.2.1))).bind fun c10 =>
      (bif c10 then
          some true
        else
          some (r8.2.2 != r5.2.2)).bind fun c11 =>
      bif c11 then
        some false
      else
        (l_toTicketS p_aL).bind fun r12 =>
        (l_eqTicketS r6 r12).bind fun r13 =>
        bif (!r13) then
          some false
        else
          (l_toDeskMoveS p_aMoves).bind fun r14 =>
          (l_eqDeskMoveS r7 r14).bind fun r15 =>
          bif (!r15) then
            some false
          else
            (l_markTicketS r6 1).bind fun r16 =>
            (l_markDeskMoveS r7 r16.2).bind fun r17 =>
            (bif (decide (r17.2 < 0)) then
                some true
              else
                (l_eqTicketS r8.1 r5.1).bind fun r18 =>
                some (!r18)).bind fun c19 =>
            (bif c19 then
                some true
              else
                some (!decide (r8.2.1 = r5.2.1))).bind fun c20 =>
            (bif c20 then
                some true
              else
                some (r8.2.2 != r5.2.2)).bind fun c21 =>
            bif c21 then
              some false
            else
              (l_markTicketS r8.1 1).bind fun r22 =>
              (l_heldTicketS r22.1 1).bind fun r23 =>
              bif (decide (r23 < 0)) then
                some false
              else
                bif (!decide (r23 = r22.2)) then
                  some false
                else
                  (l_toTicketS p_aL).bind fun r24 =>
                  (l_toDeskMoveS p_aMoves).bind fun r25 =>
                  (i_RunDesk r24 r25).bind fun r26 =>
                  (l_eqTicketS r26.1 r5.1).bind fun r27 =>
                  (bif (!r27) then
                      some true
                    else
                      some (!decide (r26.2.1 = r5.2.1))).bind fun c28 =>
                  (bif c28 then
                      some true
                    else
                      some (r26.2.2 != r5.2.2)).bind fun c29 =>
                  bif c29 then
                    some false
                  else
                    (l_heldTicketS r22.1 1).bind fun r30 =>
                    bif (decide (r30 < 0)) then
                      some false
                    else
                      bif (!decide (r30 = r22.2)) then
                        some false
                      else
                        some true
noncomputable def C7 : FnSpec := { ps := [.val (.slice TGTicket), .val (.slice TGDeskMove)], rs := [.val .bool], fn := fun x => l_FnExactRunDesk x.1 x.2 }
noncomputable def E7 : Env := { T := [(4, .bool)], G := [(8, C8), (10, C10), (12, C12), (13, C13), (14, C14), (21, C21), (22, C22), (23, C23), (24, C24), (25, C25), (26, C26)], ro := [], loops := [], joins := [] }
theorem E7_eq : ∀ x, afun E7 Try.f7 C7.ps C7.rs x = C7.fn x := fun x => by kernel_rfl
theorem S7 : Sound Try.prog 7 C7 := fun_sound (E := E7) ⟨good_T (by kernel_rfl), (good_cons S8 ⟨_, Try.func8, by kernel_rfl, by kernel_rfl⟩ (good_cons S10 ⟨_, Try.func10, by kernel_rfl, by kernel_rfl⟩ (good_cons S12 ⟨_, Try.func12, by kernel_rfl, by kernel_rfl⟩ (good_cons S13 ⟨_, Try.func13, by kernel_rfl, by kernel_rfl⟩ (good_cons S14 ⟨_, Try.func14, by kernel_rfl, by kernel_rfl⟩ (good_cons S21 ⟨_, Try.func21, by kernel_rfl, by kernel_rfl⟩ (good_cons S22 ⟨_, Try.func22, by kernel_rfl, by kernel_rfl⟩ (good_cons S23 ⟨_, Try.func23, by kernel_rfl, by kernel_rfl⟩ (good_cons S24 ⟨_, Try.func24, by kernel_rfl, by kernel_rfl⟩ (good_cons S25 ⟨_, Try.func25, by kernel_rfl, by kernel_rfl⟩ (good_cons S26 ⟨_, Try.func26, by kernel_rfl, by kernel_rfl⟩ good_nil))))))))))), mixedOk, ins_nil⟩ Try.func7 rfl E7_eq
end Go.Proofs.Yteocijadidgagaa.Sh
