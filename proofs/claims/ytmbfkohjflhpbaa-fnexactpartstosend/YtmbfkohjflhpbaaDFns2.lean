/-
  The functions that the statement reaches, as plain functions; each with its contract.
-/
import Derived.Test.YtmbfkohjflhpbaaXLift
import Derived.Test.YtmbfkohjflhpbaaChecked
import Derived.KernelRfl
namespace Go.Proofs.Ytmbfkohjflhpbaa.Sh
open Go Go.Ab Go.Proofs
set_option maxRecDepth 100000
abbrev TGerrorAddressString : Ty := .pair .str (.pair (.int .u64) .unit)
abbrev GerrorAddressString : Type := Bytes × Int × Unit
abbrev TGDeskMove : Ty := .pair (.int .i64) (.pair (.int .i64) (.pair (.int .i64) .unit))
abbrev GDeskMove : Type := Int × Int × Int × Unit
abbrev TGboundsError : Ty := .pair (.int .i64) (.pair (.int .i64) (.pair .bool (.pair (.int .u8) .unit)))
abbrev GboundsError : Type := Int × Int × Bool × Int × Unit
abbrev TGTicket : Ty := .pair (.int .i64) (.pair (.int .i64) (.pair (.slice (.int .i64)) (.pair (.int .i64) .unit)))
abbrev GTicket : Type := Int × Int × (List Int) × Int × Unit
theorem mixedOk : Try.prog.follows .mixedOrders = true := by kernel_rfl
/-- laws.szIntS -/
noncomputable def l_szIntS (p_a : List Int) (p_left : Int) : Option (Int) :=
  bif (decide ((w64 (p_left - (p_a.length : Int))) < 0)) then
    some (-1)
  else
    some (w64 (p_left - (p_a.length : Int)))
noncomputable def C57 : FnSpec := { ps := [.val (.slice (.int .i64)), .val (.int .i64)], rs := [.val (.int .i64)], fn := fun x => l_szIntS x.1 x.2 }
noncomputable def E57 : Env := { T := [(52, (.slice (.int .i64)))], G := [], ro := [], loops := [], joins := [] }
theorem E57_eq : ∀ x, afun E57 Try.f57 C57.ps C57.rs x = C57.fn x := fun x => by kernel_rfl
theorem S57 : Sound Try.prog 57 C57 := fun_sound (E := E57) ⟨good_T (by kernel_rfl), good_nil, mixedOk⟩ Try.func57 rfl E57_eq
/-- laws.szTicket -/
noncomputable def l_szTicket (p_a : GTicket) (p_left : Int) : Option (Int) :=
  (l_szIntS p_a.2.2.1 p_left).bind fun r1 =>
  bif (decide (r1 < 0)) then
    some (-1)
  else
    some r1
noncomputable def C36 : FnSpec := { ps := [.val TGTicket, .val (.int .i64)], rs := [.val (.int .i64)], fn := fun x => l_szTicket x.1 x.2 }
noncomputable def E36 : Env := { T := [(52, (.slice (.int .i64))), (54, TGTicket)], G := [(57, C57)], ro := [2], loops := [], joins := [] }
theorem E36_eq : ∀ x, afun E36 Try.f36 C36.ps C36.rs x = C36.fn x := fun x => by kernel_rfl
theorem S36 : Sound Try.prog 36 C36 := fun_sound (E := E36) ⟨good_T (by kernel_rfl), (good_cons S57 ⟨_, Try.func57, by kernel_rfl, by kernel_rfl⟩ good_nil), mixedOk⟩ Try.func36 rfl E36_eq
/-- laws.szTicketS -/
noncomputable def l_szTicketS (p_a : List GTicket) (p_left : Int) : Option (Int) :=
  bif (decide ((w64 (p_left - (p_a.length : Int))) < 0)) then
    some (-1)
  else
    (loopE (fun (st2 : Int × Int) => (
        bif (decide (st2.2 < (p_a.length : Int))) then
          (idx p_a st2.2).bind fun e3 =>
          (l_szTicket e3 st2.1).bind fun r4 =>
          bif (decide (r4 < 0)) then
            some (.inr (.inr (-1)))
          else
            some (.inl (r4, (w64 (st2.2 + 1))))
        else
          some (.inr (.inl st2.1)) : Option ((Int × Int) ⊕ (Int ⊕ Int)))) ((w64 (p_left - (p_a.length : Int))), 0)).bind fun o5 =>
    match o5 with
    | .inl x6 =>
      some x6
    | .inr y7 =>
      some y7
noncomputable def C10 : FnSpec := { ps := [.val (.slice TGTicket), .val (.int .i64)], rs := [.val (.int .i64)], fn := fun x => l_szTicketS x.1 x.2 }
noncomputable def E10 : Env := { T := [(22, (.slice TGTicket)), (54, TGTicket)], G := [(36, C36)], ro := [], loops := [(5, { keep := [0], live := [.tv 1 (.int .i64), .tv 5 (.int .i64)], outs := [(.exit 0, [.tv 1 (.int .i64)]), (.ret, [.tv 4 (.int .i64)])] })], joins := [] }
theorem E10_eq : ∀ x, afun E10 Try.f10 C10.ps C10.rs x = C10.fn x := fun x => by kernel_rfl
theorem S10 : Sound Try.prog 10 C10 := fun_sound (E := E10) ⟨good_T (by kernel_rfl), (good_cons S36 ⟨_, Try.func36, by kernel_rfl, by kernel_rfl⟩ good_nil), mixedOk⟩ Try.func10 rfl E10_eq
/-- spec.dkFind -/
noncomputable def s_dkFind (p_l : List GTicket) (p_message : Int) : Option (Int) :=
  (loopE (fun (st2 : Int) => (
      bif (decide (st2 < (p_l.length : Int))) then
        (idx p_l st2).bind fun e3 =>
        bif (decide (e3.1 = p_message)) then
          some (.inr (.inr st2))
        else
          some (.inl (w64 (st2 + 1)))
      else
        some (.inr (.inl ())) : Option ((Int) ⊕ (Unit ⊕ Int)))) 0).bind fun o4 =>
  match o4 with
  | .inl _ =>
    some (-1)
  | .inr y6 =>
    some y6
noncomputable def C37 : FnSpec := { ps := [.val (.slice TGTicket), .val (.int .i64)], rs := [.val (.int .i64)], fn := fun x => s_dkFind x.1 x.2 }
noncomputable def E37 : Env := { T := [(3, (.int .i64)), (26, (.slice TGTicket)), (56, TGTicket)], G := [], ro := [], loops := [(2, { keep := [1, 7, 8], live := [.tv 9 (.int .i64)], outs := [(.exit 0, []), (.ret, [.tv 4 (.int .i64)])] })], joins := [] }
theorem E37_eq : ∀ x, afun E37 Try.f37 C37.ps C37.rs x = C37.fn x := fun x => by kernel_rfl
theorem S37 : Sound Try.prog 37 C37 := fun_sound (E := E37) ⟨good_T (by kernel_rfl), good_nil, mixedOk⟩ Try.func37 rfl E37_eq
/-- spec.l1In -/
noncomputable def s_l1In (p_n : Int) (p_lo : Int) (p_hi : Int) : Option (Bool) :=
  (bif (decide (p_lo ≤ p_n)) then
      some (decide (p_n ≤ p_hi))
    else
      some false).bind fun c1 =>
  some c1
noncomputable def C72 : FnSpec := { ps := [.val (.int .i64), .val (.int .i64), .val (.int .i64)], rs := [.val .bool], fn := fun x => s_l1In x.1 x.2.1 x.2.2 }
noncomputable def E72 : Env := { T := [], G := [], ro := [], loops := [], joins := [] }
theorem E72_eq : ∀ x, afun E72 Try.f72 C72.ps C72.rs x = C72.fn x := fun x => by kernel_rfl
theorem S72 : Sound Try.prog 72 C72 := fun_sound (E := E72) ⟨good_T (by kernel_rfl), good_nil, mixedOk⟩ Try.func72 rfl E72_eq
/-- spec.l1Rising -/
noncomputable def s_l1Rising (p_l : List Int) (p_lo : Int) (p_hi : Int) : Option (Bool) :=
  (loopE (fun (st2 : Int) => (
      bif (decide (st2 < (p_l.length : Int))) then
        (idx p_l st2).bind fun e3 =>
        (s_l1In e3 p_lo p_hi).bind fun r4 =>
        (bif (!r4) then
            some true
          else
            (bif (decide (0 < st2)) then
                (idx p_l (w64 (st2 - 1))).bind fun e5 =>
                some (decide (e3 ≤ e5))
              else
                some false).bind fun c6 =>
            some c6).bind fun c7 =>
        bif c7 then
          some (.inr (.inr false))
        else
          some (.inl (w64 (st2 + 1)))
      else
        some (.inr (.inl ())) : Option ((Int) ⊕ (Unit ⊕ Bool)))) 0).bind fun o8 =>
  match o8 with
  | .inl _ =>
    some true
  | .inr y10 =>
    some y10
noncomputable def C74 : FnSpec := { ps := [.val (.slice (.int .i64)), .val (.int .i64), .val (.int .i64)], rs := [.val .bool], fn := fun x => s_l1Rising x.1 x.2.1 x.2.2 }
noncomputable def E74 : Env := { T := [(3, (.int .i64)), (52, (.slice (.int .i64)))], G := [(72, C72)], ro := [], loops := [(2, { keep := [0, 1, 2, 9, 10], live := [.tv 11 (.int .i64)], outs := [(.exit 0, []), (.ret, [.tv 6 .bool])] })], joins := [] }
theorem E74_eq : ∀ x, afun E74 Try.f74 C74.ps C74.rs x = C74.fn x := fun x => by kernel_rfl
theorem S74 : Sound Try.prog 74 C74 := fun_sound (E := E74) ⟨good_T (by kernel_rfl), (good_cons S72 ⟨_, Try.func72, by kernel_rfl, by kernel_rfl⟩ good_nil), mixedOk⟩ Try.func74 rfl E74_eq
/-- spec.dkTicket -/
noncomputable def s_dkTicket (p_x : GTicket) : Option (Bool) :=
  (s_l1In p_x.1 1 999).bind fun r1 =>
  (bif r1 then
      (s_l1In p_x.2.1 1 9).bind fun r2 =>
      some r2
    else
      some false).bind fun c3 =>
  (bif c3 then
      (s_l1Rising p_x.2.2.1 0 (w64 (p_x.2.1 - 1))).bind fun r4 =>
      some r4
    else
      some false).bind fun c5 =>
  (bif c5 then
      (s_l1In p_x.2.2.2.1 0 2).bind fun r6 =>
      some r6
    else
      some false).bind fun c7 =>
  (bif c7 then
      some ((decide ((p_x.2.2.1.length : Int) = p_x.2.1)) == (decide (p_x.2.2.2.1 = 1)))
    else
      some false).bind fun c8 =>
  some c8
noncomputable def C58 : FnSpec := { ps := [.val TGTicket], rs := [.val .bool], fn := fun x => s_dkTicket x }
noncomputable def E58 : Env := { T := [(3, (.int .i64)), (4, .bool), (52, (.slice (.int .i64))), (56, TGTicket)], G := [(72, C72), (74, C74)], ro := [1], loops := [], joins := [] }
theorem E58_eq : ∀ x, afun E58 Try.f58 C58.ps C58.rs x = C58.fn x := fun x => by kernel_rfl
theorem S58 : Sound Try.prog 58 C58 := fun_sound (E := E58) ⟨good_T (by kernel_rfl), (good_cons S72 ⟨_, Try.func72, by kernel_rfl, by kernel_rfl⟩ (good_cons S74 ⟨_, Try.func74, by kernel_rfl, by kernel_rfl⟩ good_nil)), mixedOk⟩ Try.func58 rfl E58_eq
/-- spec.dkGood -/
noncomputable def s_dkGood (p_l : List GTicket) : Option (Bool) :=
  (loopE (fun (st2 : Int) => (
      bif (decide (st2 < (p_l.length : Int))) then
        (idx p_l st2).bind fun e3 =>
        (s_dkTicket e3).bind fun r4 =>
        (bif (!r4) then
            some true
          else
            (bif (decide (0 < st2)) then
                (idx p_l (w64 (st2 - 1))).bind fun e5 =>
                some (decide (e3.1 ≤ e5.1))
              else
                some false).bind fun c6 =>
            some c6).bind fun c7 =>
        bif c7 then
          some (.inr (.inr false))
        else
          some (.inl (w64 (st2 + 1)))
      else
        some (.inr (.inl ())) : Option ((Int) ⊕ (Unit ⊕ Bool)))) 0).bind fun o8 =>
  match o8 with
  | .inl _ =>
    some (decide ((p_l.length : Int) ≤ 20))
  | .inr y10 =>
    some y10
noncomputable def C38 : FnSpec := { ps := [.val (.slice TGTicket)], rs := [.val .bool], fn := fun x => s_dkGood x }
noncomputable def E38 : Env := { T := [(3, (.int .i64)), (26, (.slice TGTicket)), (56, TGTicket)], G := [(58, C58)], ro := [], loops := [(2, { keep := [0, 5, 6], live := [.tv 7 (.int .i64)], outs := [(.exit 0, []), (.ret, [.tv 2 .bool])] })], joins := [] }
theorem E38_eq : ∀ x, afun E38 Try.f38 C38.ps C38.rs x = C38.fn x := fun x => by kernel_rfl
theorem S38 : Sound Try.prog 38 C38 := fun_sound (E := E38) ⟨good_T (by kernel_rfl), (good_cons S58 ⟨_, Try.func58, by kernel_rfl, by kernel_rfl⟩ good_nil), mixedOk⟩ Try.func38 rfl E38_eq
/-- spec.StandingOf -/
noncomputable def s_StandingOf (p_l : List GTicket) (p_message : Int) : Option (Int × Int × Bool) :=
  (s_dkFind p_l p_message).bind fun r1 =>
  (s_dkGood p_l).bind fun r2 =>
  (bif (!r2) then
      some true
    else
      some (decide (r1 < 0))).bind fun c3 =>
  bif c3 then
    some (0, 0, false)
  else
    (idx p_l r1).bind fun e4 =>
    (idx p_l r1).bind fun e5 =>
    (idx p_l r1).bind fun e6 =>
    some (e4.2.2.2.1, (w64 (e5.2.1 - (e6.2.2.1.length : Int))), true)
noncomputable def C11 : FnSpec := { ps := [.val (.slice TGTicket), .val (.int .i64)], rs := [.val (.int .i64), .val (.int .i64), .val .bool], fn := fun x => s_StandingOf x.1 x.2 }
noncomputable def E11 : Env := { T := [(3, (.int .i64)), (26, (.slice TGTicket)), (52, (.slice (.int .i64))), (56, TGTicket)], G := [(37, C37), (38, C38)], ro := [], loops := [], joins := [] }
theorem E11_eq : ∀ x, afun E11 Try.f11 C11.ps C11.rs x = C11.fn x := fun x => by kernel_rfl
theorem S11 : Sound Try.prog 11 C11 := fun_sound (E := E11) ⟨good_T (by kernel_rfl), (good_cons S37 ⟨_, Try.func37, by kernel_rfl, by kernel_rfl⟩ (good_cons S38 ⟨_, Try.func38, by kernel_rfl, by kernel_rfl⟩ good_nil)), mixedOk⟩ Try.func11 rfl E11_eq
/-- laws.toIntS -/
noncomputable def l_toIntS (p_a : List Int) : Option ((List Int)) :=
  bif decide (0 ≤ (p_a.length : Int)) && decide ((p_a.length : Int) ≤ (p_a.length : Int)) && decide ((p_a.length : Int) ≤ lim) then
    (loopE (fun (st2 : (List Int) × Int) => (
        bif (decide (st2.2 < (p_a.length : Int))) then
          (idx p_a st2.2).bind fun e3 =>
          bif decide (0 ≤ st2.2) && decide (st2.2 < (st2.1.length : Int)) then
            some (.inl ((st2.1.set (Int.toNat st2.2) e3), (w64 (st2.2 + 1))))
          else
            none
        else
          some (.inr st2.1) : Option (((List Int) × Int) ⊕ ((List Int))))) ((List.replicate (Int.toNat (p_a.length : Int)) (0 : Int)), 0)).bind fun o4 =>
    some o4
  else
    none
noncomputable def C59 : FnSpec := { ps := [.val (.slice (.int .i64))], rs := [.own (.slice (.int .i64))], fn := fun x => l_toIntS x }
noncomputable def E59 : Env := { T := [(3, (.int .i64)), (52, (.slice (.int .i64)))], G := [], ro := [], loops := [(3, { keep := [0], live := [.own 3 [] 112 (.int .i64) true, .tv 4 (.int .i64)], outs := [(.exit 0, [.own 3 [] 112 (.int .i64) true])] })], joins := [] }
theorem E59_eq : ∀ x, afun E59 Try.f59 C59.ps C59.rs x = C59.fn x := fun x => by kernel_rfl
theorem S59 : Sound Try.prog 59 C59 := fun_sound (E := E59) ⟨good_T (by kernel_rfl), good_nil, mixedOk⟩ Try.func59 rfl E59_eq
/-- laws.toTicket -/
noncomputable def l_toTicket (p_a : GTicket) : Option (GTicket) :=
  (l_toIntS p_a.2.2.1).bind fun r1 =>
  some (p_a.1, p_a.2.1, r1, p_a.2.2.2)
noncomputable def C39 : FnSpec := { ps := [.val TGTicket], rs := [.own TGTicket], fn := fun x => l_toTicket x }
noncomputable def E39 : Env := { T := [(3, (.int .i64)), (52, (.slice (.int .i64))), (54, TGTicket), (56, TGTicket)], G := [(59, C59)], ro := [1], loops := [], joins := [] }
theorem E39_eq : ∀ x, afun E39 Try.f39 C39.ps C39.rs x = C39.fn x := fun x => by kernel_rfl
theorem S39 : Sound Try.prog 39 C39 := fun_sound (E := E39) ⟨good_T (by kernel_rfl), (good_cons S59 ⟨_, Try.func59, by kernel_rfl, by kernel_rfl⟩ good_nil), mixedOk⟩ Try.func39 rfl E39_eq
/-- laws.toTicketS -/
noncomputable def l_toTicketS (p_a : List GTicket) : Option ((List GTicket)) :=
  bif decide (0 ≤ (p_a.length : Int)) && decide ((p_a.length : Int) ≤ (p_a.length : Int)) && decide ((p_a.length : Int) ≤ lim) then
    (loopE (fun (st2 : (List GTicket) × Int) => (
        bif (decide (st2.2 < (p_a.length : Int))) then
          (idx p_a st2.2).bind fun e3 =>
          (l_toTicket e3).bind fun r4 =>
          bif decide (0 ≤ st2.2) && decide (st2.2 < (st2.1.length : Int)) then
            some (.inl ((st2.1.set (Int.toNat st2.2) r4), (w64 (st2.2 + 1))))
          else
            none
        else
          some (.inr st2.1) : Option (((List GTicket) × Int) ⊕ ((List GTicket))))) ((List.replicate (Int.toNat (p_a.length : Int)) ((0, (0, ([], (0, ())))) : GTicket)), 0)).bind fun o5 =>
    some o5
  else
    none
noncomputable def C12 : FnSpec := { ps := [.val (.slice TGTicket)], rs := [.own (.slice TGTicket)], fn := fun x => l_toTicketS x }
noncomputable def E12 : Env := { T := [(22, (.slice TGTicket)), (26, (.slice TGTicket)), (54, TGTicket), (56, TGTicket)], G := [(39, C39)], ro := [], loops := [(3, { keep := [0], live := [.own 3 [] 112 TGTicket true, .tv 4 (.int .i64)], outs := [(.exit 0, [.own 3 [] 112 TGTicket true])] })], joins := [], mv := true }
theorem E12_eq : ∀ x, afun E12 Try.f12 C12.ps C12.rs x = C12.fn x := fun x => by kernel_rfl
theorem S12 : Sound Try.prog 12 C12 := fun_sound (E := E12) ⟨good_T (by kernel_rfl), (good_cons S39 ⟨_, Try.func39, by kernel_rfl, by kernel_rfl⟩ good_nil), mixedOk⟩ Try.func12 rfl E12_eq
/-- impl.ticketIndex$1 -/
noncomputable def i_ticketIndex_1 (p_x : GTicket) (p_a1 : Int) : Option (Bool) :=
  some (decide (p_x.1 = p_a1))
noncomputable def C61 : FnSpec := { ps := [.val TGTicket, .rp (.int .i64)], rs := [.val .bool], fn := fun x => i_ticketIndex_1 x.1 x.2 }
noncomputable def E61 : Env := { T := [(3, (.int .i64)), (56, TGTicket)], G := [], ro := [2], loops := [], joins := [] }
theorem E61_eq : ∀ x, afun E61 Try.f61 C61.ps C61.rs x = C61.fn x := fun x => by kernel_rfl
theorem S61 : Sound Try.prog 61 C61 := fun_sound (E := E61) ⟨good_T (by kernel_rfl), good_nil, mixedOk⟩ Try.func61 rfl E61_eq
/-- slices.IndexFunc[[]impl.Ticket,impl.Ticket] -/
noncomputable def slices_IndexFunc_Ticket_61 (p_s : List GTicket) (p_f : Int × Unit) : Option (Int) :=
  (loopE (fun (st2 : Int) => (
      bif (decide (st2 < (p_s.length : Int))) then
        (idx p_s st2).bind fun e3 =>
        (i_ticketIndex_1 e3 p_f.1).bind fun r4 =>
        bif r4 then
          some (.inr (.inr st2))
        else
          some (.inl (w64 (st2 + 1)))
      else
        some (.inr (.inl ())) : Option ((Int) ⊕ (Unit ⊕ Int)))) 0).bind fun o5 =>
  match o5 with
  | .inl _ =>
    some (-1)
  | .inr y7 =>
    some y7
noncomputable def C60_61 : FnSpec := { ps := [.val (.slice TGTicket), .fn 61 [(.int .i64)]], rs := [.val (.int .i64)], fn := fun x => slices_IndexFunc_Ticket_61 x.1 x.2 }
noncomputable def E60_61 : Env := { T := [(26, (.slice TGTicket)), (56, TGTicket)], G := [(61, C61)], ro := [], loops := [(2, { keep := [0, 1, 7], live := [.tv 8 (.int .i64)], outs := [(.exit 0, []), (.ret, [.tv 4 (.int .i64)])] })], joins := [] }
theorem E60_61_eq : ∀ x, afun E60_61 Try.f60 C60_61.ps C60_61.rs x = C60_61.fn x := fun x => by kernel_rfl
theorem S60_61 : Sound Try.prog 60 C60_61 := fun_sound (E := E60_61) ⟨good_T (by kernel_rfl), (good_cons S61 ⟨_, Try.func61, by kernel_rfl, by kernel_rfl⟩ good_nil), mixedOk⟩ Try.func60 rfl E60_61_eq
/-- impl.ticketIndex -/
noncomputable def i_ticketIndex (p_l : List GTicket) (p_message : Int) : Option (Int) :=
  (slices_IndexFunc_Ticket_61 p_l (p_message, ())).bind fun r1 =>
  some r1
noncomputable def C40 : FnSpec := { ps := [.val (.slice TGTicket), .val (.int .i64)], rs := [.val (.int .i64)], fn := fun x => i_ticketIndex x.1 x.2 }
noncomputable def E40 : Env := { T := [(3, (.int .i64))], G := [(60, C60_61)], ro := [3], loops := [], joins := [] }
theorem E40_eq : ∀ x, afun E40 Try.f40 C40.ps C40.rs x = C40.fn x := fun x => by kernel_rfl
theorem S40 : Sound Try.prog 40 C40 := fun_sound (E := E40) ⟨good_T (by kernel_rfl), (good_cons S60_61 ⟨_, Try.func60, by kernel_rfl, by kernel_rfl⟩ good_nil), mixedOk⟩ Try.func40 rfl E40_eq
/-- impl.within -/
noncomputable def i_within (p_n : Int) (p_low : Int) (p_high : Int) : Option (Bool) :=
  (bif (decide (p_low ≤ p_n)) then
      some (decide (p_n ≤ p_high))
    else
      some false).bind fun c1 =>
  some c1
noncomputable def C62 : FnSpec := { ps := [.val (.int .i64), .val (.int .i64), .val (.int .i64)], rs := [.val .bool], fn := fun x => i_within x.1 x.2.1 x.2.2 }
noncomputable def E62 : Env := { T := [], G := [], ro := [], loops := [], joins := [] }
theorem E62_eq : ∀ x, afun E62 Try.f62 C62.ps C62.rs x = C62.fn x := fun x => by kernel_rfl
theorem S62 : Sound Try.prog 62 C62 := fun_sound (E := E62) ⟨good_T (by kernel_rfl), good_nil, mixedOk⟩ Try.func62 rfl E62_eq
/-- impl.allWithin -/
noncomputable def i_allWithin (p_l : List Int) (p_low : Int) (p_high : Int) : Option (Bool) :=
  (loopE (fun (st2 : Int) => (
      bif (decide (st2 < (p_l.length : Int))) then
        (idx p_l st2).bind fun e3 =>
        (i_within e3 p_low p_high).bind fun r4 =>
        bif (!r4) then
          some (.inr (.inr false))
        else
          some (.inl (w64 (st2 + 1)))
      else
        some (.inr (.inl ())) : Option ((Int) ⊕ (Unit ⊕ Bool)))) 0).bind fun o5 =>
  match o5 with
  | .inl _ =>
    some true
  | .inr y7 =>
    some y7
noncomputable def C63 : FnSpec := { ps := [.val (.slice (.int .i64)), .val (.int .i64), .val (.int .i64)], rs := [.val .bool], fn := fun x => i_allWithin x.1 x.2.1 x.2.2 }
noncomputable def E63 : Env := { T := [(3, (.int .i64)), (52, (.slice (.int .i64)))], G := [(62, C62)], ro := [], loops := [(2, { keep := [1, 2, 9, 10], live := [.tv 11 (.int .i64)], outs := [(.exit 0, []), (.ret, [.tv 6 .bool])] })], joins := [] }
theorem E63_eq : ∀ x, afun E63 Try.f63 C63.ps C63.rs x = C63.fn x := fun x => by kernel_rfl
theorem S63 : Sound Try.prog 63 C63 := fun_sound (E := E63) ⟨good_T (by kernel_rfl), (good_cons S62 ⟨_, Try.func62, by kernel_rfl, by kernel_rfl⟩ good_nil), mixedOk⟩ Try.func63 rfl E63_eq
/-- impl.increasing -/
noncomputable def i_increasing (p_l : List Int) : Option (Bool) :=
  (loopE (fun (st2 : Int) => (
      bif (decide (st2 < (p_l.length : Int))) then
        (idx p_l (w64 (st2 - 1))).bind fun e3 =>
        (idx p_l st2).bind fun e4 =>
        bif (decide (e4 ≤ e3)) then
          some (.inr (.inr false))
        else
          some (.inl (w64 (st2 + 1)))
      else
        some (.inr (.inl ())) : Option ((Int) ⊕ (Unit ⊕ Bool)))) 1).bind fun o5 =>
  match o5 with
  | .inl _ =>
    some true
  | .inr y7 =>
    some y7
noncomputable def C64 : FnSpec := { ps := [.val (.slice (.int .i64))], rs := [.val .bool], fn := fun x => i_increasing x }
noncomputable def E64 : Env := { T := [(3, (.int .i64)), (52, (.slice (.int .i64)))], G := [], ro := [], loops := [(2, { keep := [0], live := [.tv 3 (.int .i64)], outs := [(.exit 0, []), (.ret, [.tv 2 .bool])] })], joins := [] }
theorem E64_eq : ∀ x, afun E64 Try.f64 C64.ps C64.rs x = C64.fn x := fun x => by kernel_rfl
theorem S64 : Sound Try.prog 64 C64 := fun_sound (E := E64) ⟨good_T (by kernel_rfl), good_nil, mixedOk⟩ Try.func64 rfl E64_eq
/-- impl.AreTickets -/
noncomputable def i_AreTickets (p_l : List GTicket) : Option (Bool) :=
  bif (decide (20 < (p_l.length : Int))) then
    some false
  else
    (loopE (fun (st2 : Int) => (
        bif (decide (st2 < (p_l.length : Int))) then
          (idx p_l st2).bind fun e3 =>
          (i_within e3.1 1 999).bind fun r4 =>
          (bif (!r4) then
              some true
            else
              (i_within e3.2.1 1 9).bind fun r5 =>
              some (!r5)).bind fun c6 =>
          (bif c6 then
              some true
            else
              (i_allWithin e3.2.2.1 0 (w64 (e3.2.1 - 1))).bind fun r7 =>
              some (!r7)).bind fun c8 =>
          (bif c8 then
              some true
            else
              (i_increasing e3.2.2.1).bind fun r9 =>
              some (!r9)).bind fun c10 =>
          (bif c10 then
              some true
            else
              (bif (decide (0 < st2)) then
                  (idx p_l (w64 (st2 - 1))).bind fun e11 =>
                  some (decide (e3.1 ≤ e11.1))
                else
                  some false).bind fun c12 =>
              some c12).bind fun c13 =>
          bif c13 then
            some (.inr (.inr false))
          else
            (bif ((decide ((e3.2.2.1.length : Int) = e3.2.1)) != (decide (e3.2.2.2.1 = 1))) then
                some true
              else
                (i_within e3.2.2.2.1 0 2).bind fun r14 =>
                some (!r14)).bind fun c15 =>
            bif c15 then
              some (.inr (.inr false))
            else
              some (.inl (w64 (st2 + 1)))
        else
          some (.inr (.inl ())) : Option ((Int) ⊕ (Unit ⊕ Bool)))) 0).bind fun o16 =>
    match o16 with
    | .inl _ =>
      some true
    | .inr y18 =>
      some y18
noncomputable def C41 : FnSpec := { ps := [.val (.slice TGTicket)], rs := [.val .bool], fn := fun x => i_AreTickets x }
noncomputable def E41 : Env := { T := [(3, (.int .i64)), (4, .bool), (26, (.slice TGTicket)), (52, (.slice (.int .i64))), (56, TGTicket)], G := [(62, C62), (63, C63), (64, C64)], ro := [], loops := [(4, { keep := [0, 9, 10], live := [.tv 11 (.int .i64)], outs := [(.exit 0, []), (.ret, [.tv 2 .bool])] })], joins := [] }
theorem E41_eq : ∀ x, afun E41 Try.f41 C41.ps C41.rs x = C41.fn x := fun x => by kernel_rfl
theorem S41 : Sound Try.prog 41 C41 := fun_sound (E := E41) ⟨good_T (by kernel_rfl), (good_cons S62 ⟨_, Try.func62, by kernel_rfl, by kernel_rfl⟩ (good_cons S63 ⟨_, Try.func63, by kernel_rfl, by kernel_rfl⟩ (good_cons S64 ⟨_, Try.func64, by kernel_rfl, by kernel_rfl⟩ good_nil))), mixedOk⟩ Try.func41 rfl E41_eq
/-- impl.StandingOf -/
noncomputable def i_StandingOf (p_l : List GTicket) (p_message : Int) : Option (Int × Int × Bool) :=
  (i_ticketIndex p_l p_message).bind fun r1 =>
  (i_AreTickets p_l).bind fun r2 =>
  (bif (!r2) then
      some true
    else
      some (decide (r1 < 0))).bind fun c3 =>
  bif c3 then
    some (0, 0, false)
  else
    (idx p_l r1).bind fun e4 =>
    (idx p_l r1).bind fun e5 =>
    (idx p_l r1).bind fun e6 =>
    some (e4.2.2.2.1, (w64 (e5.2.1 - (e6.2.2.1.length : Int))), true)
noncomputable def C13 : FnSpec := { ps := [.val (.slice TGTicket), .val (.int .i64)], rs := [.val (.int .i64), .val (.int .i64), .val .bool], fn := fun x => i_StandingOf x.1 x.2 }
noncomputable def E13 : Env := { T := [(3, (.int .i64)), (26, (.slice TGTicket)), (52, (.slice (.int .i64))), (56, TGTicket)], G := [(40, C40), (41, C41)], ro := [], loops := [], joins := [] }
theorem E13_eq : ∀ x, afun E13 Try.f13 C13.ps C13.rs x = C13.fn x := fun x => by kernel_rfl
theorem S13 : Sound Try.prog 13 C13 := fun_sound (E := E13) ⟨good_T (by kernel_rfl), (good_cons S40 ⟨_, Try.func40, by kernel_rfl, by kernel_rfl⟩ (good_cons S41 ⟨_, Try.func41, by kernel_rfl, by kernel_rfl⟩ good_nil)), mixedOk⟩ Try.func13 rfl E13_eq
/-- laws.eqIntS -/
noncomputable def l_eqIntS (p_a : List Int) (p_b : List Int) : Option (Bool) :=
  bif (!decide ((p_a.length : Int) = (p_b.length : Int))) then
    some false
  else
    (loopE (fun (st2 : Int) => (
        bif (decide (st2 < (p_a.length : Int))) then
          (idx p_a st2).bind fun e3 =>
          (idx p_b st2).bind fun e4 =>
          bif (!decide (e3 = e4)) then
            some (.inr (.inr false))
          else
            some (.inl (w64 (st2 + 1)))
        else
          some (.inr (.inl ())) : Option ((Int) ⊕ (Unit ⊕ Bool)))) 0).bind fun o5 =>
    match o5 with
    | .inl _ =>
      some true
    | .inr y7 =>
      some y7
noncomputable def C45 : FnSpec := { ps := [.val (.slice (.int .i64)), .val (.slice (.int .i64))], rs := [.val .bool], fn := fun x => l_eqIntS x.1 x.2 }
noncomputable def E45 : Env := { T := [(3, (.int .i64)), (52, (.slice (.int .i64)))], G := [], ro := [], loops := [(4, { keep := [0, 1], live := [.tv 5 (.int .i64)], outs := [(.exit 0, []), (.ret, [.tv 4 .bool])] })], joins := [] }
theorem E45_eq : ∀ x, afun E45 Try.f45 C45.ps C45.rs x = C45.fn x := fun x => by kernel_rfl
theorem S45 : Sound Try.prog 45 C45 := fun_sound (E := E45) ⟨good_T (by kernel_rfl), good_nil, mixedOk⟩ Try.func45 rfl E45_eq
/-- laws.eqTicket -/
noncomputable def l_eqTicket (p_a : GTicket) (p_b : GTicket) : Option (Bool) :=
  bif (!decide (p_a.1 = p_b.1)) then
    some false
  else
    bif (!decide (p_a.2.1 = p_b.2.1)) then
      some false
    else
      (l_eqIntS p_a.2.2.1 p_b.2.2.1).bind fun r1 =>
      bif (!r1) then
        some false
      else
        bif (!decide (p_a.2.2.2.1 = p_b.2.2.2.1)) then
          some false
        else
          some true
noncomputable def C42 : FnSpec := { ps := [.val TGTicket, .val TGTicket], rs := [.val .bool], fn := fun x => l_eqTicket x.1 x.2 }
noncomputable def E42 : Env := { T := [(3, (.int .i64)), (52, (.slice (.int .i64))), (56, TGTicket)], G := [(45, C45)], ro := [2, 3], loops := [], joins := [] }
theorem E42_eq : ∀ x, afun E42 Try.f42 C42.ps C42.rs x = C42.fn x := fun x => by kernel_rfl
theorem S42 : Sound Try.prog 42 C42 := fun_sound (E := E42) ⟨good_T (by kernel_rfl), (good_cons S45 ⟨_, Try.func45, by kernel_rfl, by kernel_rfl⟩ good_nil), mixedOk⟩ Try.func42 rfl E42_eq
/-- laws.eqTicketS -/
noncomputable def l_eqTicketS (p_a : List GTicket) (p_b : List GTicket) : Option (Bool) :=
  bif (!decide ((p_a.length : Int) = (p_b.length : Int))) then
    some false
  else
    (loopE (fun (st2 : Int) => (
        bif (decide (st2 < (p_a.length : Int))) then
          (idx p_a st2).bind fun e3 =>
          (idx p_b st2).bind fun e4 =>
          (l_eqTicket e3 e4).bind fun r5 =>
          bif (!r5) then
            some (.inr (.inr false))
          else
            some (.inl (w64 (st2 + 1)))
        else
          some (.inr (.inl ())) : Option ((Int) ⊕ (Unit ⊕ Bool)))) 0).bind fun o6 =>
    match o6 with
    | .inl _ =>
      some true
    | .inr y8 =>
      some y8
noncomputable def C14 : FnSpec := { ps := [.val (.slice TGTicket), .val (.slice TGTicket)], rs := [.val .bool], fn := fun x => l_eqTicketS x.1 x.2 }
noncomputable def E14 : Env := { T := [(26, (.slice TGTicket)), (56, TGTicket)], G := [(42, C42)], ro := [], loops := [(4, { keep := [0, 1], live := [.tv 5 (.int .i64)], outs := [(.exit 0, []), (.ret, [.tv 4 .bool])] })], joins := [] }
theorem E14_eq : ∀ x, afun E14 Try.f14 C14.ps C14.rs x = C14.fn x := fun x => by kernel_rfl
theorem S14 : Sound Try.prog 14 C14 := fun_sound (E := E14) ⟨good_T (by kernel_rfl), (good_cons S42 ⟨_, Try.func42, by kernel_rfl, by kernel_rfl⟩ good_nil), mixedOk⟩ Try.func14 rfl E14_eq
/-- laws.FnExactStandingOf -/
noncomputable def l_FnExactStandingOf (p_aL : List GTicket) (p_aMessage : Int) : Option (Bool) :=
  (l_szTicketS p_aL 1048576).bind fun r1 =>
  bif (decide (r1 < 0)) then
    some true
  else
    (l_toTicketS p_aL).bind fun r2 =>
    (s_StandingOf r2 p_aMessage).bind fun r3 =>
    (l_toTicketS p_aL).bind fun r4 =>
    (i_StandingOf r4 p_aMessage).bind fun r5 =>
    (bif (!decide (r5.1 = r3.1)) then
        some true
      else
        some (!decide (r5.2.1 = r3.2.1))).bind fun c6 =>
    (bif c6 then
        some true
      else
        some (r5.2.2 != r3.2.2)).bind fun c7 =>
    bif c7 then
      some false
    else
      (l_toTicketS p_aL).bind fun r8 =>
      (l_eqTicketS r4 r8).bind fun r9 =>
      bif (!r9) then
        some false
      else
        some true
noncomputable def C3 : FnSpec := { ps := [.val (.slice TGTicket), .val (.int .i64)], rs := [.val .bool], fn := fun x => l_FnExactStandingOf x.1 x.2 }
noncomputable def E3 : Env := { T := [(4, .bool)], G := [(10, C10), (11, C11), (12, C12), (13, C13), (14, C14)], ro := [], loops := [], joins := [] }
theorem E3_eq : ∀ x, afun E3 Try.f3 C3.ps C3.rs x = C3.fn x := fun x => by kernel_rfl
theorem S3 : Sound Try.prog 3 C3 := fun_sound (E := E3) ⟨good_T (by kernel_rfl), (good_cons S10 ⟨_, Try.func10, by kernel_rfl, by kernel_rfl⟩ (good_cons S11 ⟨_, Try.func11, by kernel_rfl, by kernel_rfl⟩ (good_cons S12 ⟨_, Try.func12, by kernel_rfl, by kernel_rfl⟩ (good_cons S13 ⟨_, Try.func13, by kernel_rfl, by kernel_rfl⟩ (good_cons S14 ⟨_, Try.func14, by kernel_rfl, by kernel_rfl⟩ good_nil))))), mixedOk⟩ Try.func3 rfl E3_eq
/-- spec.l1Has -/
noncomputable def s_l1Has (p_l : List Int) (p_n : Int) : Option (Bool) :=
  (loopE (fun (st2 : Int) => (
      bif (decide (st2 < (p_l.length : Int))) then
        (idx p_l st2).bind fun e3 =>
        bif (decide (e3 = p_n)) then
          some (.inr (.inr true))
        else
          some (.inl (w64 (st2 + 1)))
      else
        some (.inr (.inl ())) : Option ((Int) ⊕ (Unit ⊕ Bool)))) 0).bind fun o4 =>
  match o4 with
  | .inl _ =>
    some false
  | .inr y6 =>
    some y6
noncomputable def C43 : FnSpec := { ps := [.val (.slice (.int .i64)), .val (.int .i64)], rs := [.val .bool], fn := fun x => s_l1Has x.1 x.2 }
noncomputable def E43 : Env := { T := [(3, (.int .i64)), (52, (.slice (.int .i64)))], G := [], ro := [], loops := [(2, { keep := [1, 7, 8], live := [.tv 9 (.int .i64)], outs := [(.exit 0, []), (.ret, [.tv 4 .bool])] })], joins := [] }
theorem E43_eq : ∀ x, afun E43 Try.f43 C43.ps C43.rs x = C43.fn x := fun x => by kernel_rfl
theorem S43 : Sound Try.prog 43 C43 := fun_sound (E := E43) ⟨good_T (by kernel_rfl), good_nil, mixedOk⟩ Try.func43 rfl E43_eq
/-- spec.PartsToSend -/
noncomputable def s_PartsToSend (p_l : List GTicket) : Option ((List (List Int)) × Bool) :=
  (s_dkGood p_l).bind fun r1 =>
  bif (!r1) then
    some ([], false)
  else
    (loopE (fun (st3 : (List (List Int)) × Int) => (
        bif (decide (st3.2 < (p_l.length : Int))) then
          (idx p_l st3.2).bind fun e4 =>
          (loopE (fun (st6 : (List (List Int)) × Int × Int × (List Int) × Int × Int) => (
              (bif (decide (st6.2.2.2.2.2 < st6.2.2.1)) then
                  some (decide (st6.2.2.2.2.1 = 0))
                else
                  some false).bind fun c7 =>
              bif c7 then
                (s_l1Has st6.2.2.2.1 st6.2.2.2.2.2).bind fun r8 =>
                bif (!r8) then
                  bif decide (List.length st6.1 + List.length [[st6.2.1, st6.2.2.2.2.2]] ≤ lim) then
                    some (.inl ((st6.1 ++ [[st6.2.1, st6.2.2.2.2.2]]), st6.2.1, st6.2.2.1, st6.2.2.2.1, st6.2.2.2.2.1, (w64 (st6.2.2.2.2.2 + 1))))
                  else
                    none
                else
                  some (.inl (st6.1, st6.2.1, st6.2.2.1, st6.2.2.2.1, st6.2.2.2.2.1, (w64 (st6.2.2.2.2.2 + 1))))
              else
                some (.inr st6.1) : Option (((List (List Int)) × Int × Int × (List Int) × Int × Int) ⊕ ((List (List Int)))))) (st3.1, e4.1, e4.2.1, e4.2.2.1, e4.2.2.2.1, 0)).bind fun o9 =>
          some (.inl (o9, (w64 (st3.2 + 1))))
        else
          some (.inr st3.1) : Option (((List (List Int)) × Int) ⊕ ((List (List Int)))))) ([], 0)).bind fun o10 =>
    some (o10, true)
noncomputable def C15 : FnSpec := { ps := [.val (.slice TGTicket)], rs := [.own (.slice (.slice (.int .i64))), .val .bool], fn := fun x => s_PartsToSend x }
noncomputable def E15 : Env := { T := [(3, (.int .i64)), (26, (.slice TGTicket)), (30, (.slice (.slice (.int .i64)))), (52, (.slice (.int .i64))), (56, TGTicket)], G := [(38, C38), (43, C43)], ro := [], loops := [(5, { keep := [11, 12], live := [.own 4 [] 200004 (.slice (.int .i64)) true, .tv 13 (.int .i64)], outs := [(.exit 0, [.own 4 [] 200004 (.slice (.int .i64)) true])] }), (8, { keep := [11, 12, 13], live := [.own 4 [] 200004 (.slice (.int .i64)) true, .bx 6 96 [.pv (.int .i64), .pv (.int .i64), .pv (.slice (.int .i64)), .pv (.int .i64)], .tv 7 (.int .i64)], outs := [(.exit 2, [.own 4 [] 200004 (.slice (.int .i64)) true])] })], joins := [], mv := true }
theorem E15_eq : ∀ x, afun E15 Try.f15 C15.ps C15.rs x = C15.fn x := fun x => by kernel_rfl
theorem S15 : Sound Try.prog 15 C15 := fun_sound (E := E15) ⟨good_T (by kernel_rfl), (good_cons S38 ⟨_, Try.func38, by kernel_rfl, by kernel_rfl⟩ (good_cons S43 ⟨_, Try.func43, by kernel_rfl, by kernel_rfl⟩ good_nil)), mixedOk⟩ Try.func15 rfl E15_eq
/-- slices.Index[[]int,int] -/
noncomputable def slices_Index_int (p_s : List Int) (p_v : Int) : Option (Int) :=
  (loopE (fun (st2 : Int) => (
      bif (decide (st2 < (p_s.length : Int))) then
        (idx p_s st2).bind fun e3 =>
        bif (decide (p_v = e3)) then
          some (.inr (.inr st2))
        else
          some (.inl (w64 (st2 + 1)))
      else
        some (.inr (.inl ())) : Option ((Int) ⊕ (Unit ⊕ Int)))) 0).bind fun o4 =>
  match o4 with
  | .inl _ =>
    some (-1)
  | .inr y6 =>
    some y6
noncomputable def C65 : FnSpec := { ps := [.val (.slice (.int .i64)), .val (.int .i64)], rs := [.val (.int .i64)], fn := fun x => slices_Index_int x.1 x.2 }
noncomputable def E65 : Env := { T := [(3, (.int .i64)), (52, (.slice (.int .i64)))], G := [], ro := [], loops := [(2, { keep := [0, 1, 7], live := [.tv 8 (.int .i64)], outs := [(.exit 0, []), (.ret, [.tv 4 (.int .i64)])] })], joins := [] }
theorem E65_eq : ∀ x, afun E65 Try.f65 C65.ps C65.rs x = C65.fn x := fun x => by kernel_rfl
theorem S65 : Sound Try.prog 65 C65 := fun_sound (E := E65) ⟨good_T (by kernel_rfl), good_nil, mixedOk⟩ Try.func65 rfl E65_eq
/-- slices.Contains[[]int,int] -/
noncomputable def slices_Contains_int (p_s : List Int) (p_v : Int) : Option (Bool) :=
  (slices_Index_int p_s p_v).bind fun r1 =>
  some (decide (0 ≤ r1))
noncomputable def C44 : FnSpec := { ps := [.val (.slice (.int .i64)), .val (.int .i64)], rs := [.val .bool], fn := fun x => slices_Contains_int x.1 x.2 }
noncomputable def E44 : Env := { T := [], G := [(65, C65)], ro := [], loops := [], joins := [] }
theorem E44_eq : ∀ x, afun E44 Try.f44 C44.ps C44.rs x = C44.fn x := fun x => by kernel_rfl
theorem S44 : Sound Try.prog 44 C44 := fun_sound (E := E44) ⟨good_T (by kernel_rfl), (good_cons S65 ⟨_, Try.func65, by kernel_rfl, by kernel_rfl⟩ good_nil), mixedOk⟩ Try.func44 rfl E44_eq
/-- impl.PartsToSend -/
noncomputable def i_PartsToSend (p_l : List GTicket) : Option ((List (List Int)) × Bool) :=
  (i_AreTickets p_l).bind fun r1 =>
  bif (!r1) then
    some ([], false)
  else
    (loopE (fun (st3 : (List (List Int)) × Int) => (
        bif (decide (st3.2 < (p_l.length : Int))) then
          (idx p_l st3.2).bind fun e4 =>
          (loopE (fun (st6 : (List (List Int)) × Int × Int × (List Int) × Int × Int) => (
              bif (decide (st6.2.2.2.2.2 < e4.2.1)) then
                (bif (decide (st6.2.2.2.2.1 = 0)) then
                    (slices_Contains_int st6.2.2.2.1 st6.2.2.2.2.2).bind fun r7 =>
                    some (!r7)
                  else
                    some false).bind fun c8 =>
                bif c8 then
                  bif decide (List.length st6.1 + List.length [[st6.2.1, st6.2.2.2.2.2]] ≤ lim) then
                    some (.inl ((st6.1 ++ [[st6.2.1, st6.2.2.2.2.2]]), st6.2.1, st6.2.2.1, st6.2.2.2.1, st6.2.2.2.2.1, (w64 (st6.2.2.2.2.2 + 1))))
                  else
                    none
                else
                  some (.inl (st6.1, st6.2.1, st6.2.2.1, st6.2.2.2.1, st6.2.2.2.2.1, (w64 (st6.2.2.2.2.2 + 1))))
              else
                some (.inr st6.1) : Option (((List (List Int)) × Int × Int × (List Int) × Int × Int) ⊕ ((List (List Int)))))) (st3.1, e4.1, e4.2.1, e4.2.2.1, e4.2.2.2.1, 0)).bind fun o9 =>
          some (.inl (o9, (w64 (st3.2 + 1))))
        else
          some (.inr st3.1) : Option (((List (List Int)) × Int) ⊕ ((List (List Int)))))) ([], 0)).bind fun o10 =>
    some (o10, true)
noncomputable def C16 : FnSpec := { ps := [.val (.slice TGTicket)], rs := [.own (.slice (.slice (.int .i64))), .val .bool], fn := fun x => i_PartsToSend x }
noncomputable def E16 : Env := { T := [(3, (.int .i64)), (26, (.slice TGTicket)), (30, (.slice (.slice (.int .i64)))), (52, (.slice (.int .i64))), (56, TGTicket)], G := [(41, C41), (44, C44)], ro := [], loops := [(5, { keep := [11, 12], live := [.own 4 [] 200004 (.slice (.int .i64)) true, .tv 13 (.int .i64)], outs := [(.exit 0, [.own 4 [] 200004 (.slice (.int .i64)) true])] }), (8, { keep := [11, 12, 13, 18], live := [.own 4 [] 200004 (.slice (.int .i64)) true, .bx 6 96 [.pv (.int .i64), .pv (.int .i64), .pv (.slice (.int .i64)), .pv (.int .i64)], .tv 19 (.int .i64)], outs := [(.exit 2, [.own 4 [] 200004 (.slice (.int .i64)) true])] })], joins := [], mv := true }
theorem E16_eq : ∀ x, afun E16 Try.f16 C16.ps C16.rs x = C16.fn x := fun x => by kernel_rfl
theorem S16 : Sound Try.prog 16 C16 := fun_sound (E := E16) ⟨good_T (by kernel_rfl), (good_cons S41 ⟨_, Try.func41, by kernel_rfl, by kernel_rfl⟩ (good_cons S44 ⟨_, Try.func44, by kernel_rfl, by kernel_rfl⟩ good_nil)), mixedOk⟩ Try.func16 rfl E16_eq
/-- laws.eqIntSS -/
noncomputable def l_eqIntSS (p_a : List (List Int)) (p_b : List (List Int)) : Option (Bool) :=
  bif (!decide ((p_a.length : Int) = (p_b.length : Int))) then
    some false
  else
    (loopE (fun (st2 : Int) => (
        bif (decide (st2 < (p_a.length : Int))) then
          (idx p_a st2).bind fun e3 =>
          (idx p_b st2).bind fun e4 =>
          (l_eqIntS e3 e4).bind fun r5 =>
          bif (!r5) then
            some (.inr (.inr false))
          else
            some (.inl (w64 (st2 + 1)))
        else
          some (.inr (.inl ())) : Option ((Int) ⊕ (Unit ⊕ Bool)))) 0).bind fun o6 =>
    match o6 with
    | .inl _ =>
      some true
    | .inr y8 =>
      some y8
noncomputable def C17 : FnSpec := { ps := [.val (.slice (.slice (.int .i64))), .val (.slice (.slice (.int .i64)))], rs := [.val .bool], fn := fun x => l_eqIntSS x.1 x.2 }
noncomputable def E17 : Env := { T := [(30, (.slice (.slice (.int .i64)))), (52, (.slice (.int .i64)))], G := [(45, C45)], ro := [], loops := [(4, { keep := [0, 1], live := [.tv 5 (.int .i64)], outs := [(.exit 0, []), (.ret, [.tv 4 .bool])] })], joins := [] }
theorem E17_eq : ∀ x, afun E17 Try.f17 C17.ps C17.rs x = C17.fn x := fun x => by kernel_rfl
theorem S17 : Sound Try.prog 17 C17 := fun_sound (E := E17) ⟨good_T (by kernel_rfl), (good_cons S45 ⟨_, Try.func45, by kernel_rfl, by kernel_rfl⟩ good_nil), mixedOk⟩ Try.func17 rfl E17_eq
/-- laws.markIntS -/
noncomputable def l_markIntS (p_a : List Int) (p_k : Int) : Option ((List Int) × Int) :=
  (loopE (fun (st2 : (List Int) × Int × Int) => (
      bif (decide (st2.2.2 < (st2.1.length : Int))) then
        bif decide (0 ≤ st2.2.2) && decide (st2.2.2 < (st2.1.length : Int)) then
          some (.inl ((st2.1.set (Int.toNat st2.2.2) st2.2.1), (w64 (st2.2.1 + 1)), (w64 (st2.2.2 + 1))))
        else
          none
      else
        some (.inr (st2.1, st2.2.1)) : Option (((List Int) × Int × Int) ⊕ (((List Int) × Int))))) (p_a, p_k, 0)).bind fun o3 =>
  some (o3.1, o3.2)
noncomputable def C46 : FnSpec := { ps := [.own (.slice (.int .i64)), .val (.int .i64)], rs := [.val (.int .i64)], fn := fun x => l_markIntS x.1 x.2 }
noncomputable def E46 : Env := { T := [(3, (.int .i64)), (52, (.slice (.int .i64)))], G := [], ro := [], loops := [(2, { keep := [], live := [.own 0 [] 100000 (.int .i64) true, .tv 1 (.int .i64), .tv 5 (.int .i64)], outs := [(.exit 0, [.own 0 [] 100000 (.int .i64) true, .tv 1 (.int .i64)])] })], joins := [] }
theorem E46_eq : ∀ x, afun E46 Try.f46 C46.ps C46.rs x = C46.fn x := fun x => by kernel_rfl
theorem S46 : Sound Try.prog 46 C46 := fun_sound_own (E := E46) ⟨good_T (by kernel_rfl), good_nil, mixedOk⟩ Try.func46 rfl rfl E46_eq
/-- laws.markTicketS -/
noncomputable def l_markTicketS (p_a : List GTicket) (p_k : Int) : Option ((List GTicket) × Int) :=
  (loopE (fun (st2 : (List GTicket) × Int × Int) => (
      bif (decide (st2.2.2 < (st2.1.length : Int))) then
        bif decide (0 ≤ st2.2.2) && decide (st2.2.2 < (st2.1.length : Int)) then
          (st2.1[(Int.toNat st2.2.2)]?).bind fun e3 =>
          bif decide (0 ≤ st2.2.2) && decide (st2.2.2 < ((st2.1.set (Int.toNat st2.2.2) (st2.2.1, e3.2)).length : Int)) then
            ((st2.1.set (Int.toNat st2.2.2) (st2.2.1, e3.2))[(Int.toNat st2.2.2)]?).bind fun e4 =>
            bif decide (0 ≤ st2.2.2) && decide (st2.2.2 < (((st2.1.set (Int.toNat st2.2.2) (st2.2.1, e3.2)).set (Int.toNat st2.2.2) (e4.1, (w64 (st2.2.1 + 1)), e4.2.2)).length : Int)) then
              (((st2.1.set (Int.toNat st2.2.2) (st2.2.1, e3.2)).set (Int.toNat st2.2.2) (e4.1, (w64 (st2.2.1 + 1)), e4.2.2))[(Int.toNat st2.2.2)]?).bind fun e5 =>
              (l_markIntS e5.2.2.1 (w64 ((w64 (st2.2.1 + 1)) + 1))).bind fun r6 =>
              bif decide (0 ≤ st2.2.2) && decide (st2.2.2 < ((((st2.1.set (Int.toNat st2.2.2) (st2.2.1, e3.2)).set (Int.toNat st2.2.2) (e4.1, (w64 (st2.2.1 + 1)), e4.2.2)).set (Int.toNat st2.2.2) (e5.1, e5.2.1, r6.1, e5.2.2.2)).length : Int)) then
                ((((st2.1.set (Int.toNat st2.2.2) (st2.2.1, e3.2)).set (Int.toNat st2.2.2) (e4.1, (w64 (st2.2.1 + 1)), e4.2.2)).set (Int.toNat st2.2.2) (e5.1, e5.2.1, r6.1, e5.2.2.2))[(Int.toNat st2.2.2)]?).bind fun e7 =>
                some (.inl (((((st2.1.set (Int.toNat st2.2.2) (st2.2.1, e3.2)).set (Int.toNat st2.2.2) (e4.1, (w64 (st2.2.1 + 1)), e4.2.2)).set (Int.toNat st2.2.2) (e5.1, e5.2.1, r6.1, e5.2.2.2)).set (Int.toNat st2.2.2) (e7.1, e7.2.1, e7.2.2.1, r6.2, ())), (w64 (r6.2 + 1)), (w64 (st2.2.2 + 1))))
              else
                none
            else
              none
          else
            none
        else
          none
      else
        some (.inr (st2.1, st2.2.1)) : Option (((List GTicket) × Int × Int) ⊕ (((List GTicket) × Int))))) (p_a, p_k, 0)).bind fun o8 =>
  some (o8.1, o8.2)
noncomputable def C18 : FnSpec := { ps := [.own (.slice TGTicket), .val (.int .i64)], rs := [.val (.int .i64)], fn := fun x => l_markTicketS x.1 x.2 }
noncomputable def E18 : Env := { T := [(3, (.int .i64)), (26, (.slice TGTicket)), (52, (.slice (.int .i64))), (56, TGTicket)], G := [(46, C46)], ro := [], loops := [(2, { keep := [], live := [.own 0 [] 100000 TGTicket true, .tv 1 (.int .i64), .tv 5 (.int .i64)], outs := [(.exit 0, [.own 0 [] 100000 TGTicket true, .tv 1 (.int .i64)])] })], joins := [] }
theorem E18_eq : ∀ x, afun E18 Try.f18 C18.ps C18.rs x = C18.fn x := fun x => by kernel_rfl
theorem S18 : Sound Try.prog 18 C18 := fun_sound_own (E := E18) ⟨good_T (by kernel_rfl), (good_cons S46 ⟨_, Try.func46, by kernel_rfl, by kernel_rfl⟩ good_nil), mixedOk⟩ Try.func18 rfl rfl E18_eq
/-- laws.markIntSS -/
noncomputable def l_markIntSS (p_a : List (List Int)) (p_k : Int) : Option ((List (List Int)) × Int) :=
  (loopE (fun (st2 : (List (List Int)) × Int × Int) => (
      bif (decide (st2.2.2 < (st2.1.length : Int))) then
        bif decide (0 ≤ st2.2.2) && decide (st2.2.2 < (st2.1.length : Int)) then
          (st2.1[(Int.toNat st2.2.2)]?).bind fun e3 =>
          (l_markIntS e3 st2.2.1).bind fun r4 =>
          some (.inl ((st2.1.set (Int.toNat st2.2.2) r4.1), r4.2, (w64 (st2.2.2 + 1))))
        else
          none
      else
        some (.inr (st2.1, st2.2.1)) : Option (((List (List Int)) × Int × Int) ⊕ (((List (List Int)) × Int))))) (p_a, p_k, 0)).bind fun o5 =>
  some (o5.1, o5.2)
noncomputable def C19 : FnSpec := { ps := [.own (.slice (.slice (.int .i64))), .val (.int .i64)], rs := [.val (.int .i64)], fn := fun x => l_markIntSS x.1 x.2 }
noncomputable def E19 : Env := { T := [(30, (.slice (.slice (.int .i64)))), (52, (.slice (.int .i64)))], G := [(46, C46)], ro := [], loops := [(2, { keep := [], live := [.own 0 [] 100000 (.slice (.int .i64)) true, .tv 1 (.int .i64), .tv 5 (.int .i64)], outs := [(.exit 0, [.own 0 [] 100000 (.slice (.int .i64)) true, .tv 1 (.int .i64)])] })], joins := [] }
theorem E19_eq : ∀ x, afun E19 Try.f19 C19.ps C19.rs x = C19.fn x := fun x => by kernel_rfl
theorem S19 : Sound Try.prog 19 C19 := fun_sound_own (E := E19) ⟨good_T (by kernel_rfl), (good_cons S46 ⟨_, Try.func46, by kernel_rfl, by kernel_rfl⟩ good_nil), mixedOk⟩ Try.func19 rfl rfl E19_eq
/-- laws.heldIntS -/
noncomputable def l_heldIntS (p_a : List Int) (p_k : Int) : Option (Int) :=
  (loopE (fun (st2 : Int × Int) => (
      bif (decide (st2.2 < (p_a.length : Int))) then
        (idx p_a st2.2).bind fun e3 =>
        bif (!decide (e3 = st2.1)) then
          some (.inr (.inr (-1)))
        else
          some (.inl ((w64 (st2.1 + 1)), (w64 (st2.2 + 1))))
      else
        some (.inr (.inl st2.1)) : Option ((Int × Int) ⊕ (Int ⊕ Int)))) (p_k, 0)).bind fun o4 =>
  match o4 with
  | .inl x5 =>
    some x5
  | .inr y6 =>
    some y6
noncomputable def C47 : FnSpec := { ps := [.val (.slice (.int .i64)), .val (.int .i64)], rs := [.val (.int .i64)], fn := fun x => l_heldIntS x.1 x.2 }
noncomputable def E47 : Env := { T := [(3, (.int .i64)), (52, (.slice (.int .i64)))], G := [], ro := [], loops := [(2, { keep := [0], live := [.tv 1 (.int .i64), .tv 5 (.int .i64)], outs := [(.exit 0, [.tv 1 (.int .i64)]), (.ret, [.tv 4 (.int .i64)])] })], joins := [] }
theorem E47_eq : ∀ x, afun E47 Try.f47 C47.ps C47.rs x = C47.fn x := fun x => by kernel_rfl
theorem S47 : Sound Try.prog 47 C47 := fun_sound (E := E47) ⟨good_T (by kernel_rfl), good_nil, mixedOk⟩ Try.func47 rfl E47_eq
/-- laws.heldIntSS -/
noncomputable def l_heldIntSS (p_a : List (List Int)) (p_k : Int) : Option (Int) :=
  (loopE (fun (st2 : Int × Int) => (
      bif (decide (st2.2 < (p_a.length : Int))) then
        (idx p_a st2.2).bind fun e3 =>
        (l_heldIntS e3 st2.1).bind fun r4 =>
        bif (decide (r4 < 0)) then
          some (.inr (.inr (-1)))
        else
          some (.inl (r4, (w64 (st2.2 + 1))))
      else
        some (.inr (.inl st2.1)) : Option ((Int × Int) ⊕ (Int ⊕ Int)))) (p_k, 0)).bind fun o5 =>
  match o5 with
  | .inl x6 =>
    some x6
  | .inr y7 =>
    some y7
noncomputable def C20 : FnSpec := { ps := [.val (.slice (.slice (.int .i64))), .val (.int .i64)], rs := [.val (.int .i64)], fn := fun x => l_heldIntSS x.1 x.2 }
noncomputable def E20 : Env := { T := [(30, (.slice (.slice (.int .i64)))), (52, (.slice (.int .i64)))], G := [(47, C47)], ro := [], loops := [(2, { keep := [0], live := [.tv 1 (.int .i64), .tv 5 (.int .i64)], outs := [(.exit 0, [.tv 1 (.int .i64)]), (.ret, [.tv 4 (.int .i64)])] })], joins := [] }
theorem E20_eq : ∀ x, afun E20 Try.f20 C20.ps C20.rs x = C20.fn x := fun x => by kernel_rfl
theorem S20 : Sound Try.prog 20 C20 := fun_sound (E := E20) ⟨good_T (by kernel_rfl), (good_cons S47 ⟨_, Try.func47, by kernel_rfl, by kernel_rfl⟩ good_nil), mixedOk⟩ Try.func20 rfl E20_eq
/-- laws.FnExactPartsToSend -/
noncomputable def l_FnExactPartsToSend (p_aL : List GTicket) : Option (Bool) :=
  (l_szTicketS p_aL 1048576).bind fun r1 =>
  bif (decide (r1 < 0)) then
    some true
  else
    (l_toTicketS p_aL).bind fun r2 =>
    (s_PartsToSend r2).bind fun r3 =>
    (l_toTicketS p_aL).bind fun r4 =>
    (i_PartsToSend r4).bind fun r5 =>
    (l_eqIntSS r5.1 r3.1).bind fun r6 =>
    (bif (!r6) then
        some true
      else
        some (r5.2 != r3.2)).bind fun c7 =>
    bif c7 then
      some false
    else
      (l_toTicketS p_aL).bind fun r8 =>
      (l_eqTicketS r4 r8).bind fun r9 =>
      bif (!r9) then
        some false
      else
        (l_markTicketS r4 1).bind fun r10 =>
        (bif (decide (r10.2 < 0)) then
            some true
          else
            (l_eqIntSS r5.1 r3.1).bind fun r11 =>
            some (!r11)).bind fun c12 =>
        (bif c12 then
            some true
          else
            some (r5.2 != r3.2)).bind fun c13 =>
        bif c13 then
          some false
        else
          (l_markIntSS r5.1 1).bind fun r14 =>
          (l_heldIntSS r14.1 1).bind fun r15 =>
          bif (decide (r15 < 0)) then
            some false
          else
            bif (!decide (r15 = r14.2)) then
              some false
            else
              (l_toTicketS p_aL).bind fun r16 =>
              (i_PartsToSend r16).bind fun r17 =>
              (l_eqIntSS r17.1 r3.1).bind fun r18 =>
              (bif (!r18) then
                  some true
                else
                  some (r17.2 != r3.2)).bind fun c19 =>
              bif c19 then
                some false
              else
                (l_heldIntSS r14.1 1).bind fun r20 =>
                bif (decide (r20 < 0)) then
                  some false
                else
                  bif (!decide (r20 = r14.2)) then
                    some false
                  else
                    some true
noncomputable def C4 : FnSpec := { ps := [.val (.slice TGTicket)], rs := [.val .bool], fn := fun x => l_FnExactPartsToSend x }
noncomputable def E4 : Env := { T := [(4, .bool)], G := [(10, C10), (12, C12), (14, C14), (15, C15), (16, C16), (17, C17), (18, C18), (19, C19), (20, C20)], ro := [], loops := [], joins := [] }
theorem E4_eq : ∀ x, afun E4 Try.f4 C4.ps C4.rs x = C4.fn x := fun x => by kernel_rfl
theorem S4 : Sound Try.prog 4 C4 := fun_sound (E := E4) ⟨good_T (by kernel_rfl), (good_cons S10 ⟨_, Try.func10, by kernel_rfl, by kernel_rfl⟩ (good_cons S12 ⟨_, Try.func12, by kernel_rfl, by kernel_rfl⟩ (good_cons S14 ⟨_, Try.func14, by kernel_rfl, by kernel_rfl⟩ (good_cons S15 ⟨_, Try.func15, by kernel_rfl, by kernel_rfl⟩ (good_cons S16 ⟨_, Try.func16, by kernel_rfl, by kernel_rfl⟩ (good_cons S17 ⟨_, Try.func17, by kernel_rfl, by kernel_rfl⟩ (good_cons S18 ⟨_, Try.func18, by kernel_rfl, by kernel_rfl⟩ (good_cons S19 ⟨_, Try.func19, by kernel_rfl, by kernel_rfl⟩ (good_cons S20 ⟨_, Try.func20, by kernel_rfl, by kernel_rfl⟩ good_nil))))))))), mixedOk⟩ Try.func4 rfl E4_eq
end Go.Proofs.Ytmbfkohjflhpbaa.Sh
