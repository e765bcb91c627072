/-
  The functions that the statement reaches, as plain functions; each with its contract.
-/
import Derived.Test.YteocijadidgagaaDoorXLift
import Derived.Test.YteocijadidgagaaDoorChecked
import Derived.KernelRfl
import Derived.Test.YteocijadidgagaaDoorRBase
namespace Go.Proofs.YteocijadidgagaaDoor.Sh
open Go Go.Ab Go.Proofs
set_option maxRecDepth 100000
abbrev TGerrorAddressString : Ty := .pair .str (.pair (.int .u64) .unit)
abbrev GerrorAddressString : Type := Bytes × Int × Unit
abbrev TGboundsError : Ty := .pair (.int .i64) (.pair (.int .i64) (.pair .bool (.pair (.int .u8) .unit)))
abbrev GboundsError : Type := Int × Int × Bool × Int × Unit
abbrev TGTicket : Ty := .pair (.int .i64) (.pair (.int .i64) (.pair (.slice (.int .i64)) (.pair (.int .i64) .unit)))
abbrev GTicket : Type := Int × Int × (List Int) × Int × Unit
theorem mixedOk : Tryd.prog.follows .mixedOrders = true := by kernel_rfl
/-- laws.szIntS -/
noncomputable def l_szIntS (p_a : List Int) (p_left : Int) : Option (Int) :=
  bif (decide ((w64 (p_left - (p_a.length : Int))) < 0)) then
    some (-1)
  else
    some (w64 (p_left - (p_a.length : Int)))
noncomputable def C19 : FnSpec := { ps := [.val (.slice (.int .i64)), .val (.int .i64)], rs := [.val (.int .i64)], fn := fun x => l_szIntS x.1 x.2 }
noncomputable def E19 : Env := { T := [(31, (.slice (.int .i64)))], G := [], ro := [], loops := [], joins := [] }
theorem E19_eq : ∀ x, afun E19 Tryd.f19 C19.ps C19.rs x = C19.fn x := fun x => by kernel_rfl
theorem S19 : Sound Tryd.prog 19 C19 := fun_sound (E := E19) ⟨good_T (by kernel_rfl), good_nil, mixedOk, ins_nil⟩ Tryd.func19 rfl E19_eq
/-- laws.szTicket -/
noncomputable def l_szTicket (p_a : GTicket) (p_left : Int) : Option (Int) :=
  (l_szIntS p_a.2.2.1 p_left).bind fun r1 =>
  bif (decide (r1 < 0)) then
    some (-1)
  else
    some r1
noncomputable def C9 : FnSpec := { ps := [.val TGTicket, .val (.int .i64)], rs := [.val (.int .i64)], fn := fun x => l_szTicket x.1 x.2 }
noncomputable def E9 : Env := { T := [(31, (.slice (.int .i64))), (33, TGTicket)], G := [(19, C19)], ro := [2], loops := [], joins := [] }
theorem E9_eq : ∀ x, afun E9 Tryd.f9 C9.ps C9.rs x = C9.fn x := fun x => by kernel_rfl
theorem S9 : Sound Tryd.prog 9 C9 := fun_sound (E := E9) ⟨good_T (by kernel_rfl), (good_cons S19 ⟨_, Tryd.func19, by kernel_rfl, by kernel_rfl⟩ good_nil), mixedOk, ins_nil⟩ Tryd.func9 rfl E9_eq
/-- laws.szTicketS -/
noncomputable def l_szTicketS (p_a : List GTicket) (p_left : Int) : Option (Int) :=
  bif (decide ((w64 (p_left - (p_a.length : Int))) < 0)) then
    some (-1)
  else
    (loopE (fun (st2 : Int × Int) => (
        bif (decide (st2.2 < (p_a.length : Int))) then
          (idx p_a st2.2).bind fun e3 =>
          (l_szTicket e3 st2.1).bind fun r4 =>
          bif (decide (r4 < 0)) then
            some (.inr (.inr (-1)))
          else
            some (.inl (r4, (w64 (st2.2 + 1))))
        else
          some (.inr (.inl st2.1)) : Option ((Int × Int) ⊕ (Int ⊕ Int)))) ((w64 (p_left - (p_a.length : Int))), 0)).bind fun o5 =>
    match o5 with
    | .inl x6 =>
      some x6
    | .inr y7 =>
      some y7
noncomputable def C4 : FnSpec := { ps := [.val (.slice TGTicket), .val (.int .i64)], rs := [.val (.int .i64)], fn := fun x => l_szTicketS x.1 x.2 }
noncomputable def E4 : Env := { T := [(22, (.slice TGTicket)), (33, TGTicket)], G := [(9, C9)], ro := [], loops := [(5, { keep := [0], live := [.tv 1 (.int .i64), .tv 5 (.int .i64)], outs := [(.exit 0, [.tv 1 (.int .i64)]), (.ret, [.tv 4 (.int .i64)])] })], joins := [] }
theorem E4_eq : ∀ x, afun E4 Tryd.f4 C4.ps C4.rs x = C4.fn x := fun x => by kernel_rfl
theorem S4 : Sound Tryd.prog 4 C4 := fun_sound (E := E4) ⟨good_T (by kernel_rfl), (good_cons S9 ⟨_, Tryd.func9, by kernel_rfl, by kernel_rfl⟩ good_nil), mixedOk, ins_nil⟩ Tryd.func4 rfl E4_eq
/-- spec.dkFind -/
noncomputable def s_dkFind (p_l : List GTicket) (p_message : Int) : Option (Int) :=
  (loopE (fun (st2 : Int) => (
      bif (decide (st2 < (p_l.length : Int))) then
        (idx p_l st2).bind fun e3 =>
        bif (decide (e3.1 = p_message)) then
          some (.inr (.inr st2))
        else
          some (.inl (w64 (st2 + 1)))
      else
        some (.inr (.inl ())) : Option ((Int) ⊕ (Unit ⊕ Int)))) 0).bind fun o4 =>
  match o4 with
  | .inl _ =>
    some (-1)
  | .inr y6 =>
    some y6
noncomputable def C10 : FnSpec := { ps := [.val (.slice TGTicket), .val (.int .i64)], rs := [.val (.int .i64)], fn := fun x => s_dkFind x.1 x.2 }
noncomputable def E10 : Env := { T := [(3, (.int .i64)), (26, (.slice TGTicket)), (36, TGTicket)], G := [], ro := [], loops := [(2, { keep := [1, 7, 8], live := [.tv 9 (.int .i64)], outs := [(.exit 0, []), (.ret, [.tv 4 (.int .i64)])] })], joins := [] }
theorem E10_eq : ∀ x, afun E10 Tryd.f10 C10.ps C10.rs x = C10.fn x := fun x => by kernel_rfl
theorem S10 : Sound Tryd.prog 10 C10 := fun_sound (E := E10) ⟨good_T (by kernel_rfl), good_nil, mixedOk, ins_nil⟩ Tryd.func10 rfl E10_eq
/-- spec.l1In -/
noncomputable def s_l1In (p_n : Int) (p_lo : Int) (p_hi : Int) : Option (Bool) :=
  (bif (decide (p_lo ≤ p_n)) then
      some (decide (p_n ≤ p_hi))
    else
      some false).bind fun c1 =>
  some c1
noncomputable def C30 : FnSpec := { ps := [.val (.int .i64), .val (.int .i64), .val (.int .i64)], rs := [.val .bool], fn := fun x => s_l1In x.1 x.2.1 x.2.2 }
noncomputable def E30 : Env := { T := [], G := [], ro := [], loops := [], joins := [] }
theorem E30_eq : ∀ x, afun E30 Tryd.f30 C30.ps C30.rs x = C30.fn x := fun x => by kernel_rfl
theorem S30 : Sound Tryd.prog 30 C30 := fun_sound (E := E30) ⟨good_T (by kernel_rfl), good_nil, mixedOk, ins_nil⟩ Tryd.func30 rfl E30_eq
/-- spec.l1Rising -/
noncomputable def s_l1Rising (p_l : List Int) (p_lo : Int) (p_hi : Int) : Option (Bool) :=
  (loopE (fun (st2 : Int) => (
      bif (decide (st2 < (p_l.length : Int))) then
        (idx p_l st2).bind fun e3 =>
        (s_l1In e3 p_lo p_hi).bind fun r4 =>
        (bif (!r4) then
            some true
          else
            (bif (decide (0 < st2)) then
                (idx p_l (w64 (st2 - 1))).bind fun e5 =>
                some (decide (e3 ≤ e5))
              else
                some false).bind fun c6 =>
            some c6).bind fun c7 =>
        bif c7 then
          some (.inr (.inr false))
        else
          some (.inl (w64 (st2 + 1)))
      else
        some (.inr (.inl ())) : Option ((Int) ⊕ (Unit ⊕ Bool)))) 0).bind fun o8 =>
  match o8 with
  | .inl _ =>
    some true
  | .inr y10 =>
    some y10
noncomputable def C31 : FnSpec := { ps := [.val (.slice (.int .i64)), .val (.int .i64), .val (.int .i64)], rs := [.val .bool], fn := fun x => s_l1Rising x.1 x.2.1 x.2.2 }
noncomputable def E31 : Env := { T := [(3, (.int .i64)), (31, (.slice (.int .i64)))], G := [(30, C30)], ro := [], loops := [(2, { keep := [0, 1, 2, 9, 10], live := [.tv 11 (.int .i64)], outs := [(.exit 0, []), (.ret, [.tv 6 .bool])] })], joins := [] }
theorem E31_eq : ∀ x, afun E31 Tryd.f31 C31.ps C31.rs x = C31.fn x := fun x => by kernel_rfl
theorem S31 : Sound Tryd.prog 31 C31 := fun_sound (E := E31) ⟨good_T (by kernel_rfl), (good_cons S30 ⟨_, Tryd.func30, by kernel_rfl, by kernel_rfl⟩ good_nil), mixedOk, ins_nil⟩ Tryd.func31 rfl E31_eq
/-- spec.dkTicket -/
noncomputable def s_dkTicket (p_x : GTicket) : Option (Bool) :=
  (s_l1In p_x.1 1 999).bind fun r1 =>
  (bif r1 then
      (s_l1In p_x.2.1 1 9).bind fun r2 =>
      some r2
    else
      some false).bind fun c3 =>
  (bif c3 then
      (s_l1Rising p_x.2.2.1 0 (w64 (p_x.2.1 - 1))).bind fun r4 =>
      some r4
    else
      some false).bind fun c5 =>
  (bif c5 then
      (s_l1In p_x.2.2.2.1 0 2).bind fun r6 =>
      some r6
    else
      some false).bind fun c7 =>
  (bif c7 then
      some ((decide ((p_x.2.2.1.length : Int) = p_x.2.1)) == (decide (p_x.2.2.2.1 = 1)))
    else
      some false).bind fun c8 =>
  some c8
noncomputable def C20 : FnSpec := { ps := [.val TGTicket], rs := [.val .bool], fn := fun x => s_dkTicket x }
noncomputable def E20 : Env := { T := [(3, (.int .i64)), (4, .bool), (31, (.slice (.int .i64))), (36, TGTicket)], G := [(30, C30), (31, C31)], ro := [1], loops := [], joins := [] }
theorem E20_eq : ∀ x, afun E20 Tryd.f20 C20.ps C20.rs x = C20.fn x := fun x => by kernel_rfl
theorem S20 : Sound Tryd.prog 20 C20 := fun_sound (E := E20) ⟨good_T (by kernel_rfl), (good_cons S30 ⟨_, Tryd.func30, by kernel_rfl, by kernel_rfl⟩ (good_cons S31 ⟨_, Tryd.func31, by kernel_rfl, by kernel_rfl⟩ good_nil)), mixedOk, ins_nil⟩ Tryd.func20 rfl E20_eq
/-- spec.dkGood -/
noncomputable def s_dkGood (p_l : List GTicket) : Option (Bool) :=
  (loopE (fun (st2 : Int) => (
      bif (decide (st2 < (p_l.length : Int))) then
        (idx p_l st2).bind fun e3 =>
        (s_dkTicket e3).bind fun r4 =>
        (bif (!r4) then
            some true
          else
            (bif (decide (0 < st2)) then
                (idx p_l (w64 (st2 - 1))).bind fun e5 =>
                some (decide (e3.1 ≤ e5.1))
              else
                some false).bind fun c6 =>
            some c6).bind fun c7 =>
        bif c7 then
          some (.inr (.inr false))
        else
          some (.inl (w64 (st2 + 1)))
      else
        some (.inr (.inl ())) : Option ((Int) ⊕ (Unit ⊕ Bool)))) 0).bind fun o8 =>
  match o8 with
  | .inl _ =>
    some (decide ((p_l.length : Int) ≤ 20))
  | .inr y10 =>
    some y10
noncomputable def C11 : FnSpec := { ps := [.val (.slice TGTicket)], rs := [.val .bool], fn := fun x => s_dkGood x }
noncomputable def E11 : Env := { T := [(3, (.int .i64)), (26, (.slice TGTicket)), (36, TGTicket)], G := [(20, C20)], ro := [], loops := [(2, { keep := [0, 5, 6], live := [.tv 7 (.int .i64)], outs := [(.exit 0, []), (.ret, [.tv 2 .bool])] })], joins := [] }
theorem E11_eq : ∀ x, afun E11 Tryd.f11 C11.ps C11.rs x = C11.fn x := fun x => by kernel_rfl
theorem S11 : Sound Tryd.prog 11 C11 := fun_sound (E := E11) ⟨good_T (by kernel_rfl), (good_cons S20 ⟨_, Tryd.func20, by kernel_rfl, by kernel_rfl⟩ good_nil), mixedOk, ins_nil⟩ Tryd.func11 rfl E11_eq


/-- spec.l1Num -/
noncomputable def s_l1Num_step (s_l1Num_again : Int → Option (Bytes)) (p_n : Int) : Option (Bytes) :=
  bif (decide (p_n < 10)) then
    some (toStr [(IntKind.u8.wrap (w64 (48 + p_n)))])
  else
    (s_l1Num_again (w64 (Int.tdiv p_n 10))).bind fun r1 =>
    bif decide (List.length r1 + List.length (toStr [(IntKind.u8.wrap (w64 (48 + (Int.tmod p_n 10))))]) ≤ lim) then
      some (r1 ++ (toStr [(IntKind.u8.wrap (w64 (48 + (Int.tmod p_n 10))))]))
    else
      none
noncomputable def s_l1Num_it : Nat → Int → Option (Bytes)
  | 0, _ => none
  | k + 1, p_n => s_l1Num_step (s_l1Num_it k) p_n
noncomputable def s_l1Num (p_n : Int) : Option (Bytes) := limE fun k => s_l1Num_it k p_n
noncomputable def C12 : FnSpec := { ps := [.val (.int .i64)], rs := [.val .str], fn := fun x => s_l1Num x }
noncomputable def CR12 (again : Int → Option (Bytes)) : FnSpec := { ps := [.val (.int .i64)], rs := [.val .str], fn := fun x => again x }
noncomputable def E12 (again : Int → Option (Bytes)) : Env := { T := [(3, (.int .i64)), (5, (.int .u8)), (9, .str), (44, (.slice (.int .u8)))], G := [(12, CR12 again)], ro := [], loops := [], joins := [] }
theorem E12_eq : ∀ (again : Int → Option (Bytes)) x, afun (E12 again) Tryd.f12 C12.ps C12.rs x = s_l1Num_step again x := fun again x => by kernel_rfl
theorem S12_it : ∀ k, Sound Tryd.prog 12 (CR12 (s_l1Num_it k))
  | 0 => fun _ _ _ _ _ _ _ _ _ _ h => nomatch h
  | k + 1 => fun_sound (E := E12 (s_l1Num_it k)) ⟨good_T (by kernel_rfl), (good_cons (S12_it k) ⟨_, Tryd.func12, by kernel_rfl, by kernel_rfl⟩ good_nil), mixedOk, ins_nil⟩ Tryd.func12 rfl (E12_eq _)
theorem S12 : Sound Tryd.prog 12 C12 := sound_lim (P := Tryd.prog) (f := 12) (ps := C12.ps) (rs := C12.rs) (g := fun k x => s_l1Num_it k x) S12_it
/-- spec.ReceiptText -/
noncomputable def s_ReceiptText (p_l : List GTicket) (p_message : Int) : Option (Bytes × Bool) :=
  (s_dkFind p_l p_message).bind fun r1 =>
  (s_dkGood p_l).bind fun r2 =>
  (bif (!r2) then
      some true
    else
      some (decide (r1 < 0))).bind fun c3 =>
  bif c3 then
    some ([], false)
  else
    (idx p_l r1).bind fun e4 =>
    (s_l1Num (e4.2.2.1.length : Int)).bind fun r5 =>
    bif decide (List.length ([32] : Bytes) + List.length r5 ≤ lim) then
      bif decide (List.length (([32] : Bytes) ++ r5) + List.length ([47] : Bytes) ≤ lim) then
        (s_l1Num e4.2.1).bind fun r6 =>
        bif decide (List.length ((([32] : Bytes) ++ r5) ++ ([47] : Bytes)) + List.length r6 ≤ lim) then
          (s_l1Num p_message).bind fun r7 =>
          bif decide (List.length ([32, 111, 112, 101, 110] : Bytes) + List.length (((([32] : Bytes) ++ r5) ++ ([47] : Bytes)) ++ r6) ≤ lim) then
            bif decide (List.length ([32, 102, 97, 105, 108, 101, 100] : Bytes) + List.length (((([32] : Bytes) ++ r5) ++ ([47] : Bytes)) ++ r6) ≤ lim) then
              bif decide (0 ≤ e4.2.2.2.1) && decide (e4.2.2.2.1 < ([(([32, 111, 112, 101, 110] : Bytes) ++ (((([32] : Bytes) ++ r5) ++ ([47] : Bytes)) ++ r6)), ([32, 97, 114, 114, 105, 118, 101, 100] : Bytes), (([32, 102, 97, 105, 108, 101, 100] : Bytes) ++ (((([32] : Bytes) ++ r5) ++ ([47] : Bytes)) ++ r6))].length : Int)) then
                ([(([32, 111, 112, 101, 110] : Bytes) ++ (((([32] : Bytes) ++ r5) ++ ([47] : Bytes)) ++ r6)), ([32, 97, 114, 114, 105, 118, 101, 100] : Bytes), (([32, 102, 97, 105, 108, 101, 100] : Bytes) ++ (((([32] : Bytes) ++ r5) ++ ([47] : Bytes)) ++ r6))][(Int.toNat e4.2.2.2.1)]?).bind fun e8 =>
                bif decide (List.length r7 + List.length e8 ≤ lim) then
                  some ((r7 ++ e8), true)
                else
                  none
              else
                none
            else
              none
          else
            none
        else
          none
      else
        none
    else
      none
noncomputable def C5 : FnSpec := { ps := [.val (.slice TGTicket), .val (.int .i64)], rs := [.val .str, .val .bool], fn := fun x => s_ReceiptText x.1 x.2 }
noncomputable def E5 : Env := { T := [(3, (.int .i64)), (9, .str), (26, (.slice TGTicket)), (31, (.slice (.int .i64))), (36, TGTicket), (38, (.slice .str))], G := [(10, C10), (11, C11), (12, C12)], ro := [], loops := [], joins := [] }
theorem E5_eq : ∀ x, afun E5 Tryd.f5 C5.ps C5.rs x = C5.fn x := fun x => by kernel_rfl
theorem S5 : Sound Tryd.prog 5 C5 := fun_sound (E := E5) ⟨good_T (by kernel_rfl), (good_cons S10 ⟨_, Tryd.func10, by kernel_rfl, by kernel_rfl⟩ (good_cons S11 ⟨_, Tryd.func11, by kernel_rfl, by kernel_rfl⟩ (good_cons S12 ⟨_, Tryd.func12, by kernel_rfl, by kernel_rfl⟩ good_nil))), mixedOk, ins_nil⟩ Tryd.func5 rfl E5_eq
/-- laws.toIntS -/
noncomputable def l_toIntS (p_a : List Int) : Option ((List Int)) :=
  bif decide (0 ≤ (p_a.length : Int)) && decide ((p_a.length : Int) ≤ (p_a.length : Int)) && decide ((p_a.length : Int) ≤ lim) then
    (loopE (fun (st2 : (List Int) × Int) => (
        bif (decide (st2.2 < (p_a.length : Int))) then
          (idx p_a st2.2).bind fun e3 =>
          bif decide (0 ≤ st2.2) && decide (st2.2 < (st2.1.length : Int)) then
            some (.inl ((st2.1.set (Int.toNat st2.2) e3), (w64 (st2.2 + 1))))
          else
            none
        else
          some (.inr st2.1) : Option (((List Int) × Int) ⊕ ((List Int))))) ((List.replicate (Int.toNat (p_a.length : Int)) (0 : Int)), 0)).bind fun o4 =>
    some o4
  else
    none
noncomputable def C21 : FnSpec := { ps := [.val (.slice (.int .i64))], rs := [.own (.slice (.int .i64))], fn := fun x => l_toIntS x }
noncomputable def E21 : Env := { T := [(3, (.int .i64)), (31, (.slice (.int .i64)))], G := [], ro := [], loops := [(3, { keep := [0], live := [.own 3 [] 112 (.int .i64) true, .tv 4 (.int .i64)], outs := [(.exit 0, [.own 3 [] 112 (.int .i64) true])] })], joins := [] }
theorem E21_eq : ∀ x, afun E21 Tryd.f21 C21.ps C21.rs x = C21.fn x := fun x => by kernel_rfl
theorem S21 : Sound Tryd.prog 21 C21 := fun_sound (E := E21) ⟨good_T (by kernel_rfl), good_nil, mixedOk, ins_nil⟩ Tryd.func21 rfl E21_eq
/-- laws.toTicket -/
noncomputable def l_toTicket (p_a : GTicket) : Option (GTicket) :=
  (l_toIntS p_a.2.2.1).bind fun r1 =>
  some (p_a.1, p_a.2.1, r1, p_a.2.2.2)
noncomputable def C13 : FnSpec := { ps := [.val TGTicket], rs := [.own TGTicket], fn := fun x => l_toTicket x }
noncomputable def E13 : Env := { T := [(3, (.int .i64)), (31, (.slice (.int .i64))), (33, TGTicket), (36, TGTicket)], G := [(21, C21)], ro := [1], loops := [], joins := [] }
theorem E13_eq : ∀ x, afun E13 Tryd.f13 C13.ps C13.rs x = C13.fn x := fun x => by kernel_rfl
theorem S13 : Sound Tryd.prog 13 C13 := fun_sound (E := E13) ⟨good_T (by kernel_rfl), (good_cons S21 ⟨_, Tryd.func21, by kernel_rfl, by kernel_rfl⟩ good_nil), mixedOk, ins_nil⟩ Tryd.func13 rfl E13_eq
/-- laws.toTicketS -/
noncomputable def l_toTicketS (p_a : List GTicket) : Option ((List GTicket)) :=
  bif decide (0 ≤ (p_a.length : Int)) && decide ((p_a.length : Int) ≤ (p_a.length : Int)) && decide ((p_a.length : Int) ≤ lim) then
    (loopE (fun (st2 : (List GTicket) × Int) => (
        bif (decide (st2.2 < (p_a.length : Int))) then
          (idx p_a st2.2).bind fun e3 =>
          (l_toTicket e3).bind fun r4 =>
          bif decide (0 ≤ st2.2) && decide (st2.2 < (st2.1.length : Int)) then
            some (.inl ((st2.1.set (Int.toNat st2.2) r4), (w64 (st2.2 + 1))))
          else
            none
        else
          some (.inr st2.1) : Option (((List GTicket) × Int) ⊕ ((List GTicket))))) ((List.replicate (Int.toNat (p_a.length : Int)) ((0, (0, ([], (0, ())))) : GTicket)), 0)).bind fun o5 =>
    some o5
  else
    none
noncomputable def C6 : FnSpec := { ps := [.val (.slice TGTicket)], rs := [.own (.slice TGTicket)], fn := fun x => l_toTicketS x }
noncomputable def E6 : Env := { T := [(22, (.slice TGTicket)), (26, (.slice TGTicket)), (33, TGTicket), (36, TGTicket)], G := [(13, C13)], ro := [], loops := [(3, { keep := [0], live := [.own 3 [] 112 TGTicket true, .tv 4 (.int .i64)], outs := [(.exit 0, [.own 3 [] 112 TGTicket true])] })], joins := [], mv := true }
theorem E6_eq : ∀ x, afun E6 Tryd.f6 C6.ps C6.rs x = C6.fn x := fun x => by kernel_rfl
theorem S6 : Sound Tryd.prog 6 C6 := fun_sound (E := E6) ⟨good_T (by kernel_rfl), (good_cons S13 ⟨_, Tryd.func13, by kernel_rfl, by kernel_rfl⟩ good_nil), mixedOk, ins_nil⟩ Tryd.func6 rfl E6_eq
/-- impl.ticketIndex$1 -/
noncomputable def i_ticketIndex_1 (p_x : GTicket) (p_a1 : Int) : Option (Bool) :=
  some (decide (p_x.1 = p_a1))
noncomputable def C23 : FnSpec := { ps := [.val TGTicket, .rp (.int .i64)], rs := [.val .bool], fn := fun x => i_ticketIndex_1 x.1 x.2 }
noncomputable def E23 : Env := { T := [(3, (.int .i64)), (36, TGTicket)], G := [], ro := [2], loops := [], joins := [] }
theorem E23_eq : ∀ x, afun E23 Tryd.f23 C23.ps C23.rs x = C23.fn x := fun x => by kernel_rfl
theorem S23 : Sound Tryd.prog 23 C23 := fun_sound (E := E23) ⟨good_T (by kernel_rfl), good_nil, mixedOk, ins_nil⟩ Tryd.func23 rfl E23_eq
/-- slices.IndexFunc[[]impl.Ticket,impl.Ticket] -/
noncomputable def slices_IndexFunc_Ticket_23 (p_s : List GTicket) (p_f : Int × Unit) : Option (Int) :=
  (loopE (fun (st2 : Int) => (
      bif (decide (st2 < (p_s.length : Int))) then
        (idx p_s st2).bind fun e3 =>
        (i_ticketIndex_1 e3 p_f.1).bind fun r4 =>
        bif r4 then
          some (.inr (.inr st2))
        else
          some (.inl (w64 (st2 + 1)))
      else
        some (.inr (.inl ())) : Option ((Int) ⊕ (Unit ⊕ Int)))) 0).bind fun o5 =>
  match o5 with
  | .inl _ =>
    some (-1)
  | .inr y7 =>
    some y7
noncomputable def C22_23 : FnSpec := { ps := [.val (.slice TGTicket), .fn 23 [(.int .i64)]], rs := [.val (.int .i64)], fn := fun x => slices_IndexFunc_Ticket_23 x.1 x.2 }
noncomputable def E22_23 : Env := { T := [(26, (.slice TGTicket)), (36, TGTicket)], G := [(23, C23)], ro := [], loops := [(2, { keep := [0, 1, 7], live := [.tv 8 (.int .i64)], outs := [(.exit 0, []), (.ret, [.tv 4 (.int .i64)])] })], joins := [] }
theorem E22_23_eq : ∀ x, afun E22_23 Tryd.f22 C22_23.ps C22_23.rs x = C22_23.fn x := fun x => by kernel_rfl
theorem S22_23 : Sound Tryd.prog 22 C22_23 := fun_sound (E := E22_23) ⟨good_T (by kernel_rfl), (good_cons S23 ⟨_, Tryd.func23, by kernel_rfl, by kernel_rfl⟩ good_nil), mixedOk, ins_nil⟩ Tryd.func22 rfl E22_23_eq
/-- impl.ticketIndex -/
noncomputable def i_ticketIndex (p_l : List GTicket) (p_message : Int) : Option (Int) :=
  (slices_IndexFunc_Ticket_23 p_l (p_message, ())).bind fun r1 =>
  some r1
noncomputable def C14 : FnSpec := { ps := [.val (.slice TGTicket), .val (.int .i64)], rs := [.val (.int .i64)], fn := fun x => i_ticketIndex x.1 x.2 }
noncomputable def E14 : Env := { T := [(3, (.int .i64))], G := [(22, C22_23)], ro := [3], loops := [], joins := [] }
theorem E14_eq : ∀ x, afun E14 Tryd.f14 C14.ps C14.rs x = C14.fn x := fun x => by kernel_rfl
theorem S14 : Sound Tryd.prog 14 C14 := fun_sound (E := E14) ⟨good_T (by kernel_rfl), (good_cons S22_23 ⟨_, Tryd.func22, by kernel_rfl, by kernel_rfl⟩ good_nil), mixedOk, ins_nil⟩ Tryd.func14 rfl E14_eq
/-- impl.within -/
noncomputable def i_within (p_n : Int) (p_low : Int) (p_high : Int) : Option (Bool) :=
  (bif (decide (p_low ≤ p_n)) then
      some (decide (p_n ≤ p_high))
    else
      some false).bind fun c1 =>
  some c1
noncomputable def C24 : FnSpec := { ps := [.val (.int .i64), .val (.int .i64), .val (.int .i64)], rs := [.val .bool], fn := fun x => i_within x.1 x.2.1 x.2.2 }
noncomputable def E24 : Env := { T := [], G := [], ro := [], loops := [], joins := [] }
theorem E24_eq : ∀ x, afun E24 Tryd.f24 C24.ps C24.rs x = C24.fn x := fun x => by kernel_rfl
theorem S24 : Sound Tryd.prog 24 C24 := fun_sound (E := E24) ⟨good_T (by kernel_rfl), good_nil, mixedOk, ins_nil⟩ Tryd.func24 rfl E24_eq
/-- impl.allWithin -/
noncomputable def i_allWithin (p_l : List Int) (p_low : Int) (p_high : Int) : Option (Bool) :=
  (loopE (fun (st2 : Int) => (
      bif (decide (st2 < (p_l.length : Int))) then
        (idx p_l st2).bind fun e3 =>
        (i_within e3 p_low p_high).bind fun r4 =>
        bif (!r4) then
          some (.inr (.inr false))
        else
          some (.inl (w64 (st2 + 1)))
      else
        some (.inr (.inl ())) : Option ((Int) ⊕ (Unit ⊕ Bool)))) 0).bind fun o5 =>
  match o5 with
  | .inl _ =>
    some true
  | .inr y7 =>
    some y7
noncomputable def C25 : FnSpec := { ps := [.val (.slice (.int .i64)), .val (.int .i64), .val (.int .i64)], rs := [.val .bool], fn := fun x => i_allWithin x.1 x.2.1 x.2.2 }
noncomputable def E25 : Env := { T := [(3, (.int .i64)), (31, (.slice (.int .i64)))], G := [(24, C24)], ro := [], loops := [(2, { keep := [1, 2, 9, 10], live := [.tv 11 (.int .i64)], outs := [(.exit 0, []), (.ret, [.tv 6 .bool])] })], joins := [] }
theorem E25_eq : ∀ x, afun E25 Tryd.f25 C25.ps C25.rs x = C25.fn x := fun x => by kernel_rfl
theorem S25 : Sound Tryd.prog 25 C25 := fun_sound (E := E25) ⟨good_T (by kernel_rfl), (good_cons S24 ⟨_, Tryd.func24, by kernel_rfl, by kernel_rfl⟩ good_nil), mixedOk, ins_nil⟩ Tryd.func25 rfl E25_eq
/-- impl.increasing -/
noncomputable def i_increasing (p_l : List Int) : Option (Bool) :=
  (loopE (fun (st2 : Int) => (
      bif (decide (st2 < (p_l.length : Int))) then
        (idx p_l (w64 (st2 - 1))).bind fun e3 =>
        (idx p_l st2).bind fun e4 =>
        bif (decide (e4 ≤ e3)) then
          some (.inr (.inr false))
        else
          some (.inl (w64 (st2 + 1)))
      else
        some (.inr (.inl ())) : Option ((Int) ⊕ (Unit ⊕ Bool)))) 1).bind fun o5 =>
  match o5 with
  | .inl _ =>
    some true
  | .inr y7 =>
    some y7
noncomputable def C26 : FnSpec := { ps := [.val (.slice (.int .i64))], rs := [.val .bool], fn := fun x => i_increasing x }
noncomputable def E26 : Env := { T := [(3, (.int .i64)), (31, (.slice (.int .i64)))], G := [], ro := [], loops := [(2, { keep := [0], live := [.tv 3 (.int .i64)], outs := [(.exit 0, []), (.ret, [.tv 2 .bool])] })], joins := [] }
theorem E26_eq : ∀ x, afun E26 Tryd.f26 C26.ps C26.rs x = C26.fn x := fun x => by kernel_rfl
theorem S26 : Sound Tryd.prog 26 C26 := fun_sound (E := E26) ⟨good_T (by kernel_rfl), good_nil, mixedOk, ins_nil⟩ Tryd.func26 rfl E26_eq
/-- impl.AreTickets -/
noncomputable def i_AreTickets (p_l : List GTicket) : Option (Bool) :=
  bif (decide (20 < (p_l.length : Int))) then
    some false
  else
    (loopE (fun (st2 : Int) => (
        bif (decide (st2 < (p_l.length : Int))) then
          (idx p_l st2).bind fun e3 =>
          (i_within e3.1 1 999).bind fun r4 =>
          (bif (!r4) then
              some true
            else
              (i_within e3.2.1 1 9).bind fun r5 =>
              some (!r5)).bind fun c6 =>
          (bif c6 then
              some true
            else
              (i_allWithin e3.2.2.1 0 (w64 (e3.2.1 - 1))).bind fun r7 =>
              some (!r7)).bind fun c8 =>
          (bif c8 then
              some true
            else
              (i_increasing e3.2.2.1).bind fun r9 =>
              some (!r9)).bind fun c10 =>
          (bif c10 then
              some true
            else
              (bif (decide (0 < st2)) then
                  (idx p_l (w64 (st2 - 1))).bind fun e11 =>
                  some (decide (e3.1 ≤ e11.1))
                else
                  some false).bind fun c12 =>
              some c12).bind fun c13 =>
          bif c13 then
            some (.inr (.inr false))
          else
            (bif ((decide ((e3.2.2.1.length : Int) = e3.2.1)) != (decide (e3.2.2.2.1 = 1))) then
                some true
              else
                (i_within e3.2.2.2.1 0 2).bind fun r14 =>
                some (!r14)).bind fun c15 =>
            bif c15 then
              some (.inr (.inr false))
            else
              some (.inl (w64 (st2 + 1)))
        else
          some (.inr (.inl ())) : Option ((Int) ⊕ (Unit ⊕ Bool)))) 0).bind fun o16 =>
    match o16 with
    | .inl _ =>
      some true
    | .inr y18 =>
      some y18
noncomputable def C15 : FnSpec := { ps := [.val (.slice TGTicket)], rs := [.val .bool], fn := fun x => i_AreTickets x }
noncomputable def E15 : Env := { T := [(3, (.int .i64)), (4, .bool), (26, (.slice TGTicket)), (31, (.slice (.int .i64))), (36, TGTicket)], G := [(24, C24), (25, C25), (26, C26)], ro := [], loops := [(4, { keep := [0, 9, 10], live := [.tv 11 (.int .i64)], outs := [(.exit 0, []), (.ret, [.tv 2 .bool])] })], joins := [] }
theorem E15_eq : ∀ x, afun E15 Tryd.f15 C15.ps C15.rs x = C15.fn x := fun x => by kernel_rfl
theorem S15 : Sound Tryd.prog 15 C15 := fun_sound (E := E15) ⟨good_T (by kernel_rfl), (good_cons S24 ⟨_, Tryd.func24, by kernel_rfl, by kernel_rfl⟩ (good_cons S25 ⟨_, Tryd.func25, by kernel_rfl, by kernel_rfl⟩ (good_cons S26 ⟨_, Tryd.func26, by kernel_rfl, by kernel_rfl⟩ good_nil))), mixedOk, ins_nil⟩ Tryd.func15 rfl E15_eq

noncomputable def C16 : FnSpec := { ps := [.val (.int .i64)], rs := [.val .str], fn := fun x => itoaF x }
theorem S16 : Sound Tryd.prog 16 C16 := itoaSound

noncomputable def C28 : FnSpec := { ps := [.val (.slice .str), .val .str], rs := [.val .str], fn := fun x => joinF x.1 x.2 }
theorem S28 : Sound Tryd.prog 28 C28 := joinSound
/-- impl.joinNumbers -/
noncomputable def i_joinNumbers (p_l : List Int) (p_by : Bytes) : Option (Bytes) :=
  bif decide (0 ≤ (p_l.length : Int)) && decide ((p_l.length : Int) ≤ (p_l.length : Int)) && decide ((p_l.length : Int) ≤ lim) then
    (loopE (fun (st2 : (List Bytes) × Int) => (
        bif (decide (st2.2 < (p_l.length : Int))) then
          (idx p_l st2.2).bind fun e3 =>
          (itoaF e3).bind fun r4 =>
          bif decide (0 ≤ st2.2) && decide (st2.2 < (st2.1.length : Int)) then
            some (.inl ((st2.1.set (Int.toNat st2.2) r4), (w64 (st2.2 + 1))))
          else
            none
        else
          some (.inr st2.1) : Option (((List Bytes) × Int) ⊕ ((List Bytes))))) ((List.replicate (Int.toNat (p_l.length : Int)) ([] : Bytes)), 0)).bind fun o5 =>
    (joinF o5 p_by).bind fun r6 =>
    some r6
  else
    none
noncomputable def C17 : FnSpec := { ps := [.val (.slice (.int .i64)), .val .str], rs := [.val .str], fn := fun x => i_joinNumbers x.1 x.2 }
noncomputable def E17 : Env := { T := [(3, (.int .i64)), (9, .str), (31, (.slice (.int .i64))), (38, (.slice .str))], G := [(16, C16), (28, C28)], ro := [], loops := [(3, { keep := [1, 11, 12], live := [.own 5 [] 160 .str true, .tv 13 (.int .i64)], outs := [(.exit 0, [.own 5 [] 160 .str true])] })], joins := [] }
theorem E17_eq : ∀ x, afun E17 Tryd.f17 C17.ps C17.rs x = C17.fn x := fun x => by kernel_rfl
theorem S17 : Sound Tryd.prog 17 C17 := fun_sound (E := E17) ⟨good_T (by kernel_rfl), (good_cons S16 ⟨_, Tryd.func16, by kernel_rfl, by kernel_rfl⟩ (good_cons S28 ⟨_, Tryd.func28, by kernel_rfl, by kernel_rfl⟩ good_nil)), mixedOk, ins_nil⟩ Tryd.func17 rfl E17_eq
/-- impl.ReceiptText -/
noncomputable def i_ReceiptText (p_l : List GTicket) (p_message : Int) : Option (Bytes × Bool) :=
  (i_ticketIndex p_l p_message).bind fun r1 =>
  (i_AreTickets p_l).bind fun r2 =>
  (bif (!r2) then
      some true
    else
      some (decide (r1 < 0))).bind fun c3 =>
  bif c3 then
    some ([], false)
  else
    (idx p_l r1).bind fun e4 =>
    (itoaF p_message).bind fun r5 =>
    bif (decide (e4.2.2.2.1 = 1)) then
      bif decide (List.length r5 + List.length ([32, 97, 114, 114, 105, 118, 101, 100] : Bytes) ≤ lim) then
        some ((r5 ++ ([32, 97, 114, 114, 105, 118, 101, 100] : Bytes)), true)
      else
        none
    else
      bif (decide (e4.2.2.2.1 = 0)) then
        bif decide (List.length r5 + List.length ([32, 111, 112, 101, 110, 32] : Bytes) ≤ lim) then
          (i_joinNumbers [(e4.2.2.1.length : Int), e4.2.1] ([47] : Bytes)).bind fun r6 =>
          bif decide (List.length (r5 ++ ([32, 111, 112, 101, 110, 32] : Bytes)) + List.length r6 ≤ lim) then
            some (((r5 ++ ([32, 111, 112, 101, 110, 32] : Bytes)) ++ r6), true)
          else
            none
        else
          none
      else
        bif decide (List.length r5 + List.length ([32, 102, 97, 105, 108, 101, 100, 32] : Bytes) ≤ lim) then
          (i_joinNumbers [(e4.2.2.1.length : Int), e4.2.1] ([47] : Bytes)).bind fun r7 =>
          bif decide (List.length (r5 ++ ([32, 102, 97, 105, 108, 101, 100, 32] : Bytes)) + List.length r7 ≤ lim) then
            some (((r5 ++ ([32, 102, 97, 105, 108, 101, 100, 32] : Bytes)) ++ r7), true)
          else
            none
        else
          none
noncomputable def C7 : FnSpec := { ps := [.val (.slice TGTicket), .val (.int .i64)], rs := [.val .str, .val .bool], fn := fun x => i_ReceiptText x.1 x.2 }
noncomputable def E7 : Env := { T := [(3, (.int .i64)), (26, (.slice TGTicket)), (31, (.slice (.int .i64))), (36, TGTicket)], G := [(14, C14), (15, C15), (16, C16), (17, C17)], ro := [], loops := [], joins := [] }
theorem E7_eq : ∀ x, afun E7 Tryd.f7 C7.ps C7.rs x = C7.fn x := fun x => by kernel_rfl
theorem S7 : Sound Tryd.prog 7 C7 := fun_sound (E := E7) ⟨good_T (by kernel_rfl), (good_cons S14 ⟨_, Tryd.func14, by kernel_rfl, by kernel_rfl⟩ (good_cons S15 ⟨_, Tryd.func15, by kernel_rfl, by kernel_rfl⟩ (good_cons S16 ⟨_, Tryd.func16, by kernel_rfl, by kernel_rfl⟩ (good_cons S17 ⟨_, Tryd.func17, by kernel_rfl, by kernel_rfl⟩ good_nil)))), mixedOk, ins_nil⟩ Tryd.func7 rfl E7_eq
/-- laws.eqIntS -/
noncomputable def l_eqIntS (p_a : List Int) (p_b : List Int) : Option (Bool) :=
  bif (!decide ((p_a.length : Int) = (p_b.length : Int))) then
    some false
  else
    (loopE (fun (st2 : Int) => (
        bif (decide (st2 < (p_a.length : Int))) then
          (idx p_a st2).bind fun e3 =>
          (idx p_b st2).bind fun e4 =>
          bif (!decide (e3 = e4)) then
            some (.inr (.inr false))
          else
            some (.inl (w64 (st2 + 1)))
        else
          some (.inr (.inl ())) : Option ((Int) ⊕ (Unit ⊕ Bool)))) 0).bind fun o5 =>
    match o5 with
    | .inl _ =>
      some true
    | .inr y7 =>
      some y7
noncomputable def C29 : FnSpec := { ps := [.val (.slice (.int .i64)), .val (.slice (.int .i64))], rs := [.val .bool], fn := fun x => l_eqIntS x.1 x.2 }
noncomputable def E29 : Env := { T := [(3, (.int .i64)), (31, (.slice (.int .i64)))], G := [], ro := [], loops := [(4, { keep := [0, 1], live := [.tv 5 (.int .i64)], outs := [(.exit 0, []), (.ret, [.tv 4 .bool])] })], joins := [] }
theorem E29_eq : ∀ x, afun E29 Tryd.f29 C29.ps C29.rs x = C29.fn x := fun x => by kernel_rfl
theorem S29 : Sound Tryd.prog 29 C29 := fun_sound (E := E29) ⟨good_T (by kernel_rfl), good_nil, mixedOk, ins_nil⟩ Tryd.func29 rfl E29_eq
/-- laws.eqTicket -/
noncomputable def l_eqTicket (p_a : GTicket) (p_b : GTicket) : Option (Bool) :=
  bif (!decide (p_a.1 = p_b.1)) then
    some false
  else
    bif (!decide (p_a.2.1 = p_b.2.1)) then
      some false
    else
      (l_eqIntS p_a.2.2.1 p_b.2.2.1).bind fun r1 =>
      bif (!r1) then
        some false
      else
        bif (!decide (p_a.2.2.2.1 = p_b.2.2.2.1)) then
          some false
        else
          some true
noncomputable def C18 : FnSpec := { ps := [.val TGTicket, .val TGTicket], rs := [.val .bool], fn := fun x => l_eqTicket x.1 x.2 }
noncomputable def E18 : Env := { T := [(3, (.int .i64)), (31, (.slice (.int .i64))), (36, TGTicket)], G := [(29, C29)], ro := [2, 3], loops := [], joins := [] }
theorem E18_eq : ∀ x, afun E18 Tryd.f18 C18.ps C18.rs x = C18.fn x := fun x => by kernel_rfl
theorem S18 : Sound Tryd.prog 18 C18 := fun_sound (E := E18) ⟨good_T (by kernel_rfl), (good_cons S29 ⟨_, Tryd.func29, by kernel_rfl, by kernel_rfl⟩ good_nil), mixedOk, ins_nil⟩ Tryd.func18 rfl E18_eq
/-- laws.eqTicketS -/
noncomputable def l_eqTicketS (p_a : List GTicket) (p_b : List GTicket) : Option (Bool) :=
  bif (!decide ((p_a.length : Int) = (p_b.length : Int))) then
    some false
  else
    (loopE (fun (st2 : Int) => (
        bif (decide (st2 < (p_a.length : Int))) then
          (idx p_a st2).bind fun e3 =>
          (idx p_b st2).bind fun e4 =>
          (l_eqTicket e3 e4).bind fun r5 =>
          bif (!r5) then
            some (.inr (.inr false))
          else
            some (.inl (w64 (st2 + 1)))
        else
          some (.inr (.inl ())) : Option ((Int) ⊕ (Unit ⊕ Bool)))) 0).bind fun o6 =>
    match o6 with
    | .inl _ =>
      some true
    | .inr y8 =>
      some y8
noncomputable def C8 : FnSpec := { ps := [.val (.slice TGTicket), .val (.slice TGTicket)], rs := [.val .bool], fn := fun x => l_eqTicketS x.1 x.2 }
noncomputable def E8 : Env := { T := [(26, (.slice TGTicket)), (36, TGTicket)], G := [(18, C18)], ro := [], loops := [(4, { keep := [0, 1], live := [.tv 5 (.int .i64)], outs := [(.exit 0, []), (.ret, [.tv 4 .bool])] })], joins := [] }
theorem E8_eq : ∀ x, afun E8 Tryd.f8 C8.ps C8.rs x = C8.fn x := fun x => by kernel_rfl
theorem S8 : Sound Tryd.prog 8 C8 := fun_sound (E := E8) ⟨good_T (by kernel_rfl), (good_cons S18 ⟨_, Tryd.func18, by kernel_rfl, by kernel_rfl⟩ good_nil), mixedOk, ins_nil⟩ Tryd.func8 rfl E8_eq
/-- laws.FnExactReceiptText -/
noncomputable def l_FnExactReceiptText (p_aL : List GTicket) (p_aMessage : Int) : Option (Bool) :=
  (l_szTicketS p_aL 1048576).bind fun r1 =>
  bif (decide (r1 < 0)) then
    some true
  else
    (l_toTicketS p_aL).bind fun r2 =>
    (s_ReceiptText r2 p_aMessage).bind fun r3 =>
    (l_toTicketS p_aL).bind fun r4 =>
    (i_ReceiptText r4 p_aMessage).bind fun r5 =>
    (bif (!decide (r5.1 = r3.1)) then
        some true
      else
        some (r5.2 != r3.2)).bind fun c6 =>
    bif c6 then
      some false
    else
      (l_toTicketS p_aL).bind fun r7 =>
      (l_eqTicketS r4 r7).bind fun r8 =>
      bif (!r8) then
        some false
      else
        some true
noncomputable def C3 : FnSpec := { ps := [.val (.slice TGTicket), .val (.int .i64)], rs := [.val .bool], fn := fun x => l_FnExactReceiptText x.1 x.2 }
noncomputable def E3 : Env := { T := [(4, .bool)], G := [(4, C4), (5, C5), (6, C6), (7, C7), (8, C8)], ro := [], loops := [], joins := [] }
theorem E3_eq : ∀ x, afun E3 Tryd.f3 C3.ps C3.rs x = C3.fn x := fun x => by kernel_rfl
theorem S3 : Sound Tryd.prog 3 C3 := fun_sound (E := E3) ⟨good_T (by kernel_rfl), (good_cons S4 ⟨_, Tryd.func4, by kernel_rfl, by kernel_rfl⟩ (good_cons S5 ⟨_, Tryd.func5, by kernel_rfl, by kernel_rfl⟩ (good_cons S6 ⟨_, Tryd.func6, by kernel_rfl, by kernel_rfl⟩ (good_cons S7 ⟨_, Tryd.func7, by kernel_rfl, by kernel_rfl⟩ (good_cons S8 ⟨_, Tryd.func8, by kernel_rfl, by kernel_rfl⟩ good_nil))))), mixedOk, ins_nil⟩ Tryd.func3 rfl E3_eq
end Go.Proofs.YteocijadidgagaaDoor.Sh
