/-
  The functions that the statement reaches, as plain functions; each with its contract.
-/
import Derived.Test.YtkjcobhldfhodaaXLift
import Derived.Test.YtkjcobhldfhodaaChecked
import Derived.KernelRfl
namespace Go.Proofs.Ytkjcobhldfhodaa.Sh
open Go Go.Ab Go.Proofs
set_option maxRecDepth 100000
abbrev TGerrorAddressString : Ty := .pair .str (.pair (.int .u64) .unit)
abbrev GerrorAddressString : Type := Bytes × Int × Unit
abbrev TGl1Cur : Ty := .pair (.slice (.int .u8)) (.pair (.int .i64) (.pair (.int .u64) .unit))
abbrev Gl1Cur : Type := (List Int) × Int × Int × Unit
abbrev TGPhrase : Ty := .pair .str (.pair (.slice (.int .i64)) .unit)
abbrev GPhrase : Type := Bytes × (List Int) × Unit
abbrev TGboundsError : Ty := .pair (.int .i64) (.pair (.int .i64) (.pair .bool (.pair (.int .u8) .unit)))
abbrev GboundsError : Type := Int × Int × Bool × Int × Unit
abbrev TGPrice : Ty := .pair (.int .i64) (.pair (.int .i64) (.pair (.int .i64) (.pair (.int .i64) .unit)))
abbrev GPrice : Type := Int × Int × Int × Int × Unit
abbrev TGSent : Ty := .pair (.int .i64) (.pair (.int .i64) (.pair .bool (.pair (.int .i64) .unit)))
abbrev GSent : Type := Int × Int × Bool × Int × Unit
abbrev TGBook : Ty := .pair (.slice TGPhrase) .unit
abbrev GBook : Type := (List GPhrase) × Unit
theorem mixedOk : Try.prog.follows .mixedOrders = true := by kernel_rfl
/-- laws.big -/
noncomputable def l_big (p_code : List Int) (p_more : List Int) : Option (Bool) :=
  (bif (decide (1048576 < (p_code.length : Int))) then
      some true
    else
      some (decide ((w64 (1048576 - (p_code.length : Int))) < (p_more.length : Int)))).bind fun c1 =>
  some c1
noncomputable def C5 : FnSpec := { ps := [.val (.slice (.int .u8)), .val (.slice (.int .u8))], rs := [.val .bool], fn := fun x => l_big x.1 x.2 }
noncomputable def E5 : Env := { T := [(22, (.slice (.int .u8)))], G := [], ro := [], loops := [], joins := [] }
theorem E5_eq : ∀ x, afun E5 Try.f5 C5.ps C5.rs x = C5.fn x := fun x => by kernel_rfl
theorem S5 : Sound Try.prog 5 C5 := fun_sound (E := E5) ⟨good_T (by kernel_rfl), good_nil, mixedOk⟩ Try.func5 rfl E5_eq
/-- (*spec.l1Cur).next -/
noncomputable def s_l1Cur_next (p_c : Gl1Cur) : Option (Gl1Cur × Int) :=
  (bif (decide (p_c.2.1 < (p_c.1.length : Int))) then
      (idx p_c.1 p_c.2.1).bind fun e1 =>
      some (p_c.1, p_c.2.1, p_c.2.2.1, (w64 e1))
    else
      some (p_c.1, p_c.2.1, p_c.2.2.1, 0)).bind fun j2 =>
  bif (decide ((w64 (j2.2.1 + 1)) ≤ (j2.1.length : Int))) then
    some ((j2.1, (w64 (j2.2.1 + 1)), (IntKind.u64.wrap ((IntKind.u64.wrap ((IntKind.u64.wrap (j2.2.2.1 * 6364136223846793005)) + (IntKind.u64.wrap j2.2.2.2))) + 1442695040888963407)), ()), j2.2.2.2)
  else
    some ((j2.1, (w64 (j2.2.1 + 1)), (IntKind.u64.wrap ((IntKind.u64.wrap ((IntKind.u64.wrap (j2.2.2.1 * 6364136223846793005)) + (IntKind.u64.wrap j2.2.2.2))) + 1442695040888963407)), ()), (w64 (bitsI .and .u64 (shiftI .shr .u64 (IntKind.u64.wrap ((IntKind.u64.wrap ((IntKind.u64.wrap (j2.2.2.1 * 6364136223846793005)) + (IntKind.u64.wrap j2.2.2.2))) + 1442695040888963407)) 40) 255)))
noncomputable def C71 : FnSpec := { ps := [.mbox TGl1Cur], rs := [.val (.int .i64)], fn := fun x => s_l1Cur_next x }
noncomputable def E71 : Env := { T := [(3, (.int .i64)), (5, (.int .u8)), (22, (.slice (.int .u8))), (60, (.int .u64)), (62, TGl1Cur)], G := [], ro := [], loops := [], joins := [(4, { keep := [], live := [], outs := [(.normal, [.bx 0 100000 [.pv (.slice (.int .u8)), .pv (.int .i64), .pv (.int .u64)], .tv 3 (.int .i64)])] })] }
theorem E71_eq : ∀ x, afun E71 Try.f71 C71.ps C71.rs x = C71.fn x := fun x => by kernel_rfl
theorem S71 : Sound Try.prog 71 C71 := fun_sound_box (E := E71) ⟨good_T (by kernel_rfl), good_nil, mixedOk⟩ Try.func71 rfl E71_eq
/-- (*spec.l1Cur).pick -/
noncomputable def s_l1Cur_pick (p_c : Gl1Cur) (p_n : Int) : Option (Gl1Cur × Int) :=
  bif (decide (p_n ≤ 1)) then
    some (p_c, 0)
  else
    (s_l1Cur_next p_c).bind fun r1 =>
    bif (decide (200 < p_n)) then
      (s_l1Cur_next r1.1).bind fun r2 =>
      bif (!decide (p_n = 0)) then
        some (r2.1, (Int.tmod (w64 ((w64 (r1.2 * 256)) + r2.2)) p_n))
      else
        none
    else
      bif (!decide (p_n = 0)) then
        some (r1.1, (Int.tmod r1.2 p_n))
      else
        none
noncomputable def C59 : FnSpec := { ps := [.mbox TGl1Cur, .val (.int .i64)], rs := [.val (.int .i64)], fn := fun x => s_l1Cur_pick x.1 x.2 }
noncomputable def E59 : Env := { T := [], G := [(71, C71)], ro := [], loops := [], joins := [] }
theorem E59_eq : ∀ x, afun E59 Try.f59 C59.ps C59.rs x = C59.fn x := fun x => by kernel_rfl
theorem S59 : Sound Try.prog 59 C59 := fun_sound_box (E := E59) ⟨good_T (by kernel_rfl), (good_cons S71 ⟨_, Try.func71, by kernel_rfl, by kernel_rfl⟩ good_nil), mixedOk⟩ Try.func59 rfl E59_eq
/-- (*spec.l1Cur).among -/
noncomputable def s_l1Cur_among (p_c : Gl1Cur) (p_list : List Int) : Option (Gl1Cur × Int) :=
  (s_l1Cur_pick p_c (p_list.length : Int)).bind fun r1 =>
  (idx p_list r1.2).bind fun e2 =>
  some (r1.1, e2)
noncomputable def C36 : FnSpec := { ps := [.mbox TGl1Cur, .val (.slice (.int .i64))], rs := [.val (.int .i64)], fn := fun x => s_l1Cur_among x.1 x.2 }
noncomputable def E36 : Env := { T := [(3, (.int .i64)), (36, (.slice (.int .i64)))], G := [(59, C59)], ro := [], loops := [], joins := [] }
theorem E36_eq : ∀ x, afun E36 Try.f36 C36.ps C36.rs x = C36.fn x := fun x => by kernel_rfl
theorem S36 : Sound Try.prog 36 C36 := fun_sound_box (E := E36) ⟨good_T (by kernel_rfl), (good_cons S59 ⟨_, Try.func59, by kernel_rfl, by kernel_rfl⟩ good_nil), mixedOk⟩ Try.func36 rfl E36_eq
/-- (*spec.l1Cur).price -/
noncomputable def s_l1Cur_price (p_c : Gl1Cur) : Option (Gl1Cur × GPrice) :=
  (s_l1Cur_pick p_c 900).bind fun r1 =>
  (s_l1Cur_among r1.1 [0, 100, 10000, r1.2]).bind fun r2 =>
  (s_l1Cur_among r2.1 [0, 2, 7, 100]).bind fun r3 =>
  (s_l1Cur_pick r3.1 90).bind fun r4 =>
  (s_l1Cur_among r4.1 [0, 10, 1000, r4.2]).bind fun r5 =>
  (s_l1Cur_pick r5.1 100).bind fun r6 =>
  (s_l1Cur_among r6.1 [0, 50, 200, r6.2]).bind fun r7 =>
  (s_l1Cur_pick r7.1 30).bind fun r8 =>
  bif (decide (r8.2 = 0)) then
    (s_l1Cur_among r8.1 [(-1), 10001]).bind fun r9 =>
    some (r9.1, (r9.2, r3.2, r5.2, r7.2, ()))
  else
    bif (decide (r8.2 = 1)) then
      (s_l1Cur_among r8.1 [(-1), 101]).bind fun r10 =>
      some (r10.1, (r2.2, r10.2, r5.2, r7.2, ()))
    else
      bif (decide (r8.2 = 2)) then
        (s_l1Cur_among r8.1 [(-1), 1001]).bind fun r11 =>
        some (r11.1, (r2.2, r3.2, r11.2, r7.2, ()))
      else
        bif (decide (r8.2 = 3)) then
          (s_l1Cur_among r8.1 [(-1), 201]).bind fun r12 =>
          some (r12.1, (r2.2, r3.2, r5.2, r12.2, ()))
        else
          some (r8.1, (r2.2, r3.2, r5.2, r7.2, ()))
noncomputable def C35 : FnSpec := { ps := [.mbox TGl1Cur], rs := [.val TGPrice], fn := fun x => s_l1Cur_price x }
noncomputable def E35 : Env := { T := [(3, (.int .i64)), (25, TGPrice), (36, (.slice (.int .i64)))], G := [(36, C36), (59, C59)], ro := [], loops := [], joins := [] }
theorem E35_eq : ∀ x, afun E35 Try.f35 C35.ps C35.rs x = C35.fn x := fun x => by kernel_rfl
theorem S35 : Sound Try.prog 35 C35 := fun_sound_box (E := E35) ⟨good_T (by kernel_rfl), (good_cons S36 ⟨_, Try.func36, by kernel_rfl, by kernel_rfl⟩ (good_cons S59 ⟨_, Try.func59, by kernel_rfl, by kernel_rfl⟩ good_nil)), mixedOk⟩ Try.func35 rfl E35_eq
/-- (*spec.l1Cur).cents -/
noncomputable def s_l1Cur_cents (p_c : Gl1Cur) : Option (Gl1Cur × Int) :=
  (s_l1Cur_pick p_c 5000).bind fun r1 =>
  (s_l1Cur_among r1.1 [1000001, (-1)]).bind fun r2 =>
  (s_l1Cur_among r2.1 [0, 100, 160, 500, r1.2, 1000000, r2.2]).bind fun r3 =>
  some (r3.1, r3.2)
noncomputable def C37 : FnSpec := { ps := [.mbox TGl1Cur], rs := [.val (.int .i64)], fn := fun x => s_l1Cur_cents x }
noncomputable def E37 : Env := { T := [(36, (.slice (.int .i64)))], G := [(36, C36), (59, C59)], ro := [], loops := [], joins := [] }
theorem E37_eq : ∀ x, afun E37 Try.f37 C37.ps C37.rs x = C37.fn x := fun x => by kernel_rfl
theorem S37 : Sound Try.prog 37 C37 := fun_sound_box (E := E37) ⟨good_T (by kernel_rfl), (good_cons S36 ⟨_, Try.func36, by kernel_rfl, by kernel_rfl⟩ (good_cons S59 ⟨_, Try.func59, by kernel_rfl, by kernel_rfl⟩ good_nil)), mixedOk⟩ Try.func37 rfl E37_eq
/-- spec.DrawSignalsFor -/
noncomputable def s_DrawSignalsFor (p_code : List Int) : Option (GPrice × Int × Int) :=
  (s_l1Cur_price (p_code, 0, 0, ())).bind fun r1 =>
  (s_l1Cur_among r1.1 [0, 17]).bind fun r2 =>
  (s_l1Cur_among r2.1 [1, 3, 5, 16, r2.2]).bind fun r3 =>
  (s_l1Cur_cents r3.1).bind fun r4 =>
  some (r1.2, r3.2, r4.2)
noncomputable def C6 : FnSpec := { ps := [.val (.slice (.int .u8))], rs := [.val TGPrice, .val (.int .i64), .val (.int .i64)], fn := fun x => s_DrawSignalsFor x }
noncomputable def E6 : Env := { T := [(25, TGPrice), (36, (.slice (.int .i64))), (62, TGl1Cur)], G := [(35, C35), (36, C36), (37, C37)], ro := [], loops := [], joins := [] }
theorem E6_eq : ∀ x, afun E6 Try.f6 C6.ps C6.rs x = C6.fn x := fun x => by kernel_rfl
theorem S6 : Sound Try.prog 6 C6 := fun_sound (E := E6) ⟨good_T (by kernel_rfl), (good_cons S35 ⟨_, Try.func35, by kernel_rfl, by kernel_rfl⟩ (good_cons S36 ⟨_, Try.func36, by kernel_rfl, by kernel_rfl⟩ (good_cons S37 ⟨_, Try.func37, by kernel_rfl, by kernel_rfl⟩ good_nil))), mixedOk⟩ Try.func6 rfl E6_eq
/-- impl.within -/
noncomputable def i_within (p_n : Int) (p_low : Int) (p_high : Int) : Option (Bool) :=
  (bif (decide (p_low ≤ p_n)) then
      some (decide (p_n ≤ p_high))
    else
      some false).bind fun c1 =>
  some c1
noncomputable def C38 : FnSpec := { ps := [.val (.int .i64), .val (.int .i64), .val (.int .i64)], rs := [.val .bool], fn := fun x => i_within x.1 x.2.1 x.2.2 }
noncomputable def E38 : Env := { T := [], G := [], ro := [], loops := [], joins := [] }
theorem E38_eq : ∀ x, afun E38 Try.f38 C38.ps C38.rs x = C38.fn x := fun x => by kernel_rfl
theorem S38 : Sound Try.prog 38 C38 := fun_sound (E := E38) ⟨good_T (by kernel_rfl), good_nil, mixedOk⟩ Try.func38 rfl E38_eq
/-- impl.IsPrice -/
noncomputable def i_IsPrice (p_p : GPrice) : Option (Bool) :=
  (i_within p_p.1 0 10000).bind fun r1 =>
  (bif r1 then
      (i_within p_p.2.1 0 100).bind fun r2 =>
      some r2
    else
      some false).bind fun c3 =>
  (bif c3 then
      (i_within p_p.2.2.1 0 1000).bind fun r4 =>
      some r4
    else
      some false).bind fun c5 =>
  (bif c5 then
      (i_within p_p.2.2.2.1 0 200).bind fun r6 =>
      some r6
    else
      some false).bind fun c7 =>
  some c7
noncomputable def C27 : FnSpec := { ps := [.val TGPrice], rs := [.val .bool], fn := fun x => i_IsPrice x }
noncomputable def E27 : Env := { T := [(3, (.int .i64)), (25, TGPrice)], G := [(38, C38)], ro := [1], loops := [], joins := [] }
theorem E27_eq : ∀ x, afun E27 Try.f27 C27.ps C27.rs x = C27.fn x := fun x => by kernel_rfl
theorem S27 : Sound Try.prog 27 C27 := fun_sound (E := E27) ⟨good_T (by kernel_rfl), (good_cons S38 ⟨_, Try.func38, by kernel_rfl, by kernel_rfl⟩ good_nil), mixedOk⟩ Try.func27 rfl E27_eq
/-- impl.priceOf -/
noncomputable def i_priceOf (p_p : GPrice) (p_x : GSent) : Option (Int) :=
  bif p_x.2.2.1 then
    some (w64 ((w64 ((w64 (p_p.1 + (w64 ((w64 (p_p.2.1 * p_x.1)) * p_x.2.1)))) + (w64 (p_p.2.2.1 * p_x.2.1)))) + (w64 (Int.tdiv (w64 ((w64 ((w64 (p_p.1 + (w64 ((w64 (p_p.2.1 * p_x.1)) * p_x.2.1)))) + (w64 (p_p.2.2.1 * p_x.2.1)))) * p_p.2.2.2.1)) 100))))
  else
    some (w64 ((w64 (p_p.1 + (w64 ((w64 (p_p.2.1 * p_x.1)) * p_x.2.1)))) + (w64 (p_p.2.2.1 * p_x.2.1))))
noncomputable def C39 : FnSpec := { ps := [.val TGPrice, .val TGSent], rs := [.val (.int .i64)], fn := fun x => i_priceOf x.1 x.2 }
noncomputable def E39 : Env := { T := [(3, (.int .i64)), (4, .bool), (25, TGPrice), (32, TGSent)], G := [], ro := [2, 3], loops := [], joins := [] }
theorem E39_eq : ∀ x, afun E39 Try.f39 C39.ps C39.rs x = C39.fn x := fun x => by kernel_rfl
theorem S39 : Sound Try.prog 39 C39 := fun_sound (E := E39) ⟨good_T (by kernel_rfl), good_nil, mixedOk⟩ Try.func39 rfl E39_eq
/-- impl.SignalsFor -/
noncomputable def i_SignalsFor (p_p : GPrice) (p_towers : Int) (p_cents : Int) : Option (Int × Bool) :=
  (i_IsPrice p_p).bind fun r1 =>
  (bif (!r1) then
      some true
    else
      (i_within p_towers 1 16).bind fun r2 =>
      some (!r2)).bind fun c3 =>
  (bif c3 then
      some true
    else
      (i_within p_cents 0 1000000).bind fun r4 =>
      some (!r4)).bind fun c5 =>
  bif c5 then
    some (0, false)
  else
    (loopE (fun (st7 : Int) => (
        bif (decide (0 < st7)) then
          (i_priceOf p_p (st7, p_towers, false, 0, ())).bind fun r8 =>
          bif (decide (r8 ≤ p_cents)) then
            some (.inr (.inr (st7, true)))
          else
            some (.inl (w64 (st7 - 1)))
        else
          some (.inr (.inl ())) : Option ((Int) ⊕ (Unit ⊕ (Int × Bool))))) 72).bind fun o9 =>
    match o9 with
    | .inl _ =>
      some (0, false)
    | .inr y11 =>
      some (y11.1, y11.2)
noncomputable def C7 : FnSpec := { ps := [.val TGPrice, .val (.int .i64), .val (.int .i64)], rs := [.val (.int .i64), .val .bool], fn := fun x => i_SignalsFor x.1 x.2.1 x.2.2 }
noncomputable def E7 : Env := { T := [(25, TGPrice), (32, TGSent)], G := [(27, C27), (38, C38), (39, C39)], ro := [3], loops := [(4, { keep := [1, 2, 3], live := [.tv 8 (.int .i64)], outs := [(.exit 0, []), (.ret, [.tv 6 (.int .i64), .tv 7 .bool])] })], joins := [] }
theorem E7_eq : ∀ x, afun E7 Try.f7 C7.ps C7.rs x = C7.fn x := fun x => by kernel_rfl
theorem S7 : Sound Try.prog 7 C7 := fun_sound (E := E7) ⟨good_T (by kernel_rfl), (good_cons S27 ⟨_, Try.func27, by kernel_rfl, by kernel_rfl⟩ (good_cons S38 ⟨_, Try.func38, by kernel_rfl, by kernel_rfl⟩ (good_cons S39 ⟨_, Try.func39, by kernel_rfl, by kernel_rfl⟩ good_nil))), mixedOk⟩ Try.func7 rfl E7_eq
/-- spec.l1In -/
noncomputable def s_l1In (p_n : Int) (p_lo : Int) (p_hi : Int) : Option (Bool) :=
  (bif (decide (p_lo ≤ p_n)) then
      some (decide (p_n ≤ p_hi))
    else
      some false).bind fun c1 =>
  some c1
noncomputable def C41 : FnSpec := { ps := [.val (.int .i64), .val (.int .i64), .val (.int .i64)], rs := [.val .bool], fn := fun x => s_l1In x.1 x.2.1 x.2.2 }
noncomputable def E41 : Env := { T := [], G := [], ro := [], loops := [], joins := [] }
theorem E41_eq : ∀ x, afun E41 Try.f41 C41.ps C41.rs x = C41.fn x := fun x => by kernel_rfl
theorem S41 : Sound Try.prog 41 C41 := fun_sound (E := E41) ⟨good_T (by kernel_rfl), good_nil, mixedOk⟩ Try.func41 rfl E41_eq
/-- spec.pcPrice -/
noncomputable def s_pcPrice (p_p : GPrice) : Option (Bool) :=
  (s_l1In p_p.1 0 10000).bind fun r1 =>
  (bif r1 then
      (s_l1In p_p.2.1 0 100).bind fun r2 =>
      some r2
    else
      some false).bind fun c3 =>
  (bif c3 then
      (s_l1In p_p.2.2.1 0 1000).bind fun r4 =>
      some r4
    else
      some false).bind fun c5 =>
  (bif c5 then
      (s_l1In p_p.2.2.2.1 0 200).bind fun r6 =>
      some r6
    else
      some false).bind fun c7 =>
  some c7
noncomputable def C40 : FnSpec := { ps := [.val TGPrice], rs := [.val .bool], fn := fun x => s_pcPrice x }
noncomputable def E40 : Env := { T := [(3, (.int .i64)), (25, TGPrice)], G := [(41, C41)], ro := [1], loops := [], joins := [] }
theorem E40_eq : ∀ x, afun E40 Try.f40 C40.ps C40.rs x = C40.fn x := fun x => by kernel_rfl
theorem S40 : Sound Try.prog 40 C40 := fun_sound (E := E40) ⟨good_T (by kernel_rfl), (good_cons S41 ⟨_, Try.func41, by kernel_rfl, by kernel_rfl⟩ good_nil), mixedOk⟩ Try.func40 rfl E40_eq
/-- spec.pcCents -/
noncomputable def s_pcCents (p_cents : Int) : Option (Bool) :=
  (s_l1In p_cents 0 1000000).bind fun r1 =>
  some r1
noncomputable def C42 : FnSpec := { ps := [.val (.int .i64)], rs := [.val .bool], fn := fun x => s_pcCents x }
noncomputable def E42 : Env := { T := [], G := [(41, C41)], ro := [], loops := [], joins := [] }
theorem E42_eq : ∀ x, afun E42 Try.f42 C42.ps C42.rs x = C42.fn x := fun x => by kernel_rfl
theorem S42 : Sound Try.prog 42 C42 := fun_sound (E := E42) ⟨good_T (by kernel_rfl), (good_cons S41 ⟨_, Try.func41, by kernel_rfl, by kernel_rfl⟩ good_nil), mixedOk⟩ Try.func42 rfl E42_eq
/-- spec.pcCost -/
noncomputable def s_pcCost (p_p : GPrice) (p_x : GSent) : Option (Int) :=
  bif p_x.2.2.1 then
    some (w64 ((w64 ((w64 (p_p.1 + (w64 ((w64 (p_p.2.1 * p_x.1)) * p_x.2.1)))) + (w64 (p_p.2.2.1 * p_x.2.1)))) + (w64 (Int.tdiv (w64 ((w64 ((w64 (p_p.1 + (w64 ((w64 (p_p.2.1 * p_x.1)) * p_x.2.1)))) + (w64 (p_p.2.2.1 * p_x.2.1)))) * p_p.2.2.2.1)) 100))))
  else
    some (w64 ((w64 (p_p.1 + (w64 ((w64 (p_p.2.1 * p_x.1)) * p_x.2.1)))) + (w64 (p_p.2.2.1 * p_x.2.1))))
noncomputable def C43 : FnSpec := { ps := [.val TGPrice, .val TGSent], rs := [.val (.int .i64)], fn := fun x => s_pcCost x.1 x.2 }
noncomputable def E43 : Env := { T := [(3, (.int .i64)), (4, .bool), (25, TGPrice), (32, TGSent)], G := [], ro := [2, 3], loops := [], joins := [] }
theorem E43_eq : ∀ x, afun E43 Try.f43 C43.ps C43.rs x = C43.fn x := fun x => by kernel_rfl
theorem S43 : Sound Try.prog 43 C43 := fun_sound (E := E43) ⟨good_T (by kernel_rfl), good_nil, mixedOk⟩ Try.func43 rfl E43_eq
/-- spec.SignalsFor -/
noncomputable def s_SignalsFor (p_p : GPrice) (p_towers : Int) (p_cents : Int) : Option (Int × Bool) :=
  (s_pcPrice p_p).bind fun r1 =>
  (bif (!r1) then
      some true
    else
      (s_l1In p_towers 1 16).bind fun r2 =>
      some (!r2)).bind fun c3 =>
  (bif c3 then
      some true
    else
      (s_pcCents p_cents).bind fun r4 =>
      some (!r4)).bind fun c5 =>
  bif c5 then
    some (0, false)
  else
    (loopE (fun (st7 : Int × Int) => (
        bif (decide (st7.2 ≤ 72)) then
          (s_pcCost p_p (st7.2, p_towers, false, 0, ())).bind fun r8 =>
          bif (decide (r8 ≤ p_cents)) then
            some (.inl (st7.2, (w64 (st7.2 + 1))))
          else
            some (.inl (st7.1, (w64 (st7.2 + 1))))
        else
          some (.inr st7.1) : Option ((Int × Int) ⊕ (Int)))) (0, 1)).bind fun o9 =>
    some (o9, (decide (0 < o9)))
noncomputable def C8 : FnSpec := { ps := [.val TGPrice, .val (.int .i64), .val (.int .i64)], rs := [.val (.int .i64), .val .bool], fn := fun x => s_SignalsFor x.1 x.2.1 x.2.2 }
noncomputable def E8 : Env := { T := [(25, TGPrice), (32, TGSent)], G := [(40, C40), (41, C41), (42, C42), (43, C43)], ro := [3], loops := [(5, { keep := [1, 2, 3], live := [.tv 8 (.int .i64), .tv 9 (.int .i64)], outs := [(.exit 0, [.tv 8 (.int .i64)])] })], joins := [] }
theorem E8_eq : ∀ x, afun E8 Try.f8 C8.ps C8.rs x = C8.fn x := fun x => by kernel_rfl
theorem S8 : Sound Try.prog 8 C8 := fun_sound (E := E8) ⟨good_T (by kernel_rfl), (good_cons S40 ⟨_, Try.func40, by kernel_rfl, by kernel_rfl⟩ (good_cons S41 ⟨_, Try.func41, by kernel_rfl, by kernel_rfl⟩ (good_cons S42 ⟨_, Try.func42, by kernel_rfl, by kernel_rfl⟩ (good_cons S43 ⟨_, Try.func43, by kernel_rfl, by kernel_rfl⟩ good_nil)))), mixedOk⟩ Try.func8 rfl E8_eq
/-- impl.isSent -/
noncomputable def i_isSent (p_x : GSent) : Option (Bool) :=
  (i_within p_x.1 1 72).bind fun r1 =>
  (bif r1 then
      (i_within p_x.2.1 1 16).bind fun r2 =>
      some r2
    else
      some false).bind fun c3 =>
  (bif c3 then
      (i_within p_x.2.2.2.1 0 10000).bind fun r4 =>
      some r4
    else
      some false).bind fun c5 =>
  some c5
noncomputable def C44 : FnSpec := { ps := [.val TGSent], rs := [.val .bool], fn := fun x => i_isSent x }
noncomputable def E44 : Env := { T := [(3, (.int .i64)), (32, TGSent)], G := [(38, C38)], ro := [1], loops := [], joins := [] }
theorem E44_eq : ∀ x, afun E44 Try.f44 C44.ps C44.rs x = C44.fn x := fun x => by kernel_rfl
theorem S44 : Sound Try.prog 44 C44 := fun_sound (E := E44) ⟨good_T (by kernel_rfl), (good_cons S38 ⟨_, Try.func38, by kernel_rfl, by kernel_rfl⟩ good_nil), mixedOk⟩ Try.func44 rfl E44_eq
/-- impl.PriceOf -/
noncomputable def i_PriceOf (p_p : GPrice) (p_x : GSent) : Option (Int × Bool) :=
  (i_IsPrice p_p).bind fun r1 =>
  (bif (!r1) then
      some true
    else
      (i_isSent p_x).bind fun r2 =>
      some (!r2)).bind fun c3 =>
  bif c3 then
    some (0, false)
  else
    (i_priceOf p_p p_x).bind fun r4 =>
    some (r4, true)
noncomputable def C9 : FnSpec := { ps := [.val TGPrice, .val TGSent], rs := [.val (.int .i64), .val .bool], fn := fun x => i_PriceOf x.1 x.2 }
noncomputable def E9 : Env := { T := [(25, TGPrice), (32, TGSent)], G := [(27, C27), (39, C39), (44, C44)], ro := [2, 3], loops := [], joins := [] }
theorem E9_eq : ∀ x, afun E9 Try.f9 C9.ps C9.rs x = C9.fn x := fun x => by kernel_rfl
theorem S9 : Sound Try.prog 9 C9 := fun_sound (E := E9) ⟨good_T (by kernel_rfl), (good_cons S27 ⟨_, Try.func27, by kernel_rfl, by kernel_rfl⟩ (good_cons S39 ⟨_, Try.func39, by kernel_rfl, by kernel_rfl⟩ (good_cons S44 ⟨_, Try.func44, by kernel_rfl, by kernel_rfl⟩ good_nil))), mixedOk⟩ Try.func9 rfl E9_eq
/-- spec.DrawFarthestFor -/
noncomputable def s_DrawFarthestFor (p_code : List Int) : Option (GPrice × Int × Int) :=
  (s_l1Cur_price (p_code, 0, 0, ())).bind fun r1 =>
  (s_l1Cur_among r1.1 [0, 73]).bind fun r2 =>
  (s_l1Cur_among r2.1 [1, 5, 20, 72, r2.2]).bind fun r3 =>
  (s_l1Cur_cents r3.1).bind fun r4 =>
  some (r1.2, r3.2, r4.2)
noncomputable def C10 : FnSpec := { ps := [.val (.slice (.int .u8))], rs := [.val TGPrice, .val (.int .i64), .val (.int .i64)], fn := fun x => s_DrawFarthestFor x }
noncomputable def E10 : Env := { T := [(25, TGPrice), (36, (.slice (.int .i64))), (62, TGl1Cur)], G := [(35, C35), (36, C36), (37, C37)], ro := [], loops := [], joins := [] }
theorem E10_eq : ∀ x, afun E10 Try.f10 C10.ps C10.rs x = C10.fn x := fun x => by kernel_rfl
theorem S10 : Sound Try.prog 10 C10 := fun_sound (E := E10) ⟨good_T (by kernel_rfl), (good_cons S35 ⟨_, Try.func35, by kernel_rfl, by kernel_rfl⟩ (good_cons S36 ⟨_, Try.func36, by kernel_rfl, by kernel_rfl⟩ (good_cons S37 ⟨_, Try.func37, by kernel_rfl, by kernel_rfl⟩ good_nil))), mixedOk⟩ Try.func10 rfl E10_eq
/-- impl.FarthestFor -/
noncomputable def i_FarthestFor (p_p : GPrice) (p_signals : Int) (p_cents : Int) : Option (Int × Bool) :=
  (i_IsPrice p_p).bind fun r1 =>
  (bif (!r1) then
      some true
    else
      (i_within p_signals 1 72).bind fun r2 =>
      some (!r2)).bind fun c3 =>
  (bif c3 then
      some true
    else
      (i_within p_cents 0 1000000).bind fun r4 =>
      some (!r4)).bind fun c5 =>
  bif c5 then
    some (0, false)
  else
    (loopE (fun (st7 : Int) => (
        bif (decide (0 < st7)) then
          (i_priceOf p_p (p_signals, st7, false, 0, ())).bind fun r8 =>
          bif (decide (r8 ≤ p_cents)) then
            some (.inr (.inr (st7, true)))
          else
            some (.inl (w64 (st7 - 1)))
        else
          some (.inr (.inl ())) : Option ((Int) ⊕ (Unit ⊕ (Int × Bool))))) 16).bind fun o9 =>
    match o9 with
    | .inl _ =>
      some (0, false)
    | .inr y11 =>
      some (y11.1, y11.2)
noncomputable def C11 : FnSpec := { ps := [.val TGPrice, .val (.int .i64), .val (.int .i64)], rs := [.val (.int .i64), .val .bool], fn := fun x => i_FarthestFor x.1 x.2.1 x.2.2 }
noncomputable def E11 : Env := { T := [(25, TGPrice), (32, TGSent)], G := [(27, C27), (38, C38), (39, C39)], ro := [3], loops := [(4, { keep := [1, 2, 3], live := [.tv 8 (.int .i64)], outs := [(.exit 0, []), (.ret, [.tv 6 (.int .i64), .tv 7 .bool])] })], joins := [] }
theorem E11_eq : ∀ x, afun E11 Try.f11 C11.ps C11.rs x = C11.fn x := fun x => by kernel_rfl
theorem S11 : Sound Try.prog 11 C11 := fun_sound (E := E11) ⟨good_T (by kernel_rfl), (good_cons S27 ⟨_, Try.func27, by kernel_rfl, by kernel_rfl⟩ (good_cons S38 ⟨_, Try.func38, by kernel_rfl, by kernel_rfl⟩ (good_cons S39 ⟨_, Try.func39, by kernel_rfl, by kernel_rfl⟩ good_nil))), mixedOk⟩ Try.func11 rfl E11_eq
/-- spec.FarthestFor -/
noncomputable def s_FarthestFor (p_p : GPrice) (p_signals : Int) (p_cents : Int) : Option (Int × Bool) :=
  (s_pcPrice p_p).bind fun r1 =>
  (bif (!r1) then
      some true
    else
      (s_l1In p_signals 1 72).bind fun r2 =>
      some (!r2)).bind fun c3 =>
  (bif c3 then
      some true
    else
      (s_pcCents p_cents).bind fun r4 =>
      some (!r4)).bind fun c5 =>
  bif c5 then
    some (0, false)
  else
    (loopE (fun (st7 : Int × Int) => (
        bif (decide (st7.2 ≤ 16)) then
          (s_pcCost p_p (p_signals, st7.2, false, 0, ())).bind fun r8 =>
          bif (decide (r8 ≤ p_cents)) then
            some (.inl (st7.2, (w64 (st7.2 + 1))))
          else
            some (.inl (st7.1, (w64 (st7.2 + 1))))
        else
          some (.inr st7.1) : Option ((Int × Int) ⊕ (Int)))) (0, 1)).bind fun o9 =>
    some (o9, (decide (0 < o9)))
noncomputable def C12 : FnSpec := { ps := [.val TGPrice, .val (.int .i64), .val (.int .i64)], rs := [.val (.int .i64), .val .bool], fn := fun x => s_FarthestFor x.1 x.2.1 x.2.2 }
noncomputable def E12 : Env := { T := [(25, TGPrice), (32, TGSent)], G := [(40, C40), (41, C41), (42, C42), (43, C43)], ro := [3], loops := [(5, { keep := [1, 2, 3], live := [.tv 8 (.int .i64), .tv 9 (.int .i64)], outs := [(.exit 0, [.tv 8 (.int .i64)])] })], joins := [] }
theorem E12_eq : ∀ x, afun E12 Try.f12 C12.ps C12.rs x = C12.fn x := fun x => by kernel_rfl
theorem S12 : Sound Try.prog 12 C12 := fun_sound (E := E12) ⟨good_T (by kernel_rfl), (good_cons S40 ⟨_, Try.func40, by kernel_rfl, by kernel_rfl⟩ (good_cons S41 ⟨_, Try.func41, by kernel_rfl, by kernel_rfl⟩ (good_cons S42 ⟨_, Try.func42, by kernel_rfl, by kernel_rfl⟩ (good_cons S43 ⟨_, Try.func43, by kernel_rfl, by kernel_rfl⟩ good_nil)))), mixedOk⟩ Try.func12 rfl E12_eq
/-- (*spec.l1Cur).one -/
noncomputable def s_l1Cur_one (p_c : Gl1Cur) (p_n : Int) : Option (Gl1Cur × Bool) :=
  (s_l1Cur_pick p_c p_n).bind fun r1 =>
  some (r1.1, (decide (r1.2 = 0)))
noncomputable def C60 : FnSpec := { ps := [.mbox TGl1Cur, .val (.int .i64)], rs := [.val .bool], fn := fun x => s_l1Cur_one x.1 x.2 }
noncomputable def E60 : Env := { T := [], G := [(59, C59)], ro := [], loops := [], joins := [] }
theorem E60_eq : ∀ x, afun E60 Try.f60 C60.ps C60.rs x = C60.fn x := fun x => by kernel_rfl
theorem S60 : Sound Try.prog 60 C60 := fun_sound_box (E := E60) ⟨good_T (by kernel_rfl), (good_cons S59 ⟨_, Try.func59, by kernel_rfl, by kernel_rfl⟩ good_nil), mixedOk⟩ Try.func60 rfl E60_eq
/-- (*spec.l1Cur).sent -/
noncomputable def s_l1Cur_sent (p_c : Gl1Cur) : Option (Gl1Cur × GSent) :=
  (s_l1Cur_pick p_c 20).bind fun r1 =>
  (s_l1Cur_pick r1.1 6).bind fun r2 =>
  (s_l1Cur_one r2.1 3).bind fun r3 =>
  (s_l1Cur_pick r3.1 5000).bind fun r4 =>
  (s_l1Cur_among r4.1 [0, 0, 599, 600, 1300, 6000, 10000, r4.2]).bind fun r5 =>
  (s_l1Cur_pick r5.1 30).bind fun r6 =>
  bif (decide (r6.2 = 0)) then
    (s_l1Cur_among r6.1 [0, 72, 73]).bind fun r7 =>
    some (r7.1, (r7.2, (w64 (1 + r2.2)), r3.2, r5.2, ()))
  else
    bif (decide (r6.2 = 1)) then
      (s_l1Cur_among r6.1 [0, 16, 17]).bind fun r8 =>
      some (r8.1, ((w64 (1 + r1.2)), r8.2, r3.2, r5.2, ()))
    else
      bif (decide (r6.2 = 2)) then
        (s_l1Cur_among r6.1 [(-1), 10001]).bind fun r9 =>
        some (r9.1, ((w64 (1 + r1.2)), (w64 (1 + r2.2)), r3.2, r9.2, ()))
      else
        some (r6.1, ((w64 (1 + r1.2)), (w64 (1 + r2.2)), r3.2, r5.2, ()))
noncomputable def C49 : FnSpec := { ps := [.mbox TGl1Cur], rs := [.val TGSent], fn := fun x => s_l1Cur_sent x }
noncomputable def E49 : Env := { T := [(3, (.int .i64)), (32, TGSent), (36, (.slice (.int .i64)))], G := [(36, C36), (59, C59), (60, C60)], ro := [], loops := [], joins := [] }
theorem E49_eq : ∀ x, afun E49 Try.f49 C49.ps C49.rs x = C49.fn x := fun x => by kernel_rfl
theorem S49 : Sound Try.prog 49 C49 := fun_sound_box (E := E49) ⟨good_T (by kernel_rfl), (good_cons S36 ⟨_, Try.func36, by kernel_rfl, by kernel_rfl⟩ (good_cons S59 ⟨_, Try.func59, by kernel_rfl, by kernel_rfl⟩ (good_cons S60 ⟨_, Try.func60, by kernel_rfl, by kernel_rfl⟩ good_nil))), mixedOk⟩ Try.func49 rfl E49_eq
/-- spec.pcSent -/
noncomputable def s_pcSent (p_x : GSent) : Option (Bool) :=
  (s_l1In p_x.1 1 72).bind fun r1 =>
  (bif r1 then
      (s_l1In p_x.2.1 1 16).bind fun r2 =>
      some r2
    else
      some false).bind fun c3 =>
  (bif c3 then
      (s_l1In p_x.2.2.2.1 0 10000).bind fun r4 =>
      some r4
    else
      some false).bind fun c5 =>
  some c5
noncomputable def C50 : FnSpec := { ps := [.val TGSent], rs := [.val .bool], fn := fun x => s_pcSent x }
noncomputable def E50 : Env := { T := [(3, (.int .i64)), (32, TGSent)], G := [(41, C41)], ro := [1], loops := [], joins := [] }
theorem E50_eq : ∀ x, afun E50 Try.f50 C50.ps C50.rs x = C50.fn x := fun x => by kernel_rfl
theorem S50 : Sound Try.prog 50 C50 := fun_sound (E := E50) ⟨good_T (by kernel_rfl), (good_cons S41 ⟨_, Try.func41, by kernel_rfl, by kernel_rfl⟩ good_nil), mixedOk⟩ Try.func50 rfl E50_eq
/-- (*spec.l1Cur).sentList -/
noncomputable def s_l1Cur_sentList (p_c : Gl1Cur) : Option (Gl1Cur × (List GSent)) :=
  (s_l1Cur_pick p_c 6).bind fun r1 =>
  ((s_l1Cur_one r1.1 20).bind fun r2 =>
    bif r2.2 then
      (s_l1Cur_pick r2.1 2).bind fun r3 =>
      some (r3.1.1, r3.1.2.1, r3.1.2.2.1, (w64 (20 + r3.2)))
    else
      some (r2.1.1, r2.1.2.1, r2.1.2.2.1, r1.2)).bind fun j4 =>
  (loopE (fun (st6 : (List Int) × Int × Int × (List GSent)) => (
      bif (decide ((st6.2.2.2.length : Int) < j4.2.2.2)) then
        (s_l1Cur_sent (st6.1, st6.2.1, st6.2.2.1, ())).bind fun r7 =>
        (s_pcSent r7.2).bind fun r8 =>
        bif r8 then
          bif true then
            bif decide (List.length st6.2.2.2 + List.length [r7.2] ≤ lim) then
              some (.inl (r7.1.1, r7.1.2.1, r7.1.2.2.1, (st6.2.2.2 ++ [r7.2])))
            else
              none
          else
            some (.inl (r7.1.1, r7.1.2.1, r7.1.2.2.1, st6.2.2.2))
        else
          (s_l1Cur_one r7.1 8).bind fun r9 =>
          bif r9.2 then
            bif decide (List.length st6.2.2.2 + List.length [r7.2] ≤ lim) then
              some (.inl (r9.1.1, r9.1.2.1, r9.1.2.2.1, (st6.2.2.2 ++ [r7.2])))
            else
              none
          else
            some (.inl (r9.1.1, r9.1.2.1, r9.1.2.2.1, st6.2.2.2))
      else
        some (.inr (st6.1, st6.2.1, st6.2.2.1, st6.2.2.2)) : Option (((List Int) × Int × Int × (List GSent)) ⊕ (((List Int) × Int × Int × (List GSent)))))) (j4.1, j4.2.1, j4.2.2.1, [])).bind fun o10 =>
  some ((o10.1, o10.2.1, o10.2.2.1, ()), o10.2.2.2)
noncomputable def C45 : FnSpec := { ps := [.mbox TGl1Cur], rs := [.own (.slice TGSent)], fn := fun x => s_l1Cur_sentList x }
noncomputable def E45 : Env := { T := [(32, TGSent), (33, (.slice TGSent))], G := [(49, C49), (50, C50), (59, C59), (60, C60)], ro := [], loops := [(5, { keep := [4], live := [.bx 0 100000 [.pv (.slice (.int .u8)), .pv (.int .i64), .pv (.int .u64)], .own 3 [] 200003 TGSent true], outs := [(.exit 0, [.bx 0 100000 [.pv (.slice (.int .u8)), .pv (.int .i64), .pv (.int .u64)], .own 3 [] 200003 TGSent true])] })], joins := [(5, { keep := [3], live := [], outs := [(.normal, [.bx 0 100000 [.pv (.slice (.int .u8)), .pv (.int .i64), .pv (.int .u64)], .tv 4 (.int .i64)])] })], forks := [21] }
theorem E45_eq : ∀ x, afun E45 Try.f45 C45.ps C45.rs x = C45.fn x := fun x => by kernel_rfl
theorem S45 : Sound Try.prog 45 C45 := fun_sound_box (E := E45) ⟨good_T (by kernel_rfl), (good_cons S49 ⟨_, Try.func49, by kernel_rfl, by kernel_rfl⟩ (good_cons S50 ⟨_, Try.func50, by kernel_rfl, by kernel_rfl⟩ (good_cons S59 ⟨_, Try.func59, by kernel_rfl, by kernel_rfl⟩ (good_cons S60 ⟨_, Try.func60, by kernel_rfl, by kernel_rfl⟩ good_nil)))), mixedOk⟩ Try.func45 rfl E45_eq
/-- spec.DrawComparePrices -/
noncomputable def s_DrawComparePrices (p_code : List Int) : Option (GPrice × GPrice × (List GSent)) :=
  (s_l1Cur_price (p_code, 0, 0, ())).bind fun r1 =>
  (s_l1Cur_price r1.1).bind fun r2 =>
  (s_l1Cur_sentList r2.1).bind fun r3 =>
  some (r1.2, r2.2, r3.2)
noncomputable def C13 : FnSpec := { ps := [.val (.slice (.int .u8))], rs := [.val TGPrice, .val TGPrice, .own (.slice TGSent)], fn := fun x => s_DrawComparePrices x }
noncomputable def E13 : Env := { T := [(25, TGPrice), (62, TGl1Cur)], G := [(35, C35), (45, C45)], ro := [], loops := [], joins := [] }
theorem E13_eq : ∀ x, afun E13 Try.f13 C13.ps C13.rs x = C13.fn x := fun x => by kernel_rfl
theorem S13 : Sound Try.prog 13 C13 := fun_sound (E := E13) ⟨good_T (by kernel_rfl), (good_cons S35 ⟨_, Try.func35, by kernel_rfl, by kernel_rfl⟩ (good_cons S45 ⟨_, Try.func45, by kernel_rfl, by kernel_rfl⟩ good_nil)), mixedOk⟩ Try.func13 rfl E13_eq
/-- impl.AreSent$1 -/
noncomputable def i_AreSent_1 (p_x : GSent) : Option (Bool) :=
  (i_isSent p_x).bind fun r1 =>
  some (!r1)
noncomputable def C54 : FnSpec := { ps := [.val TGSent], rs := [.val .bool], fn := fun x => i_AreSent_1 x }
noncomputable def E54 : Env := { T := [(32, TGSent)], G := [(44, C44)], ro := [1], loops := [], joins := [] }
theorem E54_eq : ∀ x, afun E54 Try.f54 C54.ps C54.rs x = C54.fn x := fun x => by kernel_rfl
theorem S54 : Sound Try.prog 54 C54 := fun_sound (E := E54) ⟨good_T (by kernel_rfl), (good_cons S44 ⟨_, Try.func44, by kernel_rfl, by kernel_rfl⟩ good_nil), mixedOk⟩ Try.func54 rfl E54_eq
/-- slices.IndexFunc[[]impl.Sent,impl.Sent] -/
noncomputable def slices_IndexFunc_Sent_54 (p_s : List GSent) : Option (Int) :=
  (loopE (fun (st2 : Int) => (
      bif (decide (st2 < (p_s.length : Int))) then
        (idx p_s st2).bind fun e3 =>
        (i_AreSent_1 e3).bind fun r4 =>
        bif r4 then
          some (.inr (.inr st2))
        else
          some (.inl (w64 (st2 + 1)))
      else
        some (.inr (.inl ())) : Option ((Int) ⊕ (Unit ⊕ Int)))) 0).bind fun o5 =>
  match o5 with
  | .inl _ =>
    some (-1)
  | .inr y7 =>
    some y7
noncomputable def C63_54 : FnSpec := { ps := [.val (.slice TGSent), .fn 54 []], rs := [.val (.int .i64)], fn := fun x => slices_IndexFunc_Sent_54 x.1 }
noncomputable def E63_54 : Env := { T := [(32, TGSent), (33, (.slice TGSent))], G := [(54, C54)], ro := [], loops := [(2, { keep := [0, 1, 7], live := [.tv 8 (.int .i64)], outs := [(.exit 0, []), (.ret, [.tv 4 (.int .i64)])] })], joins := [] }
theorem E63_54_eq : ∀ x, afun E63_54 Try.f63 C63_54.ps C63_54.rs x = C63_54.fn x := fun x => by kernel_rfl
theorem S63_54 : Sound Try.prog 63 C63_54 := fun_sound (E := E63_54) ⟨good_T (by kernel_rfl), (good_cons S54 ⟨_, Try.func54, by kernel_rfl, by kernel_rfl⟩ good_nil), mixedOk⟩ Try.func63 rfl E63_54_eq
/-- slices.ContainsFunc[[]impl.Sent,impl.Sent] -/
noncomputable def slices_ContainsFunc_Sent_54 (p_s : List GSent) : Option (Bool) :=
  (slices_IndexFunc_Sent_54 p_s).bind fun r1 =>
  some (decide (0 ≤ r1))
noncomputable def C53_54 : FnSpec := { ps := [.val (.slice TGSent), .fn 54 []], rs := [.val .bool], fn := fun x => slices_ContainsFunc_Sent_54 x.1 }
noncomputable def E53_54 : Env := { T := [], G := [(63, C63_54)], ro := [], loops := [], joins := [] }
theorem E53_54_eq : ∀ x, afun E53_54 Try.f53 C53_54.ps C53_54.rs x = C53_54.fn x := fun x => by kernel_rfl
theorem S53_54 : Sound Try.prog 53 C53_54 := fun_sound (E := E53_54) ⟨good_T (by kernel_rfl), (good_cons S63_54 ⟨_, Try.func63, by kernel_rfl, by kernel_rfl⟩ good_nil), mixedOk⟩ Try.func53 rfl E53_54_eq
/-- impl.AreSent -/
noncomputable def i_AreSent (p_l : List GSent) : Option (Bool) :=
  (bif (decide ((p_l.length : Int) ≤ 20)) then
      (slices_ContainsFunc_Sent_54 p_l).bind fun r1 =>
      some (!r1)
    else
      some false).bind fun c2 =>
  some c2
noncomputable def C26 : FnSpec := { ps := [.val (.slice TGSent)], rs := [.val .bool], fn := fun x => i_AreSent x }
noncomputable def E26 : Env := { T := [(33, (.slice TGSent))], G := [(53, C53_54)], ro := [], loops := [], joins := [] }
theorem E26_eq : ∀ x, afun E26 Try.f26 C26.ps C26.rs x = C26.fn x := fun x => by kernel_rfl
theorem S26 : Sound Try.prog 26 C26 := fun_sound (E := E26) ⟨good_T (by kernel_rfl), (good_cons S53_54 ⟨_, Try.func53, by kernel_rfl, by kernel_rfl⟩ good_nil), mixedOk⟩ Try.func26 rfl E26_eq
/-- cmp.isNaN[int] -/
noncomputable def cmp_isNaN_int (p_x : Int) : Option (Bool) :=
  some (!decide (p_x = p_x))
noncomputable def C61 : FnSpec := { ps := [.val (.int .i64)], rs := [.val .bool], fn := fun x => cmp_isNaN_int x }
noncomputable def E61 : Env := { T := [], G := [], ro := [], loops := [], joins := [] }
theorem E61_eq : ∀ x, afun E61 Try.f61 C61.ps C61.rs x = C61.fn x := fun x => by kernel_rfl
theorem S61 : Sound Try.prog 61 C61 := fun_sound (E := E61) ⟨good_T (by kernel_rfl), good_nil, mixedOk⟩ Try.func61 rfl E61_eq
/-- cmp.Compare[int] -/
noncomputable def cmp_Compare_int (p_x : Int) (p_y : Int) : Option (Int) :=
  (cmp_isNaN_int p_x).bind fun r1 =>
  (cmp_isNaN_int p_y).bind fun r2 =>
  bif r1 then
    bif r2 then
      some 0
    else
      some (-1)
  else
    bif r2 then
      some 1
    else
      bif (decide (p_x < p_y)) then
        some (-1)
      else
        bif (decide (p_y < p_x)) then
          some 1
        else
          some 0
noncomputable def C46 : FnSpec := { ps := [.val (.int .i64), .val (.int .i64)], rs := [.val (.int .i64)], fn := fun x => cmp_Compare_int x.1 x.2 }
noncomputable def E46 : Env := { T := [], G := [(61, C61)], ro := [], loops := [], joins := [] }
theorem E46_eq : ∀ x, afun E46 Try.f46 C46.ps C46.rs x = C46.fn x := fun x => by kernel_rfl
theorem S46 : Sound Try.prog 46 C46 := fun_sound (E := E46) ⟨good_T (by kernel_rfl), (good_cons S61 ⟨_, Try.func61, by kernel_rfl, by kernel_rfl⟩ good_nil), mixedOk⟩ Try.func46 rfl E46_eq
/-- impl.ComparePrices -/
noncomputable def i_ComparePrices (p_a : GPrice) (p_b : GPrice) (p_l : List GSent) : Option ((List Int) × Bool) :=
  (i_IsPrice p_a).bind fun r1 =>
  (bif (!r1) then
      some true
    else
      (i_IsPrice p_b).bind fun r2 =>
      some (!r2)).bind fun c3 =>
  (bif c3 then
      some true
    else
      (i_AreSent p_l).bind fun r4 =>
      some (!r4)).bind fun c5 =>
  bif c5 then
    some ([], false)
  else
    (loopE (fun (st7 : (List Int) × Int) => (
        bif (decide (st7.2 < (p_l.length : Int))) then
          (idx p_l st7.2).bind fun e8 =>
          (i_priceOf p_a e8).bind fun r9 =>
          (i_priceOf p_b e8).bind fun r10 =>
          (cmp_Compare_int r9 r10).bind fun r11 =>
          bif decide (List.length st7.1 + List.length [r11] ≤ lim) then
            some (.inl ((st7.1 ++ [r11]), (w64 (st7.2 + 1))))
          else
            none
        else
          some (.inr st7.1) : Option (((List Int) × Int) ⊕ ((List Int))))) ([], 0)).bind fun o12 =>
    some (o12, true)
noncomputable def C14 : FnSpec := { ps := [.val TGPrice, .val TGPrice, .val (.slice TGSent)], rs := [.own (.slice (.int .i64)), .val .bool], fn := fun x => i_ComparePrices x.1 x.2.1 x.2.2 }
noncomputable def E14 : Env := { T := [(25, TGPrice), (32, TGSent), (33, (.slice TGSent)), (36, (.slice (.int .i64)))], G := [(26, C26), (27, C27), (39, C39), (46, C46)], ro := [3, 4], loops := [(5, { keep := [3, 4, 24, 25], live := [.own 8 [] 200008 (.int .i64) true, .tv 26 (.int .i64)], outs := [(.exit 0, [.own 8 [] 200008 (.int .i64) true])] })], joins := [] }
theorem E14_eq : ∀ x, afun E14 Try.f14 C14.ps C14.rs x = C14.fn x := fun x => by kernel_rfl
theorem S14 : Sound Try.prog 14 C14 := fun_sound (E := E14) ⟨good_T (by kernel_rfl), (good_cons S26 ⟨_, Try.func26, by kernel_rfl, by kernel_rfl⟩ (good_cons S27 ⟨_, Try.func27, by kernel_rfl, by kernel_rfl⟩ (good_cons S39 ⟨_, Try.func39, by kernel_rfl, by kernel_rfl⟩ (good_cons S46 ⟨_, Try.func46, by kernel_rfl, by kernel_rfl⟩ good_nil)))), mixedOk⟩ Try.func14 rfl E14_eq
/-- spec.pcList -/
noncomputable def s_pcList (p_l : List GSent) : Option (Bool) :=
  (loopE (fun (st2 : Int) => (
      bif (decide (st2 < (p_l.length : Int))) then
        (idx p_l st2).bind fun e3 =>
        (s_pcSent e3).bind fun r4 =>
        bif (!r4) then
          some (.inr (.inr false))
        else
          some (.inl (w64 (st2 + 1)))
      else
        some (.inr (.inl ())) : Option ((Int) ⊕ (Unit ⊕ Bool)))) 0).bind fun o5 =>
  match o5 with
  | .inl _ =>
    some (decide ((p_l.length : Int) ≤ 20))
  | .inr y7 =>
    some y7
noncomputable def C47 : FnSpec := { ps := [.val (.slice TGSent)], rs := [.val .bool], fn := fun x => s_pcList x }
noncomputable def E47 : Env := { T := [(32, TGSent), (33, (.slice TGSent))], G := [(50, C50)], ro := [], loops := [(2, { keep := [0, 5, 6], live := [.tv 7 (.int .i64)], outs := [(.exit 0, []), (.ret, [.tv 2 .bool])] })], joins := [] }
theorem E47_eq : ∀ x, afun E47 Try.f47 C47.ps C47.rs x = C47.fn x := fun x => by kernel_rfl
theorem S47 : Sound Try.prog 47 C47 := fun_sound (E := E47) ⟨good_T (by kernel_rfl), (good_cons S50 ⟨_, Try.func50, by kernel_rfl, by kernel_rfl⟩ good_nil), mixedOk⟩ Try.func47 rfl E47_eq
/-- spec.l1Sign -/
noncomputable def s_l1Sign (p_n : Int) : Option (Int) :=
  bif (decide (0 < p_n)) then
    some 1
  else
    bif (decide (p_n < 0)) then
      some (-1)
    else
      some 0
noncomputable def C48 : FnSpec := { ps := [.val (.int .i64)], rs := [.val (.int .i64)], fn := fun x => s_l1Sign x }
noncomputable def E48 : Env := { T := [], G := [], ro := [], loops := [], joins := [] }
theorem E48_eq : ∀ x, afun E48 Try.f48 C48.ps C48.rs x = C48.fn x := fun x => by kernel_rfl
theorem S48 : Sound Try.prog 48 C48 := fun_sound (E := E48) ⟨good_T (by kernel_rfl), good_nil, mixedOk⟩ Try.func48 rfl E48_eq
/-- spec.ComparePrices -/
noncomputable def s_ComparePrices (p_a : GPrice) (p_b : GPrice) (p_l : List GSent) : Option ((List Int) × Bool) :=
  (s_pcPrice p_a).bind fun r1 =>
  (bif (!r1) then
      some true
    else
      (s_pcPrice p_b).bind fun r2 =>
      some (!r2)).bind fun c3 =>
  (bif c3 then
      some true
    else
      (s_pcList p_l).bind fun r4 =>
      some (!r4)).bind fun c5 =>
  bif c5 then
    some ([], false)
  else
    (loopE (fun (st7 : (List Int) × Int) => (
        bif (decide (st7.2 < (p_l.length : Int))) then
          (idx p_l st7.2).bind fun e8 =>
          (s_pcCost p_a e8).bind fun r9 =>
          (s_pcCost p_b e8).bind fun r10 =>
          (s_l1Sign (w64 (r9 - r10))).bind fun r11 =>
          bif decide (List.length st7.1 + List.length [r11] ≤ lim) then
            some (.inl ((st7.1 ++ [r11]), (w64 (st7.2 + 1))))
          else
            none
        else
          some (.inr st7.1) : Option (((List Int) × Int) ⊕ ((List Int))))) ([], 0)).bind fun o12 =>
    some (o12, true)
noncomputable def C15 : FnSpec := { ps := [.val TGPrice, .val TGPrice, .val (.slice TGSent)], rs := [.own (.slice (.int .i64)), .val .bool], fn := fun x => s_ComparePrices x.1 x.2.1 x.2.2 }
noncomputable def E15 : Env := { T := [(25, TGPrice), (32, TGSent), (33, (.slice TGSent)), (36, (.slice (.int .i64)))], G := [(40, C40), (43, C43), (47, C47), (48, C48)], ro := [3, 4], loops := [(5, { keep := [3, 4, 24, 25], live := [.own 8 [] 200008 (.int .i64) true, .tv 26 (.int .i64)], outs := [(.exit 0, [.own 8 [] 200008 (.int .i64) true])] })], joins := [] }
theorem E15_eq : ∀ x, afun E15 Try.f15 C15.ps C15.rs x = C15.fn x := fun x => by kernel_rfl
theorem S15 : Sound Try.prog 15 C15 := fun_sound (E := E15) ⟨good_T (by kernel_rfl), (good_cons S40 ⟨_, Try.func40, by kernel_rfl, by kernel_rfl⟩ (good_cons S43 ⟨_, Try.func43, by kernel_rfl, by kernel_rfl⟩ (good_cons S47 ⟨_, Try.func47, by kernel_rfl, by kernel_rfl⟩ (good_cons S48 ⟨_, Try.func48, by kernel_rfl, by kernel_rfl⟩ good_nil)))), mixedOk⟩ Try.func15 rfl E15_eq
/-- laws.sameInts -/
noncomputable def l_sameInts (p_a : List Int) (p_b : List Int) : Option (Bool) :=
  bif (!decide ((p_a.length : Int) = (p_b.length : Int))) then
    some false
  else
    (loopE (fun (st2 : Int) => (
        bif (decide (st2 < (p_a.length : Int))) then
          (idx p_a st2).bind fun e3 =>
          (idx p_b st2).bind fun e4 =>
          bif (!decide (e3 = e4)) then
            some (.inr (.inr false))
          else
            some (.inl (w64 (st2 + 1)))
        else
          some (.inr (.inl ())) : Option ((Int) ⊕ (Unit ⊕ Bool)))) 0).bind fun o5 =>
    match o5 with
    | .inl _ =>
      some true
    | .inr y7 =>
      some y7
noncomputable def C16 : FnSpec := { ps := [.val (.slice (.int .i64)), .val (.slice (.int .i64))], rs := [.val .bool], fn := fun x => l_sameInts x.1 x.2 }
noncomputable def E16 : Env := { T := [(3, (.int .i64)), (36, (.slice (.int .i64)))], G := [], ro := [], loops := [(4, { keep := [0, 1, 12], live := [.tv 13 (.int .i64)], outs := [(.exit 0, []), (.ret, [.tv 4 .bool])] })], joins := [] }
theorem E16_eq : ∀ x, afun E16 Try.f16 C16.ps C16.rs x = C16.fn x := fun x => by kernel_rfl
theorem S16 : Sound Try.prog 16 C16 := fun_sound (E := E16) ⟨good_T (by kernel_rfl), good_nil, mixedOk⟩ Try.func16 rfl E16_eq
/-- spec.DrawSplitPrice -/
noncomputable def s_DrawSplitPrice (p_code : List Int) : Option (GPrice × GSent × Int) :=
  (s_l1Cur_price (p_code, 0, 0, ())).bind fun r1 =>
  (s_l1Cur_sent r1.1).bind fun r2 =>
  (s_l1Cur_among r2.1 [0, 10]).bind fun r3 =>
  (s_l1Cur_among r3.1 [1, 2, 3, 9, r3.2]).bind fun r4 =>
  some (r1.2, r2.2, r4.2)
noncomputable def C17 : FnSpec := { ps := [.val (.slice (.int .u8))], rs := [.val TGPrice, .val TGSent, .val (.int .i64)], fn := fun x => s_DrawSplitPrice x }
noncomputable def E17 : Env := { T := [(25, TGPrice), (32, TGSent), (36, (.slice (.int .i64))), (62, TGl1Cur)], G := [(35, C35), (36, C36), (49, C49)], ro := [], loops := [], joins := [] }
theorem E17_eq : ∀ x, afun E17 Try.f17 C17.ps C17.rs x = C17.fn x := fun x => by kernel_rfl
theorem S17 : Sound Try.prog 17 C17 := fun_sound (E := E17) ⟨good_T (by kernel_rfl), (good_cons S35 ⟨_, Try.func35, by kernel_rfl, by kernel_rfl⟩ (good_cons S36 ⟨_, Try.func36, by kernel_rfl, by kernel_rfl⟩ (good_cons S49 ⟨_, Try.func49, by kernel_rfl, by kernel_rfl⟩ good_nil))), mixedOk⟩ Try.func17 rfl E17_eq
/-- impl.SplitPrice -/
noncomputable def i_SplitPrice (p_p : GPrice) (p_x : GSent) (p_parts : Int) : Option (Int × Bool) :=
  (i_IsPrice p_p).bind fun r1 =>
  (bif (!r1) then
      some true
    else
      (i_isSent p_x).bind fun r2 =>
      some (!r2)).bind fun c3 =>
  (bif c3 then
      some true
    else
      (i_within p_parts 1 (bif decide (p_x.1 < 9) then p_x.1 else 9)).bind fun r4 =>
      some (!r4)).bind fun c5 =>
  bif c5 then
    some (0, false)
  else
    (i_priceOf p_p p_x).bind fun r6 =>
    (loopE (fun (st8 : Int × Int) => (
        bif (decide (st8.2 < p_parts)) then
          bif (!decide (p_parts = 0)) then
            bif (!decide (p_parts = 0)) then
              bif (decide (st8.2 < (Int.tmod p_x.1 p_parts))) then
                (i_priceOf p_p ((w64 ((w64 (Int.tdiv p_x.1 p_parts)) + 1)), p_x.2)).bind fun r9 =>
                some (.inl ((w64 (st8.1 + r9)), (w64 (st8.2 + 1))))
              else
                (i_priceOf p_p ((w64 (Int.tdiv p_x.1 p_parts)), p_x.2)).bind fun r10 =>
                some (.inl ((w64 (st8.1 + r10)), (w64 (st8.2 + 1))))
            else
              none
          else
            none
        else
          some (.inr st8.1) : Option ((Int × Int) ⊕ (Int)))) ((w64 (0 - r6)), 0)).bind fun o11 =>
    some (o11, true)
noncomputable def C18 : FnSpec := { ps := [.val TGPrice, .val TGSent, .val (.int .i64)], rs := [.val (.int .i64), .val .bool], fn := fun x => i_SplitPrice x.1 x.2.1 x.2.2 }
noncomputable def E18 : Env := { T := [(3, (.int .i64)), (25, TGPrice), (32, TGSent)], G := [(27, C27), (38, C38), (39, C39), (44, C44)], ro := [3, 4], loops := [(5, { keep := [2, 3, 4, 31], live := [.tv 8 (.int .i64), .tv 32 (.int .i64)], outs := [(.exit 0, [.tv 8 (.int .i64)])] })], joins := [] }
theorem E18_eq : ∀ x, afun E18 Try.f18 C18.ps C18.rs x = C18.fn x := fun x => by kernel_rfl
theorem S18 : Sound Try.prog 18 C18 := fun_sound (E := E18) ⟨good_T (by kernel_rfl), (good_cons S27 ⟨_, Try.func27, by kernel_rfl, by kernel_rfl⟩ (good_cons S38 ⟨_, Try.func38, by kernel_rfl, by kernel_rfl⟩ (good_cons S39 ⟨_, Try.func39, by kernel_rfl, by kernel_rfl⟩ (good_cons S44 ⟨_, Try.func44, by kernel_rfl, by kernel_rfl⟩ good_nil)))), mixedOk⟩ Try.func18 rfl E18_eq
/-- spec.SplitPrice -/
noncomputable def s_SplitPrice (p_p : GPrice) (p_x : GSent) (p_parts : Int) : Option (Int × Bool) :=
  (s_pcPrice p_p).bind fun r1 =>
  (bif (!r1) then
      some true
    else
      (s_pcSent p_x).bind fun r2 =>
      some (!r2)).bind fun c3 =>
  (bif c3 then
      some true
    else
      (s_l1In p_parts 1 9).bind fun r4 =>
      some (!r4)).bind fun c5 =>
  (bif c5 then
      some true
    else
      some (decide (p_x.1 < p_parts))).bind fun c6 =>
  bif c6 then
    some (0, false)
  else
    (loopE (fun (st8 : Int × Int) => (
        bif (decide (st8.2 < p_parts)) then
          bif (!decide (p_parts = 0)) then
            bif (!decide (p_parts = 0)) then
              bif (decide (st8.2 < (Int.tmod p_x.1 p_parts))) then
                (s_pcCost p_p ((w64 ((w64 (Int.tdiv p_x.1 p_parts)) + 1)), p_x.2)).bind fun r9 =>
                some (.inl ((w64 (st8.1 + r9)), (w64 (st8.2 + 1))))
              else
                (s_pcCost p_p ((w64 (Int.tdiv p_x.1 p_parts)), p_x.2)).bind fun r10 =>
                some (.inl ((w64 (st8.1 + r10)), (w64 (st8.2 + 1))))
            else
              none
          else
            none
        else
          some (.inr st8.1) : Option ((Int × Int) ⊕ (Int)))) (0, 0)).bind fun o11 =>
    (s_pcCost p_p p_x).bind fun r12 =>
    some ((w64 (o11 - r12)), true)
noncomputable def C19 : FnSpec := { ps := [.val TGPrice, .val TGSent, .val (.int .i64)], rs := [.val (.int .i64), .val .bool], fn := fun x => s_SplitPrice x.1 x.2.1 x.2.2 }
noncomputable def E19 : Env := { T := [(3, (.int .i64)), (25, TGPrice), (32, TGSent)], G := [(40, C40), (41, C41), (43, C43), (50, C50)], ro := [3, 4], loops := [(5, { keep := [2, 3, 4], live := [.tv 8 (.int .i64), .tv 9 (.int .i64)], outs := [(.exit 0, [.tv 8 (.int .i64)])] })], joins := [] }
theorem E19_eq : ∀ x, afun E19 Try.f19 C19.ps C19.rs x = C19.fn x := fun x => by kernel_rfl
theorem S19 : Sound Try.prog 19 C19 := fun_sound (E := E19) ⟨good_T (by kernel_rfl), (good_cons S40 ⟨_, Try.func40, by kernel_rfl, by kernel_rfl⟩ (good_cons S41 ⟨_, Try.func41, by kernel_rfl, by kernel_rfl⟩ (good_cons S43 ⟨_, Try.func43, by kernel_rfl, by kernel_rfl⟩ (good_cons S50 ⟨_, Try.func50, by kernel_rfl, by kernel_rfl⟩ good_nil)))), mixedOk⟩ Try.func19 rfl E19_eq
/-- laws.FnAffordable -/
noncomputable def l_FnAffordable (p_code : List Int) (p_more : List Int) : Option (Bool) :=
  (l_big p_code p_more).bind fun r1 =>
  bif r1 then
    some true
  else
    (s_DrawSignalsFor p_code).bind fun r2 =>
    (i_SignalsFor r2.1 r2.2.1 r2.2.2).bind fun r3 =>
    (s_SignalsFor r2.1 r2.2.1 r2.2.2).bind fun r4 =>
    (bif (r3.2 != r4.2) then
        some true
      else
        some (!decide (r3.1 = r4.1))).bind fun c5 =>
    bif c5 then
      some false
    else
      ((bif r3.2 then
            (i_PriceOf r2.1 (r4.1, r2.2.1, false, 0, ())).bind fun r6 =>
            (bif (!r6.2) then
                some true
              else
                some (decide (r2.2.2 < r6.1))).bind fun c7 =>
            bif c7 then
              some (.inr false)
            else
              bif (decide (r4.1 < 72)) then
                (i_PriceOf r2.1 ((w64 (r4.1 + 1)), r2.2.1, false, 0, ())).bind fun r8 =>
                (bif (!r8.2) then
                    some true
                  else
                    some (decide (r8.1 ≤ r2.2.2))).bind fun c9 =>
                bif c9 then
                  some (.inr false)
                else
                  some (.inl ())
              else
                some (.inl ())
          else
            some (.inl ()) : Option (Unit ⊕ Bool))).bind fun j10 =>
      match j10 with
      | .inl _ =>
        (s_DrawFarthestFor p_more).bind fun r13 =>
        (i_FarthestFor r13.1 r13.2.1 r13.2.2).bind fun r14 =>
        (s_FarthestFor r13.1 r13.2.1 r13.2.2).bind fun r15 =>
        (bif (r14.2 != r15.2) then
            some true
          else
            some (!decide (r14.1 = r15.1))).bind fun c16 =>
        bif c16 then
          some false
        else
          ((bif r14.2 then
                (i_PriceOf r13.1 (r13.2.1, r15.1, false, 0, ())).bind fun r17 =>
                (bif (!r17.2) then
                    some true
                  else
                    some (decide (r13.2.2 < r17.1))).bind fun c18 =>
                bif c18 then
                  some (.inr false)
                else
                  bif (decide (r15.1 < 16)) then
                    (i_PriceOf r13.1 (r13.2.1, (w64 (r15.1 + 1)), false, 0, ())).bind fun r19 =>
                    (bif (!r19.2) then
                        some true
                      else
                        some (decide (r19.1 ≤ r13.2.2))).bind fun c20 =>
                    bif c20 then
                      some (.inr false)
                    else
                      some (.inl ())
                  else
                    some (.inl ())
              else
                some (.inl ()) : Option (Unit ⊕ Bool))).bind fun j21 =>
          match j21 with
          | .inl _ =>
            (s_DrawComparePrices p_more).bind fun r24 =>
            (i_ComparePrices r24.1 r24.2.1 r24.2.2).bind fun r25 =>
            (s_ComparePrices r24.1 r24.2.1 r24.2.2).bind fun r26 =>
            (i_ComparePrices r24.2.1 r24.1 r24.2.2).bind fun r27 =>
            (s_ComparePrices r24.2.1 r24.1 r24.2.2).bind fun r28 =>
            (bif (r25.2 != r26.2) then
                some true
              else
                (l_sameInts r25.1 r26.1).bind fun r29 =>
                some (!r29)).bind fun c30 =>
            (bif c30 then
                some true
              else
                some (r27.2 != r28.2)).bind fun c31 =>
            (bif c31 then
                some true
              else
                (l_sameInts r27.1 r28.1).bind fun r32 =>
                some (!r32)).bind fun c33 =>
            (bif c33 then
                some true
              else
                some (r27.2 != r25.2)).bind fun c34 =>
            bif c34 then
              some false
            else
              (loopE (fun (st36 : (List Int) × (List Int) × Int) => (
                  bif (decide (st36.2.2 < (r26.1.length : Int))) then
                    bif decide (0 ≤ st36.2.2) && decide (st36.2.2 < (st36.2.1.length : Int)) then
                      (st36.2.1[(Int.toNat st36.2.2)]?).bind fun e37 =>
                      bif decide (0 ≤ st36.2.2) && decide (st36.2.2 < (st36.1.length : Int)) then
                        (st36.1[(Int.toNat st36.2.2)]?).bind fun e38 =>
                        bif (!decide (e38 = (w64 (0 - e37)))) then
                          some (.inr (.inr false))
                        else
                          some (.inl (st36.1, st36.2.1, (w64 (st36.2.2 + 1))))
                      else
                        none
                    else
                      none
                  else
                    some (.inr (.inl ())) : Option (((List Int) × (List Int) × Int) ⊕ (Unit ⊕ Bool)))) (r28.1, r26.1, 0)).bind fun o39 =>
              match o39 with
              | .inl _ =>
                (s_DrawSplitPrice p_more).bind fun r42 =>
                (i_SplitPrice r42.1 r42.2.1 r42.2.2).bind fun r43 =>
                (s_SplitPrice r42.1 r42.2.1 r42.2.2).bind fun r44 =>
                (bif (r43.2 == r44.2) then
                    some (decide (r43.1 = r44.1))
                  else
                    some false).bind fun c45 =>
                (bif c45 then
                    (bif (!r43.2) then
                        some true
                      else
                        some (decide (1 < r42.2.2))).bind fun c46 =>
                    (bif c46 then
                        some true
                      else
                        some (decide (r44.1 = 0))).bind fun c47 =>
                    some c47
                  else
                    some false).bind fun c48 =>
                some c48
              | .inr y41 =>
                some y41
          | .inr y23 =>
            some y23
      | .inr y12 =>
        some y12
noncomputable def C3 : FnSpec := { ps := [.val (.slice (.int .u8)), .val (.slice (.int .u8))], rs := [.val .bool], fn := fun x => l_FnAffordable x.1 x.2 }
noncomputable def E3 : Env := { T := [(3, (.int .i64)), (4, .bool), (25, TGPrice), (32, TGSent), (36, (.slice (.int .i64)))], G := [(5, C5), (6, C6), (7, C7), (8, C8), (9, C9), (10, C10), (11, C11), (12, C12), (13, C13), (14, C14), (15, C15), (16, C16), (17, C17), (18, C18), (19, C19)], ro := [], loops := [(37, { keep := [1, 234, 272, 273, 274, 277, 278, 279, 280, 281, 282, 283, 284, 285, 286], live := [.own 36 [] 3280 (.int .i64) true, .own 233 [] 3056 (.int .i64) true, .tv 235 (.int .i64)], outs := [(.exit 0, []), (.ret, [.tv 4 .bool])] })], joins := [(16, { keep := [1], live := [], outs := [(.normal, []), (.ret, [.tv 4 .bool])] }), (29, { keep := [1], live := [], outs := [(.normal, []), (.ret, [.tv 4 .bool])] })] }
theorem E3_eq : ∀ x, afun E3 Try.f3 C3.ps C3.rs x = C3.fn x := fun x => by kernel_rfl
theorem S3 : Sound Try.prog 3 C3 := fun_sound (E := E3) ⟨good_T (by kernel_rfl), (good_cons S5 ⟨_, Try.func5, by kernel_rfl, by kernel_rfl⟩ (good_cons S6 ⟨_, Try.func6, by kernel_rfl, by kernel_rfl⟩ (good_cons S7 ⟨_, Try.func7, by kernel_rfl, by kernel_rfl⟩ (good_cons S8 ⟨_, Try.func8, by kernel_rfl, by kernel_rfl⟩ (good_cons S9 ⟨_, Try.func9, by kernel_rfl, by kernel_rfl⟩ (good_cons S10 ⟨_, Try.func10, by kernel_rfl, by kernel_rfl⟩ (good_cons S11 ⟨_, Try.func11, by kernel_rfl, by kernel_rfl⟩ (good_cons S12 ⟨_, Try.func12, by kernel_rfl, by kernel_rfl⟩ (good_cons S13 ⟨_, Try.func13, by kernel_rfl, by kernel_rfl⟩ (good_cons S14 ⟨_, Try.func14, by kernel_rfl, by kernel_rfl⟩ (good_cons S15 ⟨_, Try.func15, by kernel_rfl, by kernel_rfl⟩ (good_cons S16 ⟨_, Try.func16, by kernel_rfl, by kernel_rfl⟩ (good_cons S17 ⟨_, Try.func17, by kernel_rfl, by kernel_rfl⟩ (good_cons S18 ⟨_, Try.func18, by kernel_rfl, by kernel_rfl⟩ (good_cons S19 ⟨_, Try.func19, by kernel_rfl, by kernel_rfl⟩ good_nil))))))))))))))), mixedOk⟩ Try.func3 rfl E3_eq
end Go.Proofs.Ytkjcobhldfhodaa.Sh
