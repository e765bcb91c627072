/-
  The functions that the statement reaches, as plain functions; each with its contract.
-/
import Derived.Test.YtkjcobhldfhodaaXLift
import Derived.Test.YtkjcobhldfhodaaChecked
import Derived.KernelRfl
namespace Go.Proofs.Ytkjcobhldfhodaa.Sh
open Go Go.Ab Go.Proofs
set_option maxRecDepth 100000
abbrev TGerrorAddressString : Ty := .pair .str (.pair (.int .u64) .unit)
abbrev GerrorAddressString : Type := Bytes × Int × Unit
abbrev TGl1Cur : Ty := .pair (.slice (.int .u8)) (.pair (.int .i64) (.pair (.int .u64) .unit))
abbrev Gl1Cur : Type := (List Int) × Int × Int × Unit
abbrev TGPhrase : Ty := .pair .str (.pair (.slice (.int .i64)) .unit)
abbrev GPhrase : Type := Bytes × (List Int) × Unit
abbrev TGboundsError : Ty := .pair (.int .i64) (.pair (.int .i64) (.pair .bool (.pair (.int .u8) .unit)))
abbrev GboundsError : Type := Int × Int × Bool × Int × Unit
abbrev TGPrice : Ty := .pair (.int .i64) (.pair (.int .i64) (.pair (.int .i64) (.pair (.int .i64) .unit)))
abbrev GPrice : Type := Int × Int × Int × Int × Unit
abbrev TGSent : Ty := .pair (.int .i64) (.pair (.int .i64) (.pair .bool (.pair (.int .i64) .unit)))
abbrev GSent : Type := Int × Int × Bool × Int × Unit
abbrev TGBook : Ty := .pair (.slice TGPhrase) .unit
abbrev GBook : Type := (List GPhrase) × Unit
theorem mixedOk : Try.prog.follows .mixedOrders = true := by kernel_rfl
/-- laws.big -/
noncomputable def l_big (p_code : List Int) (p_more : List Int) : Option (Bool) :=
  (bif (decide (1048576 < (p_code.length : Int))) then
      some true
    else
      some (decide ((w64 (1048576 - (p_code.length : Int))) < (p_more.length : Int)))).bind fun c1 =>
  some c1
noncomputable def C5 : FnSpec := { ps := [.val (.slice (.int .u8)), .val (.slice (.int .u8))], rs := [.val .bool], fn := fun x => l_big x.1 x.2 }
noncomputable def E5 : Env := { T := [(22, (.slice (.int .u8)))], G := [], ro := [], loops := [], joins := [] }
theorem E5_eq : ∀ x, afun E5 Try.f5 C5.ps C5.rs x = C5.fn x := fun x => by kernel_rfl
theorem S5 : Sound Try.prog 5 C5 := fun_sound (E := E5) ⟨good_T (by kernel_rfl), good_nil, mixedOk, ins_nil⟩ Try.func5 rfl E5_eq
/-- impl.within -/
noncomputable def i_within (p_n : Int) (p_low : Int) (p_high : Int) : Option (Bool) :=
  (bif (decide (p_low ≤ p_n)) then
      some (decide (p_n ≤ p_high))
    else
      some false).bind fun c1 =>
  some c1
noncomputable def C38 : FnSpec := { ps := [.val (.int .i64), .val (.int .i64), .val (.int .i64)], rs := [.val .bool], fn := fun x => i_within x.1 x.2.1 x.2.2 }
noncomputable def E38 : Env := { T := [], G := [], ro := [], loops := [], joins := [] }
theorem E38_eq : ∀ x, afun E38 Try.f38 C38.ps C38.rs x = C38.fn x := fun x => by kernel_rfl
theorem S38 : Sound Try.prog 38 C38 := fun_sound (E := E38) ⟨good_T (by kernel_rfl), good_nil, mixedOk, ins_nil⟩ Try.func38 rfl E38_eq
/-- impl.IsPrice -/
noncomputable def i_IsPrice (p_p : GPrice) : Option (Bool) :=
  (i_within p_p.1 0 10000).bind fun r1 =>
  (bif r1 then
      (i_within p_p.2.1 0 100).bind fun r2 =>
      some r2
    else
      some false).bind fun c3 =>
  (bif c3 then
      (i_within p_p.2.2.1 0 1000).bind fun r4 =>
      some r4
    else
      some false).bind fun c5 =>
  (bif c5 then
      (i_within p_p.2.2.2.1 0 200).bind fun r6 =>
      some r6
    else
      some false).bind fun c7 =>
  some c7
noncomputable def C27 : FnSpec := { ps := [.val TGPrice], rs := [.val .bool], fn := fun x => i_IsPrice x }
noncomputable def E27 : Env := { T := [(3, (.int .i64)), (25, TGPrice)], G := [(38, C38)], ro := [1], loops := [], joins := [] }
theorem E27_eq : ∀ x, afun E27 Try.f27 C27.ps C27.rs x = C27.fn x := fun x => by kernel_rfl
theorem S27 : Sound Try.prog 27 C27 := fun_sound (E := E27) ⟨good_T (by kernel_rfl), (good_cons S38 ⟨_, Try.func38, by kernel_rfl, by kernel_rfl⟩ good_nil), mixedOk, ins_nil⟩ Try.func27 rfl E27_eq
/-- impl.priceOf -/
noncomputable def i_priceOf (p_p : GPrice) (p_x : GSent) : Option (Int) :=
  bif p_x.2.2.1 then
    some (w64 ((w64 ((w64 (p_p.1 + (w64 ((w64 (p_p.2.1 * p_x.1)) * p_x.2.1)))) + (w64 (p_p.2.2.1 * p_x.2.1)))) + (w64 (Int.tdiv (w64 ((w64 ((w64 (p_p.1 + (w64 ((w64 (p_p.2.1 * p_x.1)) * p_x.2.1)))) + (w64 (p_p.2.2.1 * p_x.2.1)))) * p_p.2.2.2.1)) 100))))
  else
    some (w64 ((w64 (p_p.1 + (w64 ((w64 (p_p.2.1 * p_x.1)) * p_x.2.1)))) + (w64 (p_p.2.2.1 * p_x.2.1))))
noncomputable def C39 : FnSpec := { ps := [.val TGPrice, .val TGSent], rs := [.val (.int .i64)], fn := fun x => i_priceOf x.1 x.2 }
noncomputable def E39 : Env := { T := [(3, (.int .i64)), (4, .bool), (25, TGPrice), (32, TGSent)], G := [], ro := [2, 3], loops := [], joins := [] }
theorem E39_eq : ∀ x, afun E39 Try.f39 C39.ps C39.rs x = C39.fn x := fun x => by kernel_rfl
theorem S39 : Sound Try.prog 39 C39 := fun_sound (E := E39) ⟨good_T (by kernel_rfl), good_nil, mixedOk, ins_nil⟩ Try.func39 rfl E39_eq
/-- impl.isSent -/
noncomputable def i_isSent (p_x : GSent) : Option (Bool) :=
  (i_within p_x.1 1 72).bind fun r1 =>
  (bif r1 then
      (i_within p_x.2.1 1 16).bind fun r2 =>
      some r2
    else
      some false).bind fun c3 =>
  (bif c3 then
      (i_within p_x.2.2.2.1 0 10000).bind fun r4 =>
      some r4
    else
      some false).bind fun c5 =>
  some c5
noncomputable def C44 : FnSpec := { ps := [.val TGSent], rs := [.val .bool], fn := fun x => i_isSent x }
noncomputable def E44 : Env := { T := [(3, (.int .i64)), (32, TGSent)], G := [(38, C38)], ro := [1], loops := [], joins := [] }
theorem E44_eq : ∀ x, afun E44 Try.f44 C44.ps C44.rs x = C44.fn x := fun x => by kernel_rfl
theorem S44 : Sound Try.prog 44 C44 := fun_sound (E := E44) ⟨good_T (by kernel_rfl), (good_cons S38 ⟨_, Try.func38, by kernel_rfl, by kernel_rfl⟩ good_nil), mixedOk, ins_nil⟩ Try.func44 rfl E44_eq
/-- impl.PriceOf -/
noncomputable def i_PriceOf (p_p : GPrice) (p_x : GSent) : Option (Int × Bool) :=
  (i_IsPrice p_p).bind fun r1 =>
  (bif (!r1) then
      some true
    else
      (i_isSent p_x).bind fun r2 =>
      some (!r2)).bind fun c3 =>
  bif c3 then
    some (0, false)
  else
    (i_priceOf p_p p_x).bind fun r4 =>
    some (r4, true)
noncomputable def C9 : FnSpec := { ps := [.val TGPrice, .val TGSent], rs := [.val (.int .i64), .val .bool], fn := fun x => i_PriceOf x.1 x.2 }
noncomputable def E9 : Env := { T := [(25, TGPrice), (32, TGSent)], G := [(27, C27), (39, C39), (44, C44)], ro := [2, 3], loops := [], joins := [] }
theorem E9_eq : ∀ x, afun E9 Try.f9 C9.ps C9.rs x = C9.fn x := fun x => by kernel_rfl
theorem S9 : Sound Try.prog 9 C9 := fun_sound (E := E9) ⟨good_T (by kernel_rfl), (good_cons S27 ⟨_, Try.func27, by kernel_rfl, by kernel_rfl⟩ (good_cons S39 ⟨_, Try.func39, by kernel_rfl, by kernel_rfl⟩ (good_cons S44 ⟨_, Try.func44, by kernel_rfl, by kernel_rfl⟩ good_nil))), mixedOk, ins_nil⟩ Try.func9 rfl E9_eq
/-- (*spec.l1Cur).next -/
noncomputable def s_l1Cur_next (p_c : Gl1Cur) : Option (Gl1Cur × Int) :=
  (bif (decide (p_c.2.1 < (p_c.1.length : Int))) then
      (idx p_c.1 p_c.2.1).bind fun e1 =>
      some (p_c.1, p_c.2.1, p_c.2.2.1, (w64 e1))
    else
      some (p_c.1, p_c.2.1, p_c.2.2.1, 0)).bind fun j2 =>
  bif (decide ((w64 (j2.2.1 + 1)) ≤ (j2.1.length : Int))) then
    some ((j2.1, (w64 (j2.2.1 + 1)), (IntKind.u64.wrap ((IntKind.u64.wrap ((IntKind.u64.wrap (j2.2.2.1 * 6364136223846793005)) + (IntKind.u64.wrap j2.2.2.2))) + 1442695040888963407)), ()), j2.2.2.2)
  else
    some ((j2.1, (w64 (j2.2.1 + 1)), (IntKind.u64.wrap ((IntKind.u64.wrap ((IntKind.u64.wrap (j2.2.2.1 * 6364136223846793005)) + (IntKind.u64.wrap j2.2.2.2))) + 1442695040888963407)), ()), (w64 (bitsI .and .u64 (shiftI .shr .u64 (IntKind.u64.wrap ((IntKind.u64.wrap ((IntKind.u64.wrap (j2.2.2.1 * 6364136223846793005)) + (IntKind.u64.wrap j2.2.2.2))) + 1442695040888963407)) 40) 255)))
noncomputable def C71 : FnSpec := { ps := [.mbox TGl1Cur], rs := [.val (.int .i64)], fn := fun x => s_l1Cur_next x }
noncomputable def E71 : Env := { T := [(3, (.int .i64)), (5, (.int .u8)), (22, (.slice (.int .u8))), (60, (.int .u64)), (62, TGl1Cur)], G := [], ro := [], loops := [], joins := [(4, { keep := [], live := [], outs := [(.normal, [.bx 0 100000 [.pv (.slice (.int .u8)), .pv (.int .i64), .pv (.int .u64)], .tv 3 (.int .i64)])] })] }
theorem E71_eq : ∀ x, afun E71 Try.f71 C71.ps C71.rs x = C71.fn x := fun x => by kernel_rfl
theorem S71 : Sound Try.prog 71 C71 := fun_sound_box (E := E71) ⟨good_T (by kernel_rfl), good_nil, mixedOk, ins_nil⟩ Try.func71 rfl E71_eq
/-- (*spec.l1Cur).pick -/
noncomputable def s_l1Cur_pick (p_c : Gl1Cur) (p_n : Int) : Option (Gl1Cur × Int) :=
  bif (decide (p_n ≤ 1)) then
    some (p_c, 0)
  else
    (s_l1Cur_next p_c).bind fun r1 =>
    bif (decide (200 < p_n)) then
      (s_l1Cur_next r1.1).bind fun r2 =>
      bif (!decide (p_n = 0)) then
        some (r2.1, (Int.tmod (w64 ((w64 (r1.2 * 256)) + r2.2)) p_n))
      else
        none
    else
      bif (!decide (p_n = 0)) then
        some (r1.1, (Int.tmod r1.2 p_n))
      else
        none
noncomputable def C59 : FnSpec := { ps := [.mbox TGl1Cur, .val (.int .i64)], rs := [.val (.int .i64)], fn := fun x => s_l1Cur_pick x.1 x.2 }
noncomputable def E59 : Env := { T := [], G := [(71, C71)], ro := [], loops := [], joins := [] }
theorem E59_eq : ∀ x, afun E59 Try.f59 C59.ps C59.rs x = C59.fn x := fun x => by kernel_rfl
theorem S59 : Sound Try.prog 59 C59 := fun_sound_box (E := E59) ⟨good_T (by kernel_rfl), (good_cons S71 ⟨_, Try.func71, by kernel_rfl, by kernel_rfl⟩ good_nil), mixedOk, ins_nil⟩ Try.func59 rfl E59_eq
/-- (*spec.l1Cur).among -/
noncomputable def s_l1Cur_among (p_c : Gl1Cur) (p_list : List Int) : Option (Gl1Cur × Int) :=
  (s_l1Cur_pick p_c (p_list.length : Int)).bind fun r1 =>
  (idx p_list r1.2).bind fun e2 =>
  some (r1.1, e2)
noncomputable def C36 : FnSpec := { ps := [.mbox TGl1Cur, .val (.slice (.int .i64))], rs := [.val (.int .i64)], fn := fun x => s_l1Cur_among x.1 x.2 }
noncomputable def E36 : Env := { T := [(3, (.int .i64)), (36, (.slice (.int .i64)))], G := [(59, C59)], ro := [], loops := [], joins := [] }
theorem E36_eq : ∀ x, afun E36 Try.f36 C36.ps C36.rs x = C36.fn x := fun x => by kernel_rfl
theorem S36 : Sound Try.prog 36 C36 := fun_sound_box (E := E36) ⟨good_T (by kernel_rfl), (good_cons S59 ⟨_, Try.func59, by kernel_rfl, by kernel_rfl⟩ good_nil), mixedOk, ins_nil⟩ Try.func36 rfl E36_eq
/-- (*spec.l1Cur).price -/
noncomputable def s_l1Cur_price (p_c : Gl1Cur) : Option (Gl1Cur × GPrice) :=
  (s_l1Cur_pick p_c 900).bind fun r1 =>
  (s_l1Cur_among r1.1 [0, 100, 10000, r1.2]).bind fun r2 =>
  (s_l1Cur_among r2.1 [0, 2, 7, 100]).bind fun r3 =>
  (s_l1Cur_pick r3.1 90).bind fun r4 =>
  (s_l1Cur_among r4.1 [0, 10, 1000, r4.2]).bind fun r5 =>
  (s_l1Cur_pick r5.1 100).bind fun r6 =>
  (s_l1Cur_among r6.1 [0, 50, 200, r6.2]).bind fun r7 =>
  (s_l1Cur_pick r7.1 30).bind fun r8 =>
  bif (decide (r8.2 = 0)) then
    (s_l1Cur_among r8.1 [(-1), 10001]).bind fun r9 =>
    some (r9.1, (r9.2, r3.2, r5.2, r7.2, ()))
  else
    bif (decide (r8.2 = 1)) then
      (s_l1Cur_among r8.1 [(-1), 101]).bind fun r10 =>
      some (r10.1, (r2.2, r10.2, r5.2, r7.2, ()))
    else
      bif (decide (r8.2 = 2)) then
        (s_l1Cur_among r8.1 [(-1), 1001]).bind fun r11 =>
        some (r11.1, (r2.2, r3.2, r11.2, r7.2, ()))
      else
        bif (decide (r8.2 = 3)) then
          (s_l1Cur_among r8.1 [(-1), 201]).bind fun r12 =>
          some (r12.1, (r2.2, r3.2, r5.2, r12.2, ()))
        else
          some (r8.1, (r2.2, r3.2, r5.2, r7.2, ()))
noncomputable def C35 : FnSpec := { ps := [.mbox TGl1Cur], rs := [.val TGPrice], fn := fun x => s_l1Cur_price x }
noncomputable def E35 : Env := { T := [(3, (.int .i64)), (25, TGPrice), (36, (.slice (.int .i64)))], G := [(36, C36), (59, C59)], ro := [], loops := [], joins := [] }
theorem E35_eq : ∀ x, afun E35 Try.f35 C35.ps C35.rs x = C35.fn x := fun x => by kernel_rfl
theorem S35 : Sound Try.prog 35 C35 := fun_sound_box (E := E35) ⟨good_T (by kernel_rfl), (good_cons S36 ⟨_, Try.func36, by kernel_rfl, by kernel_rfl⟩ (good_cons S59 ⟨_, Try.func59, by kernel_rfl, by kernel_rfl⟩ good_nil)), mixedOk, ins_nil⟩ Try.func35 rfl E35_eq
/-- (*spec.l1Cur).one -/
noncomputable def s_l1Cur_one (p_c : Gl1Cur) (p_n : Int) : Option (Gl1Cur × Bool) :=
  (s_l1Cur_pick p_c p_n).bind fun r1 =>
  some (r1.1, (decide (r1.2 = 0)))
noncomputable def C60 : FnSpec := { ps := [.mbox TGl1Cur, .val (.int .i64)], rs := [.val .bool], fn := fun x => s_l1Cur_one x.1 x.2 }
noncomputable def E60 : Env := { T := [], G := [(59, C59)], ro := [], loops := [], joins := [] }
theorem E60_eq : ∀ x, afun E60 Try.f60 C60.ps C60.rs x = C60.fn x := fun x => by kernel_rfl
theorem S60 : Sound Try.prog 60 C60 := fun_sound_box (E := E60) ⟨good_T (by kernel_rfl), (good_cons S59 ⟨_, Try.func59, by kernel_rfl, by kernel_rfl⟩ good_nil), mixedOk, ins_nil⟩ Try.func60 rfl E60_eq
/-- (*spec.l1Cur).sent -/
noncomputable def s_l1Cur_sent (p_c : Gl1Cur) : Option (Gl1Cur × GSent) :=
  (s_l1Cur_pick p_c 20).bind fun r1 =>
  (s_l1Cur_pick r1.1 6).bind fun r2 =>
  (s_l1Cur_one r2.1 3).bind fun r3 =>
  (s_l1Cur_pick r3.1 5000).bind fun r4 =>
  (s_l1Cur_among r4.1 [0, 0, 599, 600, 1300, 6000, 10000, r4.2]).bind fun r5 =>
  (s_l1Cur_pick r5.1 30).bind fun r6 =>
  bif (decide (r6.2 = 0)) then
    (s_l1Cur_among r6.1 [0, 72, 73]).bind fun r7 =>
    some (r7.1, (r7.2, (w64 (1 + r2.2)), r3.2, r5.2, ()))
  else
    bif (decide (r6.2 = 1)) then
      (s_l1Cur_among r6.1 [0, 16, 17]).bind fun r8 =>
      some (r8.1, ((w64 (1 + r1.2)), r8.2, r3.2, r5.2, ()))
    else
      bif (decide (r6.2 = 2)) then
        (s_l1Cur_among r6.1 [(-1), 10001]).bind fun r9 =>
        some (r9.1, ((w64 (1 + r1.2)), (w64 (1 + r2.2)), r3.2, r9.2, ()))
      else
        some (r6.1, ((w64 (1 + r1.2)), (w64 (1 + r2.2)), r3.2, r5.2, ()))
noncomputable def C49 : FnSpec := { ps := [.mbox TGl1Cur], rs := [.val TGSent], fn := fun x => s_l1Cur_sent x }
noncomputable def E49 : Env := { T := [(3, (.int .i64)), (32, TGSent), (36, (.slice (.int .i64)))], G := [(36, C36), (59, C59), (60, C60)], ro := [], loops := [], joins := [] }
theorem E49_eq : ∀ x, afun E49 Try.f49 C49.ps C49.rs x = C49.fn x := fun x => by kernel_rfl
theorem S49 : Sound Try.prog 49 C49 := fun_sound_box (E := E49) ⟨good_T (by kernel_rfl), (good_cons S36 ⟨_, Try.func36, by kernel_rfl, by kernel_rfl⟩ (good_cons S59 ⟨_, Try.func59, by kernel_rfl, by kernel_rfl⟩ (good_cons S60 ⟨_, Try.func60, by kernel_rfl, by kernel_rfl⟩ good_nil))), mixedOk, ins_nil⟩ Try.func49 rfl E49_eq
/-- spec.l1In -/
noncomputable def s_l1In (p_n : Int) (p_lo : Int) (p_hi : Int) : Option (Bool) :=
  (bif (decide (p_lo ≤ p_n)) then
      some (decide (p_n ≤ p_hi))
    else
      some false).bind fun c1 =>
  some c1
noncomputable def C41 : FnSpec := { ps := [.val (.int .i64), .val (.int .i64), .val (.int .i64)], rs := [.val .bool], fn := fun x => s_l1In x.1 x.2.1 x.2.2 }
noncomputable def E41 : Env := { T := [], G := [], ro := [], loops := [], joins := [] }
theorem E41_eq : ∀ x, afun E41 Try.f41 C41.ps C41.rs x = C41.fn x := fun x => by kernel_rfl
theorem S41 : Sound Try.prog 41 C41 := fun_sound (E := E41) ⟨good_T (by kernel_rfl), good_nil, mixedOk, ins_nil⟩ Try.func41 rfl E41_eq
/-- spec.pcSent -/
noncomputable def s_pcSent (p_x : GSent) : Option (Bool) :=
  (s_l1In p_x.1 1 72).bind fun r1 =>
  (bif r1 then
      (s_l1In p_x.2.1 1 16).bind fun r2 =>
      some r2
    else
      some false).bind fun c3 =>
  (bif c3 then
      (s_l1In p_x.2.2.2.1 0 10000).bind fun r4 =>
      some r4
    else
      some false).bind fun c5 =>
  some c5
noncomputable def C50 : FnSpec := { ps := [.val TGSent], rs := [.val .bool], fn := fun x => s_pcSent x }
noncomputable def E50 : Env := { T := [(3, (.int .i64)), (32, TGSent)], G := [(41, C41)], ro := [1], loops := [], joins := [] }
theorem E50_eq : ∀ x, afun E50 Try.f50 C50.ps C50.rs x = C50.fn x := fun x => by kernel_rfl
theorem S50 : Sound Try.prog 50 C50 := fun_sound (E := E50) ⟨good_T (by kernel_rfl), (good_cons S41 ⟨_, Try.func41, by kernel_rfl, by kernel_rfl⟩ good_nil), mixedOk, ins_nil⟩ Try.func50 rfl E50_eq
/-- (*spec.l1Cur).sentList -/
noncomputable def s_l1Cur_sentList (p_c : Gl1Cur) : Option (Gl1Cur × (List GSent)) :=
  (s_l1Cur_pick p_c 6).bind fun r1 =>
  (s_l1Cur_one r1.1 20).bind fun r2 =>
  bif r2.2 then
    (s_l1Cur_pick r2.1 2).bind fun r3 =>
    (loopE (fun (st5 : (List Int) × Int × Int × (List GSent)) => (
        bif (decide ((st5.2.2.2.length : Int) < (w64 (20 + r3.2)))) then
          (s_l1Cur_sent (st5.1, st5.2.1, st5.2.2.1, ())).bind fun r6 =>
          (s_pcSent r6.2).bind fun r7 =>
          bif r7 then
            bif true then
              bif decide (List.length st5.2.2.2 + List.length [r6.2] ≤ lim) then
                some (.inl (r6.1.1, r6.1.2.1, r6.1.2.2.1, (st5.2.2.2 ++ [r6.2])))
              else
                none
            else
              some (.inl (r6.1.1, r6.1.2.1, r6.1.2.2.1, st5.2.2.2))
          else
            (s_l1Cur_one r6.1 8).bind fun r8 =>
            bif r8.2 then
              bif decide (List.length st5.2.2.2 + List.length [r6.2] ≤ lim) then
                some (.inl (r8.1.1, r8.1.2.1, r8.1.2.2.1, (st5.2.2.2 ++ [r6.2])))
              else
                none
            else
              some (.inl (r8.1.1, r8.1.2.1, r8.1.2.2.1, st5.2.2.2))
        else
          some (.inr (st5.1, st5.2.1, st5.2.2.1, st5.2.2.2)) : Option (((List Int) × Int × Int × (List GSent)) ⊕ (((List Int) × Int × Int × (List GSent)))))) (r3.1.1, r3.1.2.1, r3.1.2.2.1, [])).bind fun o9 =>
    some ((o9.1, o9.2.1, o9.2.2.1, ()), o9.2.2.2)
  else
    (loopE (fun (st11 : (List Int) × Int × Int × (List GSent)) => (
        bif (decide ((st11.2.2.2.length : Int) < r1.2)) then
          (s_l1Cur_sent (st11.1, st11.2.1, st11.2.2.1, ())).bind fun r12 =>
          (s_pcSent r12.2).bind fun r13 =>
          bif r13 then
            bif true then
              bif decide (List.length st11.2.2.2 + List.length [r12.2] ≤ lim) then
                some (.inl (r12.1.1, r12.1.2.1, r12.1.2.2.1, (st11.2.2.2 ++ [r12.2])))
              else
                none
            else
              some (.inl (r12.1.1, r12.1.2.1, r12.1.2.2.1, st11.2.2.2))
          else
            (s_l1Cur_one r12.1 8).bind fun r14 =>
            bif r14.2 then
              bif decide (List.length st11.2.2.2 + List.length [r12.2] ≤ lim) then
                some (.inl (r14.1.1, r14.1.2.1, r14.1.2.2.1, (st11.2.2.2 ++ [r12.2])))
              else
                none
            else
              some (.inl (r14.1.1, r14.1.2.1, r14.1.2.2.1, st11.2.2.2))
        else
          some (.inr (st11.1, st11.2.1, st11.2.2.1, st11.2.2.2)) : Option (((List Int) × Int × Int × (List GSent)) ⊕ (((List Int) × Int × Int × (List GSent)))))) (r2.1.1, r2.1.2.1, r2.1.2.2.1, [])).bind fun o15 =>
    some ((o15.1, o15.2.1, o15.2.2.1, ()), o15.2.2.2)
noncomputable def C45 : FnSpec := { ps := [.mbox TGl1Cur], rs := [.own (.slice TGSent)], fn := fun x => s_l1Cur_sentList x }
noncomputable def E45 : Env := { T := [(32, TGSent), (33, (.slice TGSent))], G := [(49, C49), (50, C50), (59, C59), (60, C60)], ro := [], loops := [(5, { keep := [4], live := [.bx 0 100000 [.pv (.slice (.int .u8)), .pv (.int .i64), .pv (.int .u64)], .own 3 [] 200003 TGSent true], outs := [(.exit 0, [.bx 0 100000 [.pv (.slice (.int .u8)), .pv (.int .i64), .pv (.int .u64)], .own 3 [] 200003 TGSent true])] })], joins := [], forks := [21] }
theorem E45_eq : ∀ x, afun E45 Try.f45 C45.ps C45.rs x = C45.fn x := fun x => by kernel_rfl
theorem S45 : Sound Try.prog 45 C45 := fun_sound_box (E := E45) ⟨good_T (by kernel_rfl), (good_cons S49 ⟨_, Try.func49, by kernel_rfl, by kernel_rfl⟩ (good_cons S50 ⟨_, Try.func50, by kernel_rfl, by kernel_rfl⟩ (good_cons S59 ⟨_, Try.func59, by kernel_rfl, by kernel_rfl⟩ (good_cons S60 ⟨_, Try.func60, by kernel_rfl, by kernel_rfl⟩ good_nil)))), mixedOk, ins_nil⟩ Try.func45 rfl E45_eq
/-- spec.DrawBillOf -/
noncomputable def s_DrawBillOf (p_code : List Int) : Option (GPrice × (List GSent)) :=
  (s_l1Cur_price (p_code, 0, 0, ())).bind fun r1 =>
  (s_l1Cur_sentList r1.1).bind fun r2 =>
  some (r1.2, r2.2)
noncomputable def C20 : FnSpec := { ps := [.val (.slice (.int .u8))], rs := [.val TGPrice, .own (.slice TGSent)], fn := fun x => s_DrawBillOf x }
noncomputable def E20 : Env := { T := [(25, TGPrice), (62, TGl1Cur)], G := [(35, C35), (45, C45)], ro := [], loops := [], joins := [] }
theorem E20_eq : ∀ x, afun E20 Try.f20 C20.ps C20.rs x = C20.fn x := fun x => by kernel_rfl
theorem S20 : Sound Try.prog 20 C20 := fun_sound (E := E20) ⟨good_T (by kernel_rfl), (good_cons S35 ⟨_, Try.func35, by kernel_rfl, by kernel_rfl⟩ (good_cons S45 ⟨_, Try.func45, by kernel_rfl, by kernel_rfl⟩ good_nil)), mixedOk, ins_nil⟩ Try.func20 rfl E20_eq
/-- impl.AreSent$1 -/
noncomputable def i_AreSent_1 (p_x : GSent) : Option (Bool) :=
  (i_isSent p_x).bind fun r1 =>
  some (!r1)
noncomputable def C54 : FnSpec := { ps := [.val TGSent], rs := [.val .bool], fn := fun x => i_AreSent_1 x }
noncomputable def E54 : Env := { T := [(32, TGSent)], G := [(44, C44)], ro := [1], loops := [], joins := [] }
theorem E54_eq : ∀ x, afun E54 Try.f54 C54.ps C54.rs x = C54.fn x := fun x => by kernel_rfl
theorem S54 : Sound Try.prog 54 C54 := fun_sound (E := E54) ⟨good_T (by kernel_rfl), (good_cons S44 ⟨_, Try.func44, by kernel_rfl, by kernel_rfl⟩ good_nil), mixedOk, ins_nil⟩ Try.func54 rfl E54_eq
/-- slices.IndexFunc[[]impl.Sent,impl.Sent] -/
noncomputable def slices_IndexFunc_Sent_54 (p_s : List GSent) : Option (Int) :=
  (loopE (fun (st2 : Int) => (
      bif (decide (st2 < (p_s.length : Int))) then
        (idx p_s st2).bind fun e3 =>
        (i_AreSent_1 e3).bind fun r4 =>
        bif r4 then
          some (.inr (.inr st2))
        else
          some (.inl (w64 (st2 + 1)))
      else
        some (.inr (.inl ())) : Option ((Int) ⊕ (Unit ⊕ Int)))) 0).bind fun o5 =>
  match o5 with
  | .inl _ =>
    some (-1)
  | .inr y7 =>
    some y7
noncomputable def C63_54 : FnSpec := { ps := [.val (.slice TGSent), .fn 54 []], rs := [.val (.int .i64)], fn := fun x => slices_IndexFunc_Sent_54 x.1 }
noncomputable def E63_54 : Env := { T := [(32, TGSent), (33, (.slice TGSent))], G := [(54, C54)], ro := [], loops := [(2, { keep := [0, 1, 7], live := [.tv 8 (.int .i64)], outs := [(.exit 0, []), (.ret, [.tv 4 (.int .i64)])] })], joins := [] }
theorem E63_54_eq : ∀ x, afun E63_54 Try.f63 C63_54.ps C63_54.rs x = C63_54.fn x := fun x => by kernel_rfl
theorem S63_54 : Sound Try.prog 63 C63_54 := fun_sound (E := E63_54) ⟨good_T (by kernel_rfl), (good_cons S54 ⟨_, Try.func54, by kernel_rfl, by kernel_rfl⟩ good_nil), mixedOk, ins_nil⟩ Try.func63 rfl E63_54_eq
/-- slices.ContainsFunc[[]impl.Sent,impl.Sent] -/
noncomputable def slices_ContainsFunc_Sent_54 (p_s : List GSent) : Option (Bool) :=
  (slices_IndexFunc_Sent_54 p_s).bind fun r1 =>
  some (decide (0 ≤ r1))
noncomputable def C53_54 : FnSpec := { ps := [.val (.slice TGSent), .fn 54 []], rs := [.val .bool], fn := fun x => slices_ContainsFunc_Sent_54 x.1 }
noncomputable def E53_54 : Env := { T := [], G := [(63, C63_54)], ro := [], loops := [], joins := [] }
theorem E53_54_eq : ∀ x, afun E53_54 Try.f53 C53_54.ps C53_54.rs x = C53_54.fn x := fun x => by kernel_rfl
theorem S53_54 : Sound Try.prog 53 C53_54 := fun_sound (E := E53_54) ⟨good_T (by kernel_rfl), (good_cons S63_54 ⟨_, Try.func63, by kernel_rfl, by kernel_rfl⟩ good_nil), mixedOk, ins_nil⟩ Try.func53 rfl E53_54_eq
/-- impl.AreSent -/
noncomputable def i_AreSent (p_l : List GSent) : Option (Bool) :=
  (bif (decide ((p_l.length : Int) ≤ 20)) then
      (slices_ContainsFunc_Sent_54 p_l).bind fun r1 =>
      some (!r1)
    else
      some false).bind fun c2 =>
  some c2
noncomputable def C26 : FnSpec := { ps := [.val (.slice TGSent)], rs := [.val .bool], fn := fun x => i_AreSent x }
noncomputable def E26 : Env := { T := [(33, (.slice TGSent))], G := [(53, C53_54)], ro := [], loops := [], joins := [] }
theorem E26_eq : ∀ x, afun E26 Try.f26 C26.ps C26.rs x = C26.fn x := fun x => by kernel_rfl
theorem S26 : Sound Try.prog 26 C26 := fun_sound (E := E26) ⟨good_T (by kernel_rfl), (good_cons S53_54 ⟨_, Try.func53, by kernel_rfl, by kernel_rfl⟩ good_nil), mixedOk, ins_nil⟩ Try.func26 rfl E26_eq
/-- impl.refundOf -/
noncomputable def i_refundOf (p_p : GPrice) (p_x : GSent) : Option (Int) :=
  (i_priceOf p_p p_x).bind fun r1 =>
  some (bif decide ((w64 (Int.tdiv (w64 (r1 * (w64 (Int.tdiv p_x.2.2.2.1 600)))) 10)) < r1) then (w64 (Int.tdiv (w64 (r1 * (w64 (Int.tdiv p_x.2.2.2.1 600)))) 10)) else r1)
noncomputable def C51 : FnSpec := { ps := [.val TGPrice, .val TGSent], rs := [.val (.int .i64)], fn := fun x => i_refundOf x.1 x.2 }
noncomputable def E51 : Env := { T := [(3, (.int .i64)), (25, TGPrice), (32, TGSent)], G := [(39, C39)], ro := [2, 3], loops := [], joins := [] }
theorem E51_eq : ∀ x, afun E51 Try.f51 C51.ps C51.rs x = C51.fn x := fun x => by kernel_rfl
theorem S51 : Sound Try.prog 51 C51 := fun_sound (E := E51) ⟨good_T (by kernel_rfl), (good_cons S39 ⟨_, Try.func39, by kernel_rfl, by kernel_rfl⟩ good_nil), mixedOk, ins_nil⟩ Try.func51 rfl E51_eq
/-- impl.BillOf -/
noncomputable def i_BillOf (p_p : GPrice) (p_l : List GSent) : Option (Int × Int × Bool) :=
  (i_IsPrice p_p).bind fun r1 =>
  (bif (!r1) then
      some true
    else
      (i_AreSent p_l).bind fun r2 =>
      some (!r2)).bind fun c3 =>
  bif c3 then
    some (0, 0, false)
  else
    (loopE (fun (st5 : Int × Int × Int) => (
        bif (decide (st5.2.2 < (p_l.length : Int))) then
          (idx p_l st5.2.2).bind fun e6 =>
          (i_priceOf p_p e6).bind fun r7 =>
          (i_refundOf p_p e6).bind fun r8 =>
          some (.inl ((w64 (st5.1 + r7)), (w64 (st5.2.1 + r8)), (w64 (st5.2.2 + 1))))
        else
          some (.inr (st5.1, st5.2.1)) : Option ((Int × Int × Int) ⊕ ((Int × Int))))) (0, 0, 0)).bind fun o9 =>
    some (o9.1, o9.2, true)
noncomputable def C21 : FnSpec := { ps := [.val TGPrice, .val (.slice TGSent)], rs := [.val (.int .i64), .val (.int .i64), .val .bool], fn := fun x => i_BillOf x.1 x.2 }
noncomputable def E21 : Env := { T := [(25, TGPrice), (32, TGSent), (33, (.slice TGSent))], G := [(26, C26), (27, C27), (39, C39), (51, C51)], ro := [2], loops := [(5, { keep := [2, 19, 20], live := [.tv 7 (.int .i64), .tv 8 (.int .i64), .tv 21 (.int .i64)], outs := [(.exit 0, [.tv 7 (.int .i64), .tv 8 (.int .i64)])] })], joins := [] }
theorem E21_eq : ∀ x, afun E21 Try.f21 C21.ps C21.rs x = C21.fn x := fun x => by kernel_rfl
theorem S21 : Sound Try.prog 21 C21 := fun_sound (E := E21) ⟨good_T (by kernel_rfl), (good_cons S26 ⟨_, Try.func26, by kernel_rfl, by kernel_rfl⟩ (good_cons S27 ⟨_, Try.func27, by kernel_rfl, by kernel_rfl⟩ (good_cons S39 ⟨_, Try.func39, by kernel_rfl, by kernel_rfl⟩ (good_cons S51 ⟨_, Try.func51, by kernel_rfl, by kernel_rfl⟩ good_nil)))), mixedOk, ins_nil⟩ Try.func21 rfl E21_eq
/-- spec.pcPrice -/
noncomputable def s_pcPrice (p_p : GPrice) : Option (Bool) :=
  (s_l1In p_p.1 0 10000).bind fun r1 =>
  (bif r1 then
      (s_l1In p_p.2.1 0 100).bind fun r2 =>
      some r2
    else
      some false).bind fun c3 =>
  (bif c3 then
      (s_l1In p_p.2.2.1 0 1000).bind fun r4 =>
      some r4
    else
      some false).bind fun c5 =>
  (bif c5 then
      (s_l1In p_p.2.2.2.1 0 200).bind fun r6 =>
      some r6
    else
      some false).bind fun c7 =>
  some c7
noncomputable def C40 : FnSpec := { ps := [.val TGPrice], rs := [.val .bool], fn := fun x => s_pcPrice x }
noncomputable def E40 : Env := { T := [(3, (.int .i64)), (25, TGPrice)], G := [(41, C41)], ro := [1], loops := [], joins := [] }
theorem E40_eq : ∀ x, afun E40 Try.f40 C40.ps C40.rs x = C40.fn x := fun x => by kernel_rfl
theorem S40 : Sound Try.prog 40 C40 := fun_sound (E := E40) ⟨good_T (by kernel_rfl), (good_cons S41 ⟨_, Try.func41, by kernel_rfl, by kernel_rfl⟩ good_nil), mixedOk, ins_nil⟩ Try.func40 rfl E40_eq
/-- spec.pcCost -/
noncomputable def s_pcCost (p_p : GPrice) (p_x : GSent) : Option (Int) :=
  bif p_x.2.2.1 then
    some (w64 ((w64 ((w64 (p_p.1 + (w64 ((w64 (p_p.2.1 * p_x.1)) * p_x.2.1)))) + (w64 (p_p.2.2.1 * p_x.2.1)))) + (w64 (Int.tdiv (w64 ((w64 ((w64 (p_p.1 + (w64 ((w64 (p_p.2.1 * p_x.1)) * p_x.2.1)))) + (w64 (p_p.2.2.1 * p_x.2.1)))) * p_p.2.2.2.1)) 100))))
  else
    some (w64 ((w64 (p_p.1 + (w64 ((w64 (p_p.2.1 * p_x.1)) * p_x.2.1)))) + (w64 (p_p.2.2.1 * p_x.2.1))))
noncomputable def C43 : FnSpec := { ps := [.val TGPrice, .val TGSent], rs := [.val (.int .i64)], fn := fun x => s_pcCost x.1 x.2 }
noncomputable def E43 : Env := { T := [(3, (.int .i64)), (4, .bool), (25, TGPrice), (32, TGSent)], G := [], ro := [2, 3], loops := [], joins := [] }
theorem E43_eq : ∀ x, afun E43 Try.f43 C43.ps C43.rs x = C43.fn x := fun x => by kernel_rfl
theorem S43 : Sound Try.prog 43 C43 := fun_sound (E := E43) ⟨good_T (by kernel_rfl), good_nil, mixedOk, ins_nil⟩ Try.func43 rfl E43_eq
/-- spec.pcList -/
noncomputable def s_pcList (p_l : List GSent) : Option (Bool) :=
  (loopE (fun (st2 : Int) => (
      bif (decide (st2 < (p_l.length : Int))) then
        (idx p_l st2).bind fun e3 =>
        (s_pcSent e3).bind fun r4 =>
        bif (!r4) then
          some (.inr (.inr false))
        else
          some (.inl (w64 (st2 + 1)))
      else
        some (.inr (.inl ())) : Option ((Int) ⊕ (Unit ⊕ Bool)))) 0).bind fun o5 =>
  match o5 with
  | .inl _ =>
    some (decide ((p_l.length : Int) ≤ 20))
  | .inr y7 =>
    some y7
noncomputable def C47 : FnSpec := { ps := [.val (.slice TGSent)], rs := [.val .bool], fn := fun x => s_pcList x }
noncomputable def E47 : Env := { T := [(32, TGSent), (33, (.slice TGSent))], G := [(50, C50)], ro := [], loops := [(2, { keep := [0, 5, 6], live := [.tv 7 (.int .i64)], outs := [(.exit 0, []), (.ret, [.tv 2 .bool])] })], joins := [] }
theorem E47_eq : ∀ x, afun E47 Try.f47 C47.ps C47.rs x = C47.fn x := fun x => by kernel_rfl
theorem S47 : Sound Try.prog 47 C47 := fun_sound (E := E47) ⟨good_T (by kernel_rfl), (good_cons S50 ⟨_, Try.func50, by kernel_rfl, by kernel_rfl⟩ good_nil), mixedOk, ins_nil⟩ Try.func47 rfl E47_eq
/-- spec.l1Least -/
noncomputable def s_l1Least (p_a : Int) (p_b : Int) : Option (Int) :=
  bif (decide (p_a < p_b)) then
    some p_a
  else
    some p_b
noncomputable def C62 : FnSpec := { ps := [.val (.int .i64), .val (.int .i64)], rs := [.val (.int .i64)], fn := fun x => s_l1Least x.1 x.2 }
noncomputable def E62 : Env := { T := [], G := [], ro := [], loops := [], joins := [] }
theorem E62_eq : ∀ x, afun E62 Try.f62 C62.ps C62.rs x = C62.fn x := fun x => by kernel_rfl
theorem S62 : Sound Try.prog 62 C62 := fun_sound (E := E62) ⟨good_T (by kernel_rfl), good_nil, mixedOk, ins_nil⟩ Try.func62 rfl E62_eq
/-- spec.pcRefund -/
noncomputable def s_pcRefund (p_p : GPrice) (p_x : GSent) : Option (Int) :=
  (s_pcCost p_p p_x).bind fun r1 =>
  (s_l1Least 10 (w64 (Int.tdiv p_x.2.2.2.1 600))).bind fun r2 =>
  some (w64 (Int.tdiv (w64 (r1 * r2)) 10))
noncomputable def C52 : FnSpec := { ps := [.val TGPrice, .val TGSent], rs := [.val (.int .i64)], fn := fun x => s_pcRefund x.1 x.2 }
noncomputable def E52 : Env := { T := [(3, (.int .i64)), (25, TGPrice), (32, TGSent)], G := [(43, C43), (62, C62)], ro := [2, 3], loops := [], joins := [] }
theorem E52_eq : ∀ x, afun E52 Try.f52 C52.ps C52.rs x = C52.fn x := fun x => by kernel_rfl
theorem S52 : Sound Try.prog 52 C52 := fun_sound (E := E52) ⟨good_T (by kernel_rfl), (good_cons S43 ⟨_, Try.func43, by kernel_rfl, by kernel_rfl⟩ (good_cons S62 ⟨_, Try.func62, by kernel_rfl, by kernel_rfl⟩ good_nil)), mixedOk, ins_nil⟩ Try.func52 rfl E52_eq
/-- spec.BillOf -/
noncomputable def s_BillOf (p_p : GPrice) (p_l : List GSent) : Option (Int × Int × Bool) :=
  (s_pcPrice p_p).bind fun r1 =>
  (bif (!r1) then
      some true
    else
      (s_pcList p_l).bind fun r2 =>
      some (!r2)).bind fun c3 =>
  bif c3 then
    some (0, 0, false)
  else
    (loopE (fun (st5 : Int × Int × Int) => (
        bif (decide (st5.2.2 < (p_l.length : Int))) then
          (idx p_l st5.2.2).bind fun e6 =>
          (s_pcCost p_p e6).bind fun r7 =>
          (s_pcRefund p_p e6).bind fun r8 =>
          some (.inl ((w64 (st5.1 + r7)), (w64 (st5.2.1 + r8)), (w64 (st5.2.2 + 1))))
        else
          some (.inr (st5.1, st5.2.1)) : Option ((Int × Int × Int) ⊕ ((Int × Int))))) (0, 0, 0)).bind fun o9 =>
    some (o9.1, o9.2, true)
noncomputable def C22 : FnSpec := { ps := [.val TGPrice, .val (.slice TGSent)], rs := [.val (.int .i64), .val (.int .i64), .val .bool], fn := fun x => s_BillOf x.1 x.2 }
noncomputable def E22 : Env := { T := [(25, TGPrice), (32, TGSent), (33, (.slice TGSent))], G := [(40, C40), (43, C43), (47, C47), (52, C52)], ro := [2], loops := [(5, { keep := [2, 19, 20], live := [.tv 7 (.int .i64), .tv 8 (.int .i64), .tv 21 (.int .i64)], outs := [(.exit 0, [.tv 7 (.int .i64), .tv 8 (.int .i64)])] })], joins := [] }
theorem E22_eq : ∀ x, afun E22 Try.f22 C22.ps C22.rs x = C22.fn x := fun x => by kernel_rfl
theorem S22 : Sound Try.prog 22 C22 := fun_sound (E := E22) ⟨good_T (by kernel_rfl), (good_cons S40 ⟨_, Try.func40, by kernel_rfl, by kernel_rfl⟩ (good_cons S43 ⟨_, Try.func43, by kernel_rfl, by kernel_rfl⟩ (good_cons S47 ⟨_, Try.func47, by kernel_rfl, by kernel_rfl⟩ (good_cons S52 ⟨_, Try.func52, by kernel_rfl, by kernel_rfl⟩ good_nil)))), mixedOk, ins_nil⟩ Try.func22 rfl E22_eq
/-- impl.DearestOf -/
noncomputable def i_DearestOf (p_p : GPrice) (p_l : List GSent) : Option (Int × Bool) :=
  (i_IsPrice p_p).bind fun r1 =>
  (bif (!r1) then
      some true
    else
      (i_AreSent p_l).bind fun r2 =>
      some (!r2)).bind fun c3 =>
  (bif c3 then
      some true
    else
      some (decide ((p_l.length : Int) = 0))).bind fun c4 =>
  bif c4 then
    some (0, false)
  else
    (loopE (fun (st6 : Int × Int × Int) => (
        bif (decide (st6.2.2 < (p_l.length : Int))) then
          (idx p_l st6.2.2).bind fun e7 =>
          (i_priceOf p_p e7).bind fun r8 =>
          bif (decide (st6.2.1 < r8)) then
            some (.inl (st6.2.2, r8, (w64 (st6.2.2 + 1))))
          else
            some (.inl (st6.1, st6.2.1, (w64 (st6.2.2 + 1))))
        else
          some (.inr st6.1) : Option ((Int × Int × Int) ⊕ (Int)))) (0, (-1), 0)).bind fun o9 =>
    some (o9, true)
noncomputable def C23 : FnSpec := { ps := [.val TGPrice, .val (.slice TGSent)], rs := [.val (.int .i64), .val .bool], fn := fun x => i_DearestOf x.1 x.2 }
noncomputable def E23 : Env := { T := [(25, TGPrice), (32, TGSent), (33, (.slice TGSent))], G := [(26, C26), (27, C27), (39, C39)], ro := [2], loops := [(5, { keep := [2, 24, 25], live := [.tv 6 (.int .i64), .tv 7 (.int .i64), .tv 26 (.int .i64)], outs := [(.exit 0, [.tv 6 (.int .i64)])] })], joins := [] }
theorem E23_eq : ∀ x, afun E23 Try.f23 C23.ps C23.rs x = C23.fn x := fun x => by kernel_rfl
theorem S23 : Sound Try.prog 23 C23 := fun_sound (E := E23) ⟨good_T (by kernel_rfl), (good_cons S26 ⟨_, Try.func26, by kernel_rfl, by kernel_rfl⟩ (good_cons S27 ⟨_, Try.func27, by kernel_rfl, by kernel_rfl⟩ (good_cons S39 ⟨_, Try.func39, by kernel_rfl, by kernel_rfl⟩ good_nil))), mixedOk, ins_nil⟩ Try.func23 rfl E23_eq
/-- spec.DearestOf -/
noncomputable def s_DearestOf (p_p : GPrice) (p_l : List GSent) : Option (Int × Bool) :=
  (s_pcPrice p_p).bind fun r1 =>
  (bif (!r1) then
      some true
    else
      (s_pcList p_l).bind fun r2 =>
      some (!r2)).bind fun c3 =>
  (bif c3 then
      some true
    else
      some (decide ((p_l.length : Int) = 0))).bind fun c4 =>
  bif c4 then
    some (0, false)
  else
    (loopE (fun (st6 : Int × Int) => (
        bif (decide (st6.2 < (p_l.length : Int))) then
          (idx p_l st6.2).bind fun e7 =>
          (s_pcCost p_p e7).bind fun r8 =>
          (idx p_l st6.1).bind fun e9 =>
          (s_pcCost p_p e9).bind fun r10 =>
          bif (decide (r10 < r8)) then
            some (.inl (st6.2, (w64 (st6.2 + 1))))
          else
            some (.inl (st6.1, (w64 (st6.2 + 1))))
        else
          some (.inr st6.1) : Option ((Int × Int) ⊕ (Int)))) (0, 0)).bind fun o11 =>
    some (o11, true)
noncomputable def C24 : FnSpec := { ps := [.val TGPrice, .val (.slice TGSent)], rs := [.val (.int .i64), .val .bool], fn := fun x => s_DearestOf x.1 x.2 }
noncomputable def E24 : Env := { T := [(25, TGPrice), (32, TGSent), (33, (.slice TGSent))], G := [(40, C40), (43, C43), (47, C47)], ro := [2], loops := [(5, { keep := [1, 2, 22, 23], live := [.tv 6 (.int .i64), .tv 24 (.int .i64)], outs := [(.exit 0, [.tv 6 (.int .i64)])] })], joins := [] }
theorem E24_eq : ∀ x, afun E24 Try.f24 C24.ps C24.rs x = C24.fn x := fun x => by kernel_rfl
theorem S24 : Sound Try.prog 24 C24 := fun_sound (E := E24) ⟨good_T (by kernel_rfl), (good_cons S40 ⟨_, Try.func40, by kernel_rfl, by kernel_rfl⟩ (good_cons S43 ⟨_, Try.func43, by kernel_rfl, by kernel_rfl⟩ (good_cons S47 ⟨_, Try.func47, by kernel_rfl, by kernel_rfl⟩ good_nil))), mixedOk, ins_nil⟩ Try.func24 rfl E24_eq
/-- impl.RefundOf -/
noncomputable def i_RefundOf (p_p : GPrice) (p_x : GSent) : Option (Int × Bool) :=
  (i_IsPrice p_p).bind fun r1 =>
  (bif (!r1) then
      some true
    else
      (i_isSent p_x).bind fun r2 =>
      some (!r2)).bind fun c3 =>
  bif c3 then
    some (0, false)
  else
    (i_refundOf p_p p_x).bind fun r4 =>
    some (r4, true)
noncomputable def C25 : FnSpec := { ps := [.val TGPrice, .val TGSent], rs := [.val (.int .i64), .val .bool], fn := fun x => i_RefundOf x.1 x.2 }
noncomputable def E25 : Env := { T := [(25, TGPrice), (32, TGSent)], G := [(27, C27), (44, C44), (51, C51)], ro := [2, 3], loops := [], joins := [] }
theorem E25_eq : ∀ x, afun E25 Try.f25 C25.ps C25.rs x = C25.fn x := fun x => by kernel_rfl
theorem S25 : Sound Try.prog 25 C25 := fun_sound (E := E25) ⟨good_T (by kernel_rfl), (good_cons S27 ⟨_, Try.func27, by kernel_rfl, by kernel_rfl⟩ (good_cons S44 ⟨_, Try.func44, by kernel_rfl, by kernel_rfl⟩ (good_cons S51 ⟨_, Try.func51, by kernel_rfl, by kernel_rfl⟩ good_nil))), mixedOk, ins_nil⟩ Try.func25 rfl E25_eq
/-- spec.DrawPriceOf -/
noncomputable def s_DrawPriceOf (p_code : List Int) : Option (GPrice × GSent) :=
  (s_l1Cur_price (p_code, 0, 0, ())).bind fun r1 =>
  (s_l1Cur_sent r1.1).bind fun r2 =>
  some (r1.2, r2.2)
noncomputable def C28 : FnSpec := { ps := [.val (.slice (.int .u8))], rs := [.val TGPrice, .val TGSent], fn := fun x => s_DrawPriceOf x }
noncomputable def E28 : Env := { T := [(25, TGPrice), (32, TGSent), (62, TGl1Cur)], G := [(35, C35), (49, C49)], ro := [], loops := [], joins := [] }
theorem E28_eq : ∀ x, afun E28 Try.f28 C28.ps C28.rs x = C28.fn x := fun x => by kernel_rfl
theorem S28 : Sound Try.prog 28 C28 := fun_sound (E := E28) ⟨good_T (by kernel_rfl), (good_cons S35 ⟨_, Try.func35, by kernel_rfl, by kernel_rfl⟩ (good_cons S49 ⟨_, Try.func49, by kernel_rfl, by kernel_rfl⟩ good_nil)), mixedOk, ins_nil⟩ Try.func28 rfl E28_eq
/-- spec.PriceOf -/
noncomputable def s_PriceOf (p_p : GPrice) (p_x : GSent) : Option (Int × Bool) :=
  (s_pcPrice p_p).bind fun r1 =>
  (bif (!r1) then
      some true
    else
      (s_pcSent p_x).bind fun r2 =>
      some (!r2)).bind fun c3 =>
  bif c3 then
    some (0, false)
  else
    (s_pcCost p_p p_x).bind fun r4 =>
    some (r4, true)
noncomputable def C29 : FnSpec := { ps := [.val TGPrice, .val TGSent], rs := [.val (.int .i64), .val .bool], fn := fun x => s_PriceOf x.1 x.2 }
noncomputable def E29 : Env := { T := [(25, TGPrice), (32, TGSent)], G := [(40, C40), (43, C43), (50, C50)], ro := [2, 3], loops := [], joins := [] }
theorem E29_eq : ∀ x, afun E29 Try.f29 C29.ps C29.rs x = C29.fn x := fun x => by kernel_rfl
theorem S29 : Sound Try.prog 29 C29 := fun_sound (E := E29) ⟨good_T (by kernel_rfl), (good_cons S40 ⟨_, Try.func40, by kernel_rfl, by kernel_rfl⟩ (good_cons S43 ⟨_, Try.func43, by kernel_rfl, by kernel_rfl⟩ (good_cons S50 ⟨_, Try.func50, by kernel_rfl, by kernel_rfl⟩ good_nil))), mixedOk, ins_nil⟩ Try.func29 rfl E29_eq
/-- spec.RefundOf -/
noncomputable def s_RefundOf (p_p : GPrice) (p_x : GSent) : Option (Int × Bool) :=
  (s_pcPrice p_p).bind fun r1 =>
  (bif (!r1) then
      some true
    else
      (s_pcSent p_x).bind fun r2 =>
      some (!r2)).bind fun c3 =>
  bif c3 then
    some (0, false)
  else
    (s_pcRefund p_p p_x).bind fun r4 =>
    some (r4, true)
noncomputable def C30 : FnSpec := { ps := [.val TGPrice, .val TGSent], rs := [.val (.int .i64), .val .bool], fn := fun x => s_RefundOf x.1 x.2 }
noncomputable def E30 : Env := { T := [(25, TGPrice), (32, TGSent)], G := [(40, C40), (50, C50), (52, C52)], ro := [2, 3], loops := [], joins := [] }
theorem E30_eq : ∀ x, afun E30 Try.f30 C30.ps C30.rs x = C30.fn x := fun x => by kernel_rfl
theorem S30 : Sound Try.prog 30 C30 := fun_sound (E := E30) ⟨good_T (by kernel_rfl), (good_cons S40 ⟨_, Try.func40, by kernel_rfl, by kernel_rfl⟩ (good_cons S50 ⟨_, Try.func50, by kernel_rfl, by kernel_rfl⟩ (good_cons S52 ⟨_, Try.func52, by kernel_rfl, by kernel_rfl⟩ good_nil))), mixedOk, ins_nil⟩ Try.func30 rfl E30_eq
/-- spec.phraseTexts -/
noncomputable def s_phraseTexts : Option ((List Bytes)) :=
  some [([97] : Bytes), ([97, 98, 98, 101, 121] : Bytes), ([97, 114, 114, 105, 118, 101] : Bytes), ([98] : Bytes), ([98, 111, 97, 116] : Bytes), ([98, 111, 97, 116, 115] : Bytes), ([99, 108, 101, 97, 114] : Bytes), ([101] : Bytes), ([101, 110, 101, 109, 121] : Bytes), ([102, 108, 101, 101, 116] : Bytes), ([102, 111, 103] : Bytes), ([102, 114, 111, 109] : Bytes), ([104, 97, 114, 98, 111, 117, 114] : Bytes), ([105, 110] : Bytes), ([110, 111, 114, 116, 104] : Bytes), ([112, 111, 114, 116] : Bytes), ([113, 117, 97, 114, 97, 110, 116, 105, 110, 101, 100] : Bytes), ([115, 97, 105, 108, 115] : Bytes), ([115, 104, 105, 112] : Bytes), ([115, 104, 105, 112, 115] : Bytes), ([115, 111, 117, 116, 104] : Bytes), ([115, 116, 111, 114, 109] : Bytes), ([116, 104, 101] : Bytes), ([116, 111] : Bytes), ([116, 111, 110, 105, 103, 104, 116] : Bytes), ([122] : Bytes)]
noncomputable def C72 : FnSpec := { ps := [], rs := [.own (.slice .str)], fn := fun x => s_phraseTexts }
noncomputable def E72 : Env := { T := [(83, (.slice .str))], G := [], ro := [], loops := [], joins := [] }
theorem E72_eq : ∀ x, afun E72 Try.f72 C72.ps C72.rs x = C72.fn x := fun x => by kernel_rfl
theorem S72 : Sound Try.prog 72 C72 := fun_sound (E := E72) ⟨good_T (by kernel_rfl), good_nil, mixedOk, ins_nil⟩ Try.func72 rfl E72_eq
/-- spec.l1Same -/
noncomputable def s_l1Same (p_a : List Int) (p_b : List Int) : Option (Bool) :=
  bif (!decide ((p_a.length : Int) = (p_b.length : Int))) then
    some false
  else
    (loopE (fun (st2 : Int) => (
        bif (decide (st2 < (p_a.length : Int))) then
          (idx p_a st2).bind fun e3 =>
          (idx p_b st2).bind fun e4 =>
          bif (!decide (e3 = e4)) then
            some (.inr (.inr false))
          else
            some (.inl (w64 (st2 + 1)))
        else
          some (.inr (.inl ())) : Option ((Int) ⊕ (Unit ⊕ Bool)))) 0).bind fun o5 =>
    match o5 with
    | .inl _ =>
      some true
    | .inr y7 =>
      some y7
noncomputable def C80 : FnSpec := { ps := [.val (.slice (.int .i64)), .val (.slice (.int .i64))], rs := [.val .bool], fn := fun x => s_l1Same x.1 x.2 }
noncomputable def E80 : Env := { T := [(3, (.int .i64)), (36, (.slice (.int .i64)))], G := [], ro := [], loops := [(4, { keep := [0, 1, 12], live := [.tv 13 (.int .i64)], outs := [(.exit 0, []), (.ret, [.tv 4 .bool])] })], joins := [] }
theorem E80_eq : ∀ x, afun E80 Try.f80 C80.ps C80.rs x = C80.fn x := fun x => by kernel_rfl
theorem S80 : Sound Try.prog 80 C80 := fun_sound (E := E80) ⟨good_T (by kernel_rfl), good_nil, mixedOk, ins_nil⟩ Try.func80 rfl E80_eq
/-- spec.bkOf -/
noncomputable def s_bkOf (p_b : GBook) (p_l : List Int) : Option (Int) :=
  (loopE (fun (st2 : Int) => (
      bif (decide (st2 < (p_b.1.length : Int))) then
        (idx p_b.1 st2).bind fun e3 =>
        (s_l1Same e3.2.1 p_l).bind fun r4 =>
        bif r4 then
          some (.inr (.inr st2))
        else
          some (.inl (w64 (st2 + 1)))
      else
        some (.inr (.inl ())) : Option ((Int) ⊕ (Unit ⊕ Int)))) 0).bind fun o5 =>
  match o5 with
  | .inl _ =>
    some (-1)
  | .inr y7 =>
    some y7
noncomputable def C73 : FnSpec := { ps := [.val TGBook, .val (.slice (.int .i64))], rs := [.val (.int .i64)], fn := fun x => s_bkOf x.1 x.2 }
noncomputable def E73 : Env := { T := [(36, (.slice (.int .i64))), (52, (.slice TGPhrase)), (54, TGBook), (81, TGPhrase)], G := [(80, C80)], ro := [2], loops := [(2, { keep := [1, 8, 9], live := [.tv 10 (.int .i64)], outs := [(.exit 0, []), (.ret, [.tv 4 (.int .i64)])] })], joins := [] }
theorem E73_eq : ∀ x, afun E73 Try.f73 C73.ps C73.rs x = C73.fn x := fun x => by kernel_rfl
theorem S73 : Sound Try.prog 73 C73 := fun_sound (E := E73) ⟨good_T (by kernel_rfl), (good_cons S80 ⟨_, Try.func80, by kernel_rfl, by kernel_rfl⟩ good_nil), mixedOk, ins_nil⟩ Try.func73 rfl E73_eq
/-- (*spec.l1Cur).book -/
noncomputable def s_l1Cur_book (p_c : Gl1Cur) : Option (Gl1Cur × GBook) :=
  (s_phraseTexts).bind fun r1 =>
  (loopE (fun (st3 : (List Int) × Int × Int × (List GPhrase) × (List GPhrase) × (List Bytes) × Int) => (
      bif (decide (st3.2.2.2.2.2.2 < (r1.length : Int))) then
        bif decide (0 ≤ st3.2.2.2.2.2.2) && decide (st3.2.2.2.2.2.2 < (st3.2.2.2.2.2.1.length : Int)) then
          (st3.2.2.2.2.2.1[(Int.toNat st3.2.2.2.2.2.2)]?).bind fun e4 =>
          (s_l1Cur_one (st3.1, st3.2.1, st3.2.2.1, ()) 2).bind fun r5 =>
          (bif (!r5.2) then
              some (decide (0 < (st3.2.2.2.2.1.length : Int)))
            else
              some false).bind fun c6 =>
          bif c6 then
            some (.inl (r5.1.1, r5.1.2.1, r5.1.2.2.1, st3.2.2.2.1, st3.2.2.2.2.1, st3.2.2.2.2.2.1, (w64 (st3.2.2.2.2.2.2 + 1))))
          else
            (s_l1Cur_among r5.1 [2, 4, 60]).bind fun r7 =>
            (loopE (fun (st9 : (List Int) × Int × Int × (List GPhrase) × (List GPhrase) × Int × (List Bytes)) => (
                bif (decide (st9.2.2.2.2.2.1 < 9)) then
                  (s_l1Cur_among (st9.1, st9.2.1, st9.2.2.1, ()) [1, 1, 2, 2, 3]).bind fun r10 =>
                  (loopE (fun (st12 : (List Int) × Int × Int × (List GPhrase) × (List GPhrase) × Bytes × (List Int) × Int × (List Bytes)) => (
                      bif (decide (0 < st12.2.2.2.2.2.2.2.1)) then
                        (s_l1Cur_pick (st12.1, st12.2.1, st12.2.2.1, ()) r7.2).bind fun r13 =>
                        bif decide (List.length st12.2.2.2.2.2.2.1 + List.length [(w64 (1 + r13.2))] ≤ lim) then
                          some (.inl (r13.1.1, r13.1.2.1, r13.1.2.2.1, st12.2.2.2.1, st12.2.2.2.2.1, st12.2.2.2.2.2.1, (st12.2.2.2.2.2.2.1 ++ [(w64 (1 + r13.2))]), (w64 (st12.2.2.2.2.2.2.2.1 - 1)), st12.2.2.2.2.2.2.2.2))
                        else
                          none
                      else
                        some (.inr (st12.1, st12.2.1, st12.2.2.1, st12.2.2.2.1, st12.2.2.2.2.1, st12.2.2.2.2.2.1, st12.2.2.2.2.2.2.1, st12.2.2.2.2.2.2.2.2)) : Option (((List Int) × Int × Int × (List GPhrase) × (List GPhrase) × Bytes × (List Int) × Int × (List Bytes)) ⊕ (((List Int) × Int × Int × (List GPhrase) × (List GPhrase) × Bytes × (List Int) × (List Bytes)))))) (r10.1.1, r10.1.2.1, r10.1.2.2.1, st9.2.2.2.1, st9.2.2.2.2.1, e4, [], r10.2, st9.2.2.2.2.2.2)).bind fun o14 =>
                  (s_bkOf (o14.2.2.2.2.1, ()) o14.2.2.2.2.2.2.1).bind fun r15 =>
                  bif (decide (r15 < 0)) then
                    bif decide (List.length o14.2.2.2.2.1 + List.length [(o14.2.2.2.2.2.1, o14.2.2.2.2.2.2.1, ())] ≤ lim) then
                      some (.inr (o14.1, o14.2.1, o14.2.2.1, o14.2.2.2.1, (o14.2.2.2.2.1 ++ [(o14.2.2.2.2.2.1, o14.2.2.2.2.2.2.1, ())]), o14.2.2.2.2.2.2.2))
                    else
                      none
                  else
                    some (.inl (o14.1, o14.2.1, o14.2.2.1, o14.2.2.2.1, o14.2.2.2.2.1, (w64 (st9.2.2.2.2.2.1 + 1)), o14.2.2.2.2.2.2.2))
                else
                  some (.inr (st9.1, st9.2.1, st9.2.2.1, st9.2.2.2.1, st9.2.2.2.2.1, st9.2.2.2.2.2.2)) : Option (((List Int) × Int × Int × (List GPhrase) × (List GPhrase) × Int × (List Bytes)) ⊕ (((List Int) × Int × Int × (List GPhrase) × (List GPhrase) × (List Bytes)))))) (r7.1.1, r7.1.2.1, r7.1.2.2.1, st3.2.2.2.1, st3.2.2.2.2.1, 0, st3.2.2.2.2.2.1)).bind fun o16 =>
            some (.inl (o16.1, o16.2.1, o16.2.2.1, o16.2.2.2.1, o16.2.2.2.2.1, o16.2.2.2.2.2, (w64 (st3.2.2.2.2.2.2 + 1))))
        else
          none
      else
        some (.inr (st3.1, st3.2.1, st3.2.2.1, st3.2.2.2.1, st3.2.2.2.2.1)) : Option (((List Int) × Int × Int × (List GPhrase) × (List GPhrase) × (List Bytes) × Int) ⊕ (((List Int) × Int × Int × (List GPhrase) × (List GPhrase)))))) (p_c.1, p_c.2.1, p_c.2.2.1, [], [], r1, 0)).bind fun o17 =>
  (s_l1Cur_one (o17.1, o17.2.1, o17.2.2.1, ()) 2).bind fun r18 =>
  bif r18.2 then
    (loopE (fun (st20 : (List Int) × Int × Int × (List GPhrase) × (List GPhrase) × Int) => (
        bif (decide (st20.2.2.2.2.2 < (o17.2.2.2.2.length : Int))) then
          bif decide (0 ≤ st20.2.2.2.2.2) && decide (st20.2.2.2.2.2 < (st20.2.2.2.2.1.length : Int)) then
            (st20.2.2.2.2.1[(Int.toNat st20.2.2.2.2.2)]?).bind fun e21 =>
            some (.inl (st20.1, st20.2.1, st20.2.2.1, st20.2.2.2.1, (st20.2.2.2.2.1.set (Int.toNat st20.2.2.2.2.2) (e21.1, [(w64 (1 + st20.2.2.2.2.2))], ())), (w64 (st20.2.2.2.2.2 + 1))))
          else
            none
        else
          some (.inr (st20.1, st20.2.1, st20.2.2.1, st20.2.2.2.1, st20.2.2.2.2.1)) : Option (((List Int) × Int × Int × (List GPhrase) × (List GPhrase) × Int) ⊕ (((List Int) × Int × Int × (List GPhrase) × (List GPhrase)))))) (r18.1.1, r18.1.2.1, r18.1.2.2.1, o17.2.2.2.1, o17.2.2.2.2, 0)).bind fun o22 =>
    some ((o22.1, o22.2.1, o22.2.2.1, ()), (o22.2.2.2.2, ()))
  else
    some (r18.1, (o17.2.2.2.2, ()))
noncomputable def C64 : FnSpec := { ps := [.mbox TGl1Cur], rs := [.own TGBook], fn := fun x => s_l1Cur_book x }
noncomputable def E64 : Env := { T := [(9, .str), (36, (.slice (.int .i64))), (52, (.slice TGPhrase)), (54, TGBook), (81, TGPhrase), (83, (.slice .str))], G := [(36, C36), (59, C59), (60, C60), (72, C72), (73, C73)], ro := [], loops := [(3, { keep := [13], live := [.bx 0 100000 [.pv (.slice (.int .u8)), .pv (.int .i64), .pv (.int .u64)], .bx 2 32 [.own 300032 TGPhrase true], .bx 3 48 [.own 300048 TGPhrase true], .own 12 [] 192 .str true, .tv 14 (.int .i64)], outs := [(.exit 0, [.bx 0 100000 [.pv (.slice (.int .u8)), .pv (.int .i64), .pv (.int .u64)], .bx 2 32 [.own 300032 TGPhrase true], .bx 3 48 [.own 300048 TGPhrase true]])] }), (8, { keep := [5, 6, 13, 14, 22, 23, 24, 25], live := [.bx 0 100000 [.pv (.slice (.int .u8)), .pv (.int .i64), .pv (.int .u64)], .bx 2 32 [.own 300032 TGPhrase true], .bx 3 48 [.own 300048 TGPhrase true], .tv 7 (.int .i64), .own 12 [] 192 .str true], outs := [(.exit 2, [.bx 0 100000 [.pv (.slice (.int .u8)), .pv (.int .i64), .pv (.int .u64)], .bx 2 32 [.own 300032 TGPhrase true], .bx 3 48 [.own 300048 TGPhrase true], .own 12 [] 192 .str true])] }), (12, { keep := [5, 6, 7, 13, 14, 22, 23, 24, 25], live := [.bx 0 100000 [.pv (.slice (.int .u8)), .pv (.int .i64), .pv (.int .u64)], .bx 2 32 [.own 300032 TGPhrase true], .bx 3 48 [.own 300048 TGPhrase true], .bx 8 128 [.pv .str, .own 300129 (.int .i64) true], .tv 9 (.int .i64), .own 12 [] 192 .str true], outs := [(.exit 4, [.bx 0 100000 [.pv (.slice (.int .u8)), .pv (.int .i64), .pv (.int .u64)], .bx 2 32 [.own 300032 TGPhrase true], .bx 3 48 [.own 300048 TGPhrase true], .bx 8 128 [.pv .str, .own 300129 (.int .i64) true], .own 12 [] 192 .str true])] }), (20, { keep := [68], live := [.bx 0 100000 [.pv (.slice (.int .u8)), .pv (.int .i64), .pv (.int .u64)], .bx 2 32 [.own 300032 TGPhrase true], .bx 3 48 [.own 300048 TGPhrase true], .tv 69 (.int .i64)], outs := [(.exit 6, [.bx 0 100000 [.pv (.slice (.int .u8)), .pv (.int .i64), .pv (.int .u64)], .bx 2 32 [.own 300032 TGPhrase true], .bx 3 48 [.own 300048 TGPhrase true]])] })], joins := [], mv := true, hoist := [(14, [0])], aside := [(47, 100000)] }
theorem E64_eq : ∀ x, afun E64 Try.f64 C64.ps C64.rs x = C64.fn x := fun x => by kernel_rfl
theorem S64 : Sound Try.prog 64 C64 := fun_sound_box (E := E64) ⟨good_T (by kernel_rfl), (good_cons S36 ⟨_, Try.func36, by kernel_rfl, by kernel_rfl⟩ (good_cons S59 ⟨_, Try.func59, by kernel_rfl, by kernel_rfl⟩ (good_cons S60 ⟨_, Try.func60, by kernel_rfl, by kernel_rfl⟩ (good_cons S72 ⟨_, Try.func72, by kernel_rfl, by kernel_rfl⟩ (good_cons S73 ⟨_, Try.func73, by kernel_rfl, by kernel_rfl⟩ good_nil))))), mixedOk, ins_nil⟩ Try.func64 rfl E64_eq
/-- (*spec.l1Cur).of -/
noncomputable def s_l1Cur_of (p_c : Gl1Cur) (p_list : List Bytes) : Option (Gl1Cur × Bytes) :=
  (s_l1Cur_pick p_c (p_list.length : Int)).bind fun r1 =>
  (idx p_list r1.2).bind fun e2 =>
  some (r1.1, e2)
noncomputable def C65 : FnSpec := { ps := [.mbox TGl1Cur, .val (.slice .str)], rs := [.val .str], fn := fun x => s_l1Cur_of x.1 x.2 }
noncomputable def E65 : Env := { T := [(9, .str), (83, (.slice .str))], G := [(59, C59)], ro := [], loops := [], joins := [] }
theorem E65_eq : ∀ x, afun E65 Try.f65 C65.ps C65.rs x = C65.fn x := fun x => by kernel_rfl
theorem S65 : Sound Try.prog 65 C65 := fun_sound_box (E := E65) ⟨good_T (by kernel_rfl), (good_cons S59 ⟨_, Try.func59, by kernel_rfl, by kernel_rfl⟩ good_nil), mixedOk, ins_nil⟩ Try.func65 rfl E65_eq
/-- spec.manyPhrases -/
noncomputable def s_manyPhrases (p_n : Int) : Option (GBook) :=
  (loopE (fun (st2 : (List GPhrase) × (List GPhrase) × Int) => (
      bif (decide (st2.2.2 < p_n)) then
        bif decide (List.length st2.2.1 + List.length [((toStr [(IntKind.u8.wrap (w64 (97 + (w64 (Int.tdiv st2.2.2 20))))), (IntKind.u8.wrap (w64 (97 + (Int.tmod st2.2.2 20))))]), [(w64 (1 + (Int.tmod st2.2.2 30))), (w64 (1 + (w64 (Int.tdiv st2.2.2 30))))], ())] ≤ lim) then
          some (.inl (st2.1, (st2.2.1 ++ [((toStr [(IntKind.u8.wrap (w64 (97 + (w64 (Int.tdiv st2.2.2 20))))), (IntKind.u8.wrap (w64 (97 + (Int.tmod st2.2.2 20))))]), [(w64 (1 + (Int.tmod st2.2.2 30))), (w64 (1 + (w64 (Int.tdiv st2.2.2 30))))], ())]), (w64 (st2.2.2 + 1))))
        else
          none
      else
        some (.inr (st2.1, st2.2.1)) : Option (((List GPhrase) × (List GPhrase) × Int) ⊕ (((List GPhrase) × (List GPhrase)))))) ([], [], 0)).bind fun o3 =>
  some (o3.2, ())
noncomputable def C66 : FnSpec := { ps := [.val (.int .i64)], rs := [.own TGBook], fn := fun x => s_manyPhrases x }
noncomputable def E66 : Env := { T := [(3, (.int .i64)), (5, (.int .u8)), (9, .str), (22, (.slice (.int .u8))), (36, (.slice (.int .i64))), (52, (.slice TGPhrase)), (54, TGBook), (81, TGPhrase)], G := [], ro := [], loops := [(3, { keep := [0], live := [.bx 2 32 [.own 300032 TGPhrase true], .bx 3 48 [.own 300048 TGPhrase true], .tv 4 (.int .i64)], outs := [(.exit 0, [.bx 2 32 [.own 300032 TGPhrase true], .bx 3 48 [.own 300048 TGPhrase true]])] })], joins := [], mv := true }
theorem E66_eq : ∀ x, afun E66 Try.f66 C66.ps C66.rs x = C66.fn x := fun x => by kernel_rfl
theorem S66 : Sound Try.prog 66 C66 := fun_sound (E := E66) ⟨good_T (by kernel_rfl), good_nil, mixedOk, ins_nil⟩ Try.func66 rfl E66_eq
/-- spec.l1Own -/
noncomputable def s_l1Own (p_l : List Int) : Option ((List Int)) :=
  bif decide (List.length p_l ≤ lim) then
    some p_l
  else
    none
noncomputable def C67 : FnSpec := { ps := [.val (.slice (.int .i64))], rs := [.own (.slice (.int .i64))], fn := fun x => s_l1Own x }
noncomputable def E67 : Env := { T := [(36, (.slice (.int .i64)))], G := [], ro := [], loops := [], joins := [] }
theorem E67_eq : ∀ x, afun E67 Try.f67 C67.ps C67.rs x = C67.fn x := fun x => by kernel_rfl
theorem S67 : Sound Try.prog 67 C67 := fun_sound (E := E67) ⟨good_T (by kernel_rfl), good_nil, mixedOk, ins_nil⟩ Try.func67 rfl E67_eq
/-- (*spec.l1Cur).anyBook -/
noncomputable def s_l1Cur_anyBook (p_c : Gl1Cur) : Option (Gl1Cur × GBook) :=
  (s_l1Cur_book p_c).bind fun r1 =>
  (s_l1Cur_pick r1.1 (r1.2.1.length : Int)).bind fun r2 =>
  bif decide (0 ≤ r2.2) && decide (r2.2 < (r1.2.1.length : Int)) then
    (s_l1Cur_pick r2.1 30).bind fun r3 =>
    bif (decide (r3.2 = 0)) then
      (s_l1Cur_of r3.1 ([[], ([65] : Bytes), ([97, 98, 99, 100, 101, 102, 103, 104, 105, 106, 107, 108] : Bytes), ([97, 98, 99, 100, 101, 102, 103, 104, 105, 106, 107, 108, 109] : Bytes), ([122] : Bytes), ([97, 32, 98] : Bytes)] : List Bytes)).bind fun r4 =>
      (r1.2.1[(Int.toNat r2.2)]?).bind fun e5 =>
      some (r4.1, ((r1.2.1.set (Int.toNat r2.2) (r4.2, e5.2)), ()))
    else
      bif (decide (r3.2 = 1)) then
        (r1.2.1[(Int.toNat r2.2)]?).bind fun e6 =>
        (s_l1Cur_among r3.1 [(-1), 0, 60, 61]).bind fun r7 =>
        bif decide (0 ≤ 0) && decide (0 < (List.length e6.2.1 : Int)) then
          some (r7.1, ((r1.2.1.set (Int.toNat r2.2) (e6.1, (List.set e6.2.1 (Int.toNat 0) r7.2), ())), ()))
        else
          none
      else
        bif (decide (r3.2 = 2)) then
          (r1.2.1[(Int.toNat r2.2)]?).bind fun e8 =>
          some (r3.1, ((r1.2.1.set (Int.toNat r2.2) (e8.1, [], ())), ()))
        else
          bif (decide (r3.2 = 3)) then
            (r1.2.1[(Int.toNat r2.2)]?).bind fun e9 =>
            some (r3.1, ((r1.2.1.set (Int.toNat r2.2) (e9.1, [1, 2, 3, 4], ())), ()))
          else
            bif (decide (r3.2 = 4)) then
              (s_l1Cur_among r3.1 [40, 41]).bind fun r10 =>
              (s_manyPhrases r10.2).bind fun r11 =>
              some (r10.1, (r11.1, ()))
            else
              bif (decide (r3.2 = 5)) then
                bif decide (0 ≤ 0) && decide (0 < (r1.2.1.length : Int)) then
                  (r1.2.1[(Int.toNat 0)]?).bind fun e12 =>
                  (s_l1Own e12.2.1).bind fun r13 =>
                  (r1.2.1[(Int.toNat r2.2)]?).bind fun e14 =>
                  some (r3.1, ((r1.2.1.set (Int.toNat r2.2) (e14.1, r13, ())), ()))
                else
                  none
              else
                bif (decide (r3.2 = 6)) then
                  some (r3.1, ([], ()))
                else
                  some (r3.1, r1.2)
  else
    none
noncomputable def C55 : FnSpec := { ps := [.mbox TGl1Cur], rs := [.own TGBook], fn := fun x => s_l1Cur_anyBook x }
noncomputable def E55 : Env := { T := [(3, (.int .i64)), (9, .str), (36, (.slice (.int .i64))), (52, (.slice TGPhrase)), (54, TGBook), (81, TGPhrase), (83, (.slice .str))], G := [(36, C36), (59, C59), (64, C64), (65, C65), (66, C66), (67, C67)], ro := [32], loops := [], joins := [], mv := true, hoist := [(2, [0]), (7, [0, 1, 2])], aside := [(13, 100000), (33, 100000)] }
theorem E55_eq : ∀ x, afun E55 Try.f55 C55.ps C55.rs x = C55.fn x := fun x => by kernel_rfl
theorem S55 : Sound Try.prog 55 C55 := fun_sound_box (E := E55) ⟨good_T (by kernel_rfl), (good_cons S36 ⟨_, Try.func36, by kernel_rfl, by kernel_rfl⟩ (good_cons S59 ⟨_, Try.func59, by kernel_rfl, by kernel_rfl⟩ (good_cons S64 ⟨_, Try.func64, by kernel_rfl, by kernel_rfl⟩ (good_cons S65 ⟨_, Try.func65, by kernel_rfl, by kernel_rfl⟩ (good_cons S66 ⟨_, Try.func66, by kernel_rfl, by kernel_rfl⟩ (good_cons S67 ⟨_, Try.func67, by kernel_rfl, by kernel_rfl⟩ good_nil)))))), mixedOk, ins_nil⟩ Try.func55 rfl E55_eq
/-- (*spec.l1Cur).letters -/
noncomputable def s_l1Cur_letters (p_c : Gl1Cur) (p_b : GBook) : Option (Gl1Cur × Bytes) :=
  (s_l1Cur_pick p_c 6).bind fun r1 =>
  ((s_l1Cur_one r1.1 16).bind fun r2 =>
    bif r2.2 then
      some (r2.1.1, r2.1.2.1, r2.1.2.2.1, 40)
    else
      some (r2.1.1, r2.1.2.1, r2.1.2.2.1, r1.2)).bind fun j3 =>
  (loopE (fun (st5 : (List Int) × Int × Int × Bytes × Int) => (
      bif (decide (0 < st5.2.2.2.2)) then
        (s_l1Cur_of (st5.1, st5.2.1, st5.2.2.1, ()) [([97] : Bytes), ([98] : Bytes), ([101] : Bytes), ([115, 104, 105, 112, 115] : Bytes), ([122] : Bytes), ([113] : Bytes)]).bind fun r6 =>
        bif (decide (0 < (p_b.1.length : Int))) then
          (s_l1Cur_one r6.1 8).bind fun r7 =>
          bif (!r7.2) then
            (s_l1Cur_pick r7.1 (p_b.1.length : Int)).bind fun r8 =>
            (idx p_b.1 r8.2).bind fun e9 =>
            bif (decide ((w64 ((st5.2.2.2.1.length : Int) + (e9.1.length : Int))) ≤ 40)) then
              bif decide (List.length st5.2.2.2.1 + List.length e9.1 ≤ lim) then
                some (.inl (r8.1.1, r8.1.2.1, r8.1.2.2.1, (st5.2.2.2.1 ++ e9.1), (w64 (st5.2.2.2.2 - 1))))
              else
                none
            else
              some (.inl (r8.1.1, r8.1.2.1, r8.1.2.2.1, st5.2.2.2.1, (w64 (st5.2.2.2.2 - 1))))
          else
            bif (decide ((w64 ((st5.2.2.2.1.length : Int) + (r6.2.length : Int))) ≤ 40)) then
              bif decide (List.length st5.2.2.2.1 + List.length r6.2 ≤ lim) then
                some (.inl (r7.1.1, r7.1.2.1, r7.1.2.2.1, (st5.2.2.2.1 ++ r6.2), (w64 (st5.2.2.2.2 - 1))))
              else
                none
            else
              some (.inl (r7.1.1, r7.1.2.1, r7.1.2.2.1, st5.2.2.2.1, (w64 (st5.2.2.2.2 - 1))))
        else
          bif false then
            (s_l1Cur_pick r6.1 (p_b.1.length : Int)).bind fun r10 =>
            (idx p_b.1 r10.2).bind fun e11 =>
            bif (decide ((w64 ((st5.2.2.2.1.length : Int) + (e11.1.length : Int))) ≤ 40)) then
              bif decide (List.length st5.2.2.2.1 + List.length e11.1 ≤ lim) then
                some (.inl (r10.1.1, r10.1.2.1, r10.1.2.2.1, (st5.2.2.2.1 ++ e11.1), (w64 (st5.2.2.2.2 - 1))))
              else
                none
            else
              some (.inl (r10.1.1, r10.1.2.1, r10.1.2.2.1, st5.2.2.2.1, (w64 (st5.2.2.2.2 - 1))))
          else
            bif (decide ((w64 ((st5.2.2.2.1.length : Int) + (r6.2.length : Int))) ≤ 40)) then
              bif decide (List.length st5.2.2.2.1 + List.length r6.2 ≤ lim) then
                some (.inl (r6.1.1, r6.1.2.1, r6.1.2.2.1, (st5.2.2.2.1 ++ r6.2), (w64 (st5.2.2.2.2 - 1))))
              else
                none
            else
              some (.inl (r6.1.1, r6.1.2.1, r6.1.2.2.1, st5.2.2.2.1, (w64 (st5.2.2.2.2 - 1))))
      else
        some (.inr (st5.1, st5.2.1, st5.2.2.1, st5.2.2.2.1)) : Option (((List Int) × Int × Int × Bytes × Int) ⊕ (((List Int) × Int × Int × Bytes))))) (j3.1, j3.2.1, j3.2.2.1, [], j3.2.2.2)).bind fun o12 =>
  (s_l1Cur_one (o12.1, o12.2.1, o12.2.2.1, ()) 24).bind fun r13 =>
  bif r13.2 then
    (s_l1Cur_pick r13.1 2).bind fun r14 =>
    (loopE (fun (st16 : (List Int) × Int × Int × Bytes) => (
        bif (decide ((st16.2.2.2.length : Int) < (w64 (40 + r14.2)))) then
          bif decide (List.length st16.2.2.2 + List.length ([97] : Bytes) ≤ lim) then
            some (.inl (st16.1, st16.2.1, st16.2.2.1, (st16.2.2.2 ++ ([97] : Bytes))))
          else
            none
        else
          some (.inr (st16.1, st16.2.1, st16.2.2.1, st16.2.2.2)) : Option (((List Int) × Int × Int × Bytes) ⊕ (((List Int) × Int × Int × Bytes))))) (r14.1.1, r14.1.2.1, r14.1.2.2.1, o12.2.2.2)).bind fun o17 =>
    (s_l1Cur_one (o17.1, o17.2.1, o17.2.2.1, ()) 24).bind fun r18 =>
    bif r18.2 then
      (s_l1Cur_of r18.1 [([65] : Bytes), ([32] : Bytes), ([49] : Bytes)]).bind fun r19 =>
      bif decide (List.length o17.2.2.2 + List.length r19.2 ≤ lim) then
        some (r19.1, (o17.2.2.2 ++ r19.2))
      else
        none
    else
      some (r18.1, o17.2.2.2)
  else
    (s_l1Cur_one r13.1 24).bind fun r20 =>
    bif r20.2 then
      (s_l1Cur_of r20.1 [([65] : Bytes), ([32] : Bytes), ([49] : Bytes)]).bind fun r21 =>
      bif decide (List.length o12.2.2.2 + List.length r21.2 ≤ lim) then
        some (r21.1, (o12.2.2.2 ++ r21.2))
      else
        none
    else
      some (r20.1, o12.2.2.2)
noncomputable def C56 : FnSpec := { ps := [.mbox TGl1Cur, .val TGBook], rs := [.val .str], fn := fun x => s_l1Cur_letters x.1 x.2 }
noncomputable def E56 : Env := { T := [(9, .str), (52, (.slice TGPhrase)), (54, TGBook), (81, TGPhrase), (83, (.slice .str))], G := [(59, C59), (60, C60), (65, C65)], ro := [3], loops := [(5, { keep := [3], live := [.bx 0 100000 [.pv (.slice (.int .u8)), .pv (.int .i64), .pv (.int .u64)], .tv 5 .str, .tv 6 (.int .i64)], outs := [(.exit 0, [.bx 0 100000 [.pv (.slice (.int .u8)), .pv (.int .i64), .pv (.int .u64)], .tv 5 .str])] }), (14, { keep := [8], live := [.bx 0 100000 [.pv (.slice (.int .u8)), .pv (.int .i64), .pv (.int .u64)], .tv 5 .str], outs := [(.exit 2, [.bx 0 100000 [.pv (.slice (.int .u8)), .pv (.int .i64), .pv (.int .u64)], .tv 5 .str])] })], joins := [(5, { keep := [3, 5], live := [], outs := [(.normal, [.bx 0 100000 [.pv (.slice (.int .u8)), .pv (.int .i64), .pv (.int .u64)], .tv 6 (.int .i64)])] })], forks := [24], aside := [(35, 100000)] }
theorem E56_eq : ∀ x, afun E56 Try.f56 C56.ps C56.rs x = C56.fn x := fun x => by kernel_rfl
theorem S56 : Sound Try.prog 56 C56 := fun_sound_box (E := E56) ⟨good_T (by kernel_rfl), (good_cons S59 ⟨_, Try.func59, by kernel_rfl, by kernel_rfl⟩ (good_cons S60 ⟨_, Try.func60, by kernel_rfl, by kernel_rfl⟩ (good_cons S65 ⟨_, Try.func65, by kernel_rfl, by kernel_rfl⟩ good_nil))), mixedOk, ins_nil⟩ Try.func56 rfl E56_eq
/-- spec.DrawPriceOfLetters -/
noncomputable def s_DrawPriceOfLetters (p_code : List Int) : Option (GPrice × GBook × Bytes × Int) :=
  (s_l1Cur_anyBook (p_code, 0, 0, ())).bind fun r1 =>
  (s_l1Cur_price r1.1).bind fun r2 =>
  (s_l1Cur_letters r2.1 r1.2).bind fun r3 =>
  (s_l1Cur_among r3.1 [0, 17]).bind fun r4 =>
  (s_l1Cur_among r4.1 [1, 3, 5, 16, r4.2]).bind fun r5 =>
  some (r2.2, r1.2, r3.2, r5.2)
noncomputable def C31 : FnSpec := { ps := [.val (.slice (.int .u8))], rs := [.val TGPrice, .val TGBook, .val .str, .val (.int .i64)], fn := fun x => s_DrawPriceOfLetters x }
noncomputable def E31 : Env := { T := [(25, TGPrice), (36, (.slice (.int .i64))), (54, TGBook), (62, TGl1Cur)], G := [(35, C35), (36, C36), (55, C55), (56, C56)], ro := [21, 23], loops := [], joins := [], hoist := [(3, [6])], pre := [(3, [192])], aside := [(14, 160), (18, 160), (22, 160), (24, 160)], astore := [(2, 32)] }
theorem E31_eq : ∀ x, afun E31 Try.f31 C31.ps C31.rs x = C31.fn x := fun x => by kernel_rfl
theorem S31 : Sound Try.prog 31 C31 := fun_sound (E := E31) ⟨good_T (by kernel_rfl), (good_cons S35 ⟨_, Try.func35, by kernel_rfl, by kernel_rfl⟩ (good_cons S36 ⟨_, Try.func36, by kernel_rfl, by kernel_rfl⟩ (good_cons S55 ⟨_, Try.func55, by kernel_rfl, by kernel_rfl⟩ (good_cons S56 ⟨_, Try.func56, by kernel_rfl, by kernel_rfl⟩ good_nil)))), mixedOk, ins_nil⟩ Try.func31 rfl E31_eq
/-- impl.isSmall -/
noncomputable def i_isSmall (p_s : Bytes) : Option (Bool) :=
  (loopE (fun (st2 : Int) => (
      bif (decide (st2 < (p_s.length : Int))) then
        (idx p_s st2).bind fun b3 =>
        (bif (decide ((b3.toNat : Int) < 97)) then
            some true
          else
            (idx p_s st2).bind fun b4 =>
            some (decide (122 < (b4.toNat : Int)))).bind fun c5 =>
        bif c5 then
          some (.inr (.inr false))
        else
          some (.inl (w64 (st2 + 1)))
      else
        some (.inr (.inl ())) : Option ((Int) ⊕ (Unit ⊕ Bool)))) 0).bind fun o6 =>
  match o6 with
  | .inl _ =>
    some true
  | .inr y8 =>
    some y8
noncomputable def C85 : FnSpec := { ps := [.val .str], rs := [.val .bool], fn := fun x => i_isSmall x }
noncomputable def E85 : Env := { T := [(9, .str)], G := [], ro := [], loops := [(2, { keep := [0], live := [.tv 3 (.int .i64)], outs := [(.exit 0, []), (.ret, [.tv 2 .bool])] })], joins := [] }
theorem E85_eq : ∀ x, afun E85 Try.f85 C85.ps C85.rs x = C85.fn x := fun x => by kernel_rfl
theorem S85 : Sound Try.prog 85 C85 := fun_sound (E := E85) ⟨good_T (by kernel_rfl), good_nil, mixedOk, ins_nil⟩ Try.func85 rfl E85_eq
/-- impl.IsPhraseText -/
noncomputable def i_IsPhraseText (p_s : Bytes) : Option (Bool) :=
  (bif (decide (1 ≤ (p_s.length : Int))) then
      some (decide ((p_s.length : Int) ≤ 12))
    else
      some false).bind fun c1 =>
  (bif c1 then
      (i_isSmall p_s).bind fun r2 =>
      some r2
    else
      some false).bind fun c3 =>
  some c3
noncomputable def C89 : FnSpec := { ps := [.val .str], rs := [.val .bool], fn := fun x => i_IsPhraseText x }
noncomputable def E89 : Env := { T := [(9, .str)], G := [(85, C85)], ro := [], loops := [], joins := [] }
theorem E89_eq : ∀ x, afun E89 Try.f89 C89.ps C89.rs x = C89.fn x := fun x => by kernel_rfl
theorem S89 : Sound Try.prog 89 C89 := fun_sound (E := E89) ⟨good_T (by kernel_rfl), (good_cons S85 ⟨_, Try.func85, by kernel_rfl, by kernel_rfl⟩ good_nil), mixedOk, ins_nil⟩ Try.func89 rfl E89_eq
/-- impl.allWithin -/
noncomputable def i_allWithin (p_l : List Int) (p_low : Int) (p_high : Int) : Option (Bool) :=
  (loopE (fun (st2 : Int) => (
      bif (decide (st2 < (p_l.length : Int))) then
        (idx p_l st2).bind fun e3 =>
        (i_within e3 p_low p_high).bind fun r4 =>
        bif (!r4) then
          some (.inr (.inr false))
        else
          some (.inl (w64 (st2 + 1)))
      else
        some (.inr (.inl ())) : Option ((Int) ⊕ (Unit ⊕ Bool)))) 0).bind fun o5 =>
  match o5 with
  | .inl _ =>
    some true
  | .inr y7 =>
    some y7
noncomputable def C90 : FnSpec := { ps := [.val (.slice (.int .i64)), .val (.int .i64), .val (.int .i64)], rs := [.val .bool], fn := fun x => i_allWithin x.1 x.2.1 x.2.2 }
noncomputable def E90 : Env := { T := [(3, (.int .i64)), (36, (.slice (.int .i64)))], G := [(38, C38)], ro := [], loops := [(2, { keep := [1, 2, 9, 10], live := [.tv 11 (.int .i64)], outs := [(.exit 0, []), (.ret, [.tv 6 .bool])] })], joins := [] }
theorem E90_eq : ∀ x, afun E90 Try.f90 C90.ps C90.rs x = C90.fn x := fun x => by kernel_rfl
theorem S90 : Sound Try.prog 90 C90 := fun_sound (E := E90) ⟨good_T (by kernel_rfl), (good_cons S38 ⟨_, Try.func38, by kernel_rfl, by kernel_rfl⟩ good_nil), mixedOk, ins_nil⟩ Try.func90 rfl E90_eq
/-- impl.isPhrase -/
noncomputable def i_isPhrase (p_x : GPhrase) : Option (Bool) :=
  (i_IsPhraseText p_x.1).bind fun r1 =>
  (bif r1 then
      (i_within (p_x.2.1.length : Int) 1 3).bind fun r2 =>
      some r2
    else
      some false).bind fun c3 =>
  (bif c3 then
      (i_allWithin p_x.2.1 1 60).bind fun r4 =>
      some r4
    else
      some false).bind fun c5 =>
  some c5
noncomputable def C83 : FnSpec := { ps := [.val TGPhrase], rs := [.val .bool], fn := fun x => i_isPhrase x }
noncomputable def E83 : Env := { T := [(9, .str), (36, (.slice (.int .i64))), (81, TGPhrase)], G := [(38, C38), (89, C89), (90, C90)], ro := [1], loops := [], joins := [] }
theorem E83_eq : ∀ x, afun E83 Try.f83 C83.ps C83.rs x = C83.fn x := fun x => by kernel_rfl
theorem S83 : Sound Try.prog 83 C83 := fun_sound (E := E83) ⟨good_T (by kernel_rfl), (good_cons S38 ⟨_, Try.func38, by kernel_rfl, by kernel_rfl⟩ (good_cons S89 ⟨_, Try.func89, by kernel_rfl, by kernel_rfl⟩ (good_cons S90 ⟨_, Try.func90, by kernel_rfl, by kernel_rfl⟩ good_nil))), mixedOk, ins_nil⟩ Try.func83 rfl E83_eq
/-- slices.Equal[[]int,int] -/
noncomputable def slices_Equal_int (p_s1 : List Int) (p_s2 : List Int) : Option (Bool) :=
  bif (!decide ((p_s1.length : Int) = (p_s2.length : Int))) then
    some false
  else
    (loopE (fun (st2 : Int) => (
        bif (decide (st2 < (p_s1.length : Int))) then
          (idx p_s1 st2).bind fun e3 =>
          (idx p_s2 st2).bind fun e4 =>
          bif (!decide (e3 = e4)) then
            some (.inr (.inr false))
          else
            some (.inl (w64 (st2 + 1)))
        else
          some (.inr (.inl ())) : Option ((Int) ⊕ (Unit ⊕ Bool)))) 0).bind fun o5 =>
    match o5 with
    | .inl _ =>
      some true
    | .inr y7 =>
      some y7
noncomputable def C93 : FnSpec := { ps := [.val (.slice (.int .i64)), .val (.slice (.int .i64))], rs := [.val .bool], fn := fun x => slices_Equal_int x.1 x.2 }
noncomputable def E93 : Env := { T := [(3, (.int .i64)), (36, (.slice (.int .i64)))], G := [], ro := [], loops := [(4, { keep := [0, 1, 12], live := [.tv 13 (.int .i64)], outs := [(.exit 0, []), (.ret, [.tv 4 .bool])] })], joins := [] }
theorem E93_eq : ∀ x, afun E93 Try.f93 C93.ps C93.rs x = C93.fn x := fun x => by kernel_rfl
theorem S93 : Sound Try.prog 93 C93 := fun_sound (E := E93) ⟨good_T (by kernel_rfl), good_nil, mixedOk, ins_nil⟩ Try.func93 rfl E93_eq
/-- impl.phraseIndex$1 -/
noncomputable def i_phraseIndex_1 (p_x : GPhrase) (p_a1 : List Int) : Option (Bool) :=
  (slices_Equal_int p_x.2.1 p_a1).bind fun r1 =>
  some r1
noncomputable def C92 : FnSpec := { ps := [.val TGPhrase, .rp (.slice (.int .i64))], rs := [.val .bool], fn := fun x => i_phraseIndex_1 x.1 x.2 }
noncomputable def E92 : Env := { T := [(36, (.slice (.int .i64))), (81, TGPhrase)], G := [(93, C93)], ro := [2], loops := [], joins := [] }
theorem E92_eq : ∀ x, afun E92 Try.f92 C92.ps C92.rs x = C92.fn x := fun x => by kernel_rfl
theorem S92 : Sound Try.prog 92 C92 := fun_sound (E := E92) ⟨good_T (by kernel_rfl), (good_cons S93 ⟨_, Try.func93, by kernel_rfl, by kernel_rfl⟩ good_nil), mixedOk, ins_nil⟩ Try.func92 rfl E92_eq
/-- slices.IndexFunc[[]impl.Phrase,impl.Phrase] -/
noncomputable def slices_IndexFunc_Phrase_92 (p_s : List GPhrase) (p_f : (List Int) × Unit) : Option (Int) :=
  (loopE (fun (st2 : Int) => (
      bif (decide (st2 < (p_s.length : Int))) then
        (idx p_s st2).bind fun e3 =>
        (i_phraseIndex_1 e3 p_f.1).bind fun r4 =>
        bif r4 then
          some (.inr (.inr st2))
        else
          some (.inl (w64 (st2 + 1)))
      else
        some (.inr (.inl ())) : Option ((Int) ⊕ (Unit ⊕ Int)))) 0).bind fun o5 =>
  match o5 with
  | .inl _ =>
    some (-1)
  | .inr y7 =>
    some y7
noncomputable def C91_92 : FnSpec := { ps := [.val (.slice TGPhrase), .fn 92 [(.slice (.int .i64))]], rs := [.val (.int .i64)], fn := fun x => slices_IndexFunc_Phrase_92 x.1 x.2 }
noncomputable def E91_92 : Env := { T := [(52, (.slice TGPhrase)), (81, TGPhrase)], G := [(92, C92)], ro := [], loops := [(2, { keep := [0, 1, 7], live := [.tv 8 (.int .i64)], outs := [(.exit 0, []), (.ret, [.tv 4 (.int .i64)])] })], joins := [] }
theorem E91_92_eq : ∀ x, afun E91_92 Try.f91 C91_92.ps C91_92.rs x = C91_92.fn x := fun x => by kernel_rfl
theorem S91_92 : Sound Try.prog 91 C91_92 := fun_sound (E := E91_92) ⟨good_T (by kernel_rfl), (good_cons S92 ⟨_, Try.func92, by kernel_rfl, by kernel_rfl⟩ good_nil), mixedOk, ins_nil⟩ Try.func91 rfl E91_92_eq
/-- impl.phraseIndex -/
noncomputable def i_phraseIndex (p_b : GBook) (p_signals : List Int) : Option (Int) :=
  (slices_IndexFunc_Phrase_92 p_b.1 (p_signals, ())).bind fun r1 =>
  some r1
noncomputable def C84 : FnSpec := { ps := [.val TGBook, .val (.slice (.int .i64))], rs := [.val (.int .i64)], fn := fun x => i_phraseIndex x.1 x.2 }
noncomputable def E84 : Env := { T := [(36, (.slice (.int .i64))), (52, (.slice TGPhrase)), (54, TGBook)], G := [(91, C91_92)], ro := [2, 3], loops := [], joins := [] }
theorem E84_eq : ∀ x, afun E84 Try.f84 C84.ps C84.rs x = C84.fn x := fun x => by kernel_rfl
theorem S84 : Sound Try.prog 84 C84 := fun_sound (E := E84) ⟨good_T (by kernel_rfl), (good_cons S91_92 ⟨_, Try.func91, by kernel_rfl, by kernel_rfl⟩ good_nil), mixedOk, ins_nil⟩ Try.func84 rfl E84_eq
/-- impl.IsBook -/
noncomputable def i_IsBook (p_b : GBook) : Option (Bool) :=
  (i_within (p_b.1.length : Int) 1 40).bind fun r1 =>
  bif (!r1) then
    some false
  else
    (loopE (fun (st3 : Int) => (
        bif (decide (st3 < (p_b.1.length : Int))) then
          (idx p_b.1 st3).bind fun e4 =>
          (i_isPhrase e4).bind fun r5 =>
          (bif (!r5) then
              some true
            else
              (bif (decide (0 < st3)) then
                  (idx p_b.1 (w64 (st3 - 1))).bind fun e6 =>
                  some (!Op.bytesLess e6.1 e4.1)
                else
                  some false).bind fun c7 =>
              some c7).bind fun c8 =>
          (bif c8 then
              some true
            else
              (sub p_b.1 0 st3).bind fun l9 =>
              (i_phraseIndex (l9, ()) e4.2.1).bind fun r10 =>
              some (decide (0 ≤ r10))).bind fun c11 =>
          bif c11 then
            some (.inr (.inr false))
          else
            some (.inl (w64 (st3 + 1)))
        else
          some (.inr (.inl ())) : Option ((Int) ⊕ (Unit ⊕ Bool)))) 0).bind fun o12 =>
    match o12 with
    | .inl _ =>
      some true
    | .inr y14 =>
      some y14
noncomputable def C77 : FnSpec := { ps := [.val TGBook], rs := [.val .bool], fn := fun x => i_IsBook x }
noncomputable def E77 : Env := { T := [(9, .str), (36, (.slice (.int .i64))), (52, (.slice TGPhrase)), (54, TGBook), (81, TGPhrase)], G := [(38, C38), (83, C83), (84, C84)], ro := [1], loops := [(4, { keep := [1, 11, 12], live := [.tv 13 (.int .i64)], outs := [(.exit 0, []), (.ret, [.tv 2 .bool])] })], joins := [] }
theorem E77_eq : ∀ x, afun E77 Try.f77 C77.ps C77.rs x = C77.fn x := fun x => by kernel_rfl
theorem S77 : Sound Try.prog 77 C77 := fun_sound (E := E77) ⟨good_T (by kernel_rfl), (good_cons S38 ⟨_, Try.func38, by kernel_rfl, by kernel_rfl⟩ (good_cons S83 ⟨_, Try.func83, by kernel_rfl, by kernel_rfl⟩ (good_cons S84 ⟨_, Try.func84, by kernel_rfl, by kernel_rfl⟩ good_nil))), mixedOk, ins_nil⟩ Try.func77 rfl E77_eq
/-- impl.isLetters -/
noncomputable def i_isLetters (p_s : Bytes) : Option (Bool) :=
  (bif (decide ((p_s.length : Int) ≤ 40)) then
      (i_isSmall p_s).bind fun r1 =>
      some r1
    else
      some false).bind fun c2 =>
  some c2
noncomputable def C78 : FnSpec := { ps := [.val .str], rs := [.val .bool], fn := fun x => i_isLetters x }
noncomputable def E78 : Env := { T := [(9, .str)], G := [(85, C85)], ro := [], loops := [], joins := [] }
theorem E78_eq : ∀ x, afun E78 Try.f78 C78.ps C78.rs x = C78.fn x := fun x => by kernel_rfl
theorem S78 : Sound Try.prog 78 C78 := fun_sound (E := E78) ⟨good_T (by kernel_rfl), (good_cons S85 ⟨_, Try.func85, by kernel_rfl, by kernel_rfl⟩ good_nil), mixedOk, ins_nil⟩ Try.func78 rfl E78_eq
/-- internal/stringslite.HasPrefix -/
noncomputable def internal_stringslite_HasPrefix (p_s : Bytes) (p_prefix : Bytes) : Option (Bool) :=
  (bif (decide ((p_prefix.length : Int) ≤ (p_s.length : Int))) then
      (sub p_s 0 (p_prefix.length : Int)).bind fun l1 =>
      some (decide (l1 = p_prefix))
    else
      some false).bind fun c2 =>
  some c2
noncomputable def C94 : FnSpec := { ps := [.val .str, .val .str], rs := [.val .bool], fn := fun x => internal_stringslite_HasPrefix x.1 x.2 }
noncomputable def E94 : Env := { T := [(9, .str)], G := [], ro := [], loops := [], joins := [] }
theorem E94_eq : ∀ x, afun E94 Try.f94 C94.ps C94.rs x = C94.fn x := fun x => by kernel_rfl
theorem S94 : Sound Try.prog 94 C94 := fun_sound (E := E94) ⟨good_T (by kernel_rfl), good_nil, mixedOk, ins_nil⟩ Try.func94 rfl E94_eq
/-- strings.HasPrefix -/
noncomputable def strings_HasPrefix (p_s : Bytes) (p_prefix : Bytes) : Option (Bool) :=
  (internal_stringslite_HasPrefix p_s p_prefix).bind fun r1 =>
  some r1
noncomputable def C86 : FnSpec := { ps := [.val .str, .val .str], rs := [.val .bool], fn := fun x => strings_HasPrefix x.1 x.2 }
noncomputable def E86 : Env := { T := [], G := [(94, C94)], ro := [], loops := [], joins := [] }
theorem E86_eq : ∀ x, afun E86 Try.f86 C86.ps C86.rs x = C86.fn x := fun x => by kernel_rfl
theorem S86 : Sound Try.prog 86 C86 := fun_sound (E := E86) ⟨good_T (by kernel_rfl), (good_cons S94 ⟨_, Try.func94, by kernel_rfl, by kernel_rfl⟩ good_nil), mixedOk, ins_nil⟩ Try.func86 rfl E86_eq
/-- impl.spell -/
noncomputable def i_spell (p_b : GBook) (p_s : Bytes) : Option ((List Int) × Bool) :=
  bif decide (0 ≤ (w64 ((p_s.length : Int) + 1))) && decide ((w64 ((p_s.length : Int) + 1)) ≤ (w64 ((p_s.length : Int) + 1))) && decide ((w64 ((p_s.length : Int) + 1)) ≤ lim) then
    bif decide (0 ≤ (w64 ((p_s.length : Int) + 1))) && decide ((w64 ((p_s.length : Int) + 1)) ≤ (w64 ((p_s.length : Int) + 1))) && decide ((w64 ((p_s.length : Int) + 1)) ≤ lim) then
      (loopE (fun (st2 : (List Int) × (List Int) × Int) => (
          bif (decide (0 ≤ st2.2.2)) then
            bif decide (0 ≤ st2.2.2) && decide (st2.2.2 < (st2.1.length : Int)) then
              (loopE (fun (st4 : (List Int) × (List Int) × Int) => (
                  bif (decide (st4.2.2 < (p_b.1.length : Int))) then
                    (idx p_b.1 st4.2.2).bind fun e5 =>
                    (sub p_s st2.2.2 (p_s.length : Int)).bind fun l6 =>
                    (strings_HasPrefix l6 e5.1).bind fun r7 =>
                    bif (!r7) then
                      some (.inl (st4.1, st4.2.1, (w64 (st4.2.2 + 1))))
                    else
                      bif decide (0 ≤ (w64 (st2.2.2 + (e5.1.length : Int)))) && decide ((w64 (st2.2.2 + (e5.1.length : Int))) < (st4.1.length : Int)) then
                        (st4.1[(Int.toNat (w64 (st2.2.2 + (e5.1.length : Int))))]?).bind fun e8 =>
                        bif decide (0 ≤ st2.2.2) && decide (st2.2.2 < (st4.1.length : Int)) then
                          (st4.1[(Int.toNat st2.2.2)]?).bind fun e9 =>
                          bif (decide ((w64 (e8 + (e5.2.1.length : Int))) < e9)) then
                            bif decide (0 ≤ st2.2.2) && decide (st2.2.2 < (st4.1.length : Int)) then
                              bif decide (0 ≤ st2.2.2) && decide (st2.2.2 < (st4.2.1.length : Int)) then
                                some (.inl ((st4.1.set (Int.toNat st2.2.2) (w64 (e8 + (e5.2.1.length : Int)))), (st4.2.1.set (Int.toNat st2.2.2) st4.2.2), (w64 (st4.2.2 + 1))))
                              else
                                none
                            else
                              none
                          else
                            some (.inl (st4.1, st4.2.1, (w64 (st4.2.2 + 1))))
                        else
                          none
                      else
                        none
                  else
                    some (.inr (st4.1, st4.2.1)) : Option (((List Int) × (List Int) × Int) ⊕ (((List Int) × (List Int)))))) ((st2.1.set (Int.toNat st2.2.2) 1073741824), st2.2.1, 0)).bind fun o10 =>
              some (.inl (o10.1, o10.2, (w64 (st2.2.2 - 1))))
            else
              none
          else
            some (.inr (st2.1, st2.2.1)) : Option (((List Int) × (List Int) × Int) ⊕ (((List Int) × (List Int)))))) ((List.replicate (Int.toNat (w64 ((p_s.length : Int) + 1))) (0 : Int)), (List.replicate (Int.toNat (w64 ((p_s.length : Int) + 1))) (0 : Int)), (w64 ((p_s.length : Int) - 1)))).bind fun o11 =>
      bif decide (0 ≤ 0) && decide (0 < (o11.1.length : Int)) then
        (o11.1[(Int.toNat 0)]?).bind fun e12 =>
        bif (decide (1073741824 ≤ e12)) then
          some ([], false)
        else
          (loopE (fun (st14 : (List Int) × (List Int) × Int) => (
              bif (decide (st14.2.2 < (p_s.length : Int))) then
                bif decide (0 ≤ st14.2.2) && decide (st14.2.2 < (st14.1.length : Int)) then
                  (st14.1[(Int.toNat st14.2.2)]?).bind fun e15 =>
                  bif decide (List.length st14.2.1 + List.length [e15] ≤ lim) then
                    bif decide (0 ≤ st14.2.2) && decide (st14.2.2 < (st14.1.length : Int)) then
                      (st14.1[(Int.toNat st14.2.2)]?).bind fun e16 =>
                      (idx p_b.1 e16).bind fun e17 =>
                      some (.inl (st14.1, (st14.2.1 ++ [e15]), (w64 (st14.2.2 + (e17.1.length : Int)))))
                    else
                      none
                  else
                    none
                else
                  none
              else
                some (.inr st14.2.1) : Option (((List Int) × (List Int) × Int) ⊕ ((List Int))))) (o11.2, [], 0)).bind fun o18 =>
          some (o18, true)
      else
        none
    else
      none
  else
    none
noncomputable def C79 : FnSpec := { ps := [.val TGBook, .val .str], rs := [.own (.slice (.int .i64)), .val .bool], fn := fun x => i_spell x.1 x.2 }
noncomputable def E79 : Env := { T := [(3, (.int .i64)), (9, .str), (36, (.slice (.int .i64))), (52, (.slice TGPhrase)), (54, TGBook), (81, TGPhrase)], G := [(86, C86)], ro := [2], loops := [(4, { keep := [1, 2], live := [.own 6 [] 272 (.int .i64) true, .own 7 [] 336 (.int .i64) true, .tv 8 (.int .i64)], outs := [(.exit 0, [.own 6 [] 272 (.int .i64) true, .own 7 [] 336 (.int .i64) true])] }), (8, { keep := [1, 2, 8, 33, 34], live := [.own 6 [] 272 (.int .i64) true, .own 7 [] 336 (.int .i64) true, .tv 35 (.int .i64)], outs := [(.exit 2, [.own 6 [] 272 (.int .i64) true, .own 7 [] 336 (.int .i64) true])] }), (19, { keep := [1, 2], live := [.own 7 [] 336 (.int .i64) true, .own 12 [] 200012 (.int .i64) true, .tv 13 (.int .i64)], outs := [(.exit 4, [.own 12 [] 200012 (.int .i64) true])] })], joins := [] }
theorem E79_eq : ∀ x, afun E79 Try.f79 C79.ps C79.rs x = C79.fn x := fun x => by kernel_rfl
theorem S79 : Sound Try.prog 79 C79 := fun_sound (E := E79) ⟨good_T (by kernel_rfl), (good_cons S86 ⟨_, Try.func86, by kernel_rfl, by kernel_rfl⟩ good_nil), mixedOk, ins_nil⟩ Try.func79 rfl E79_eq
/-- impl.SpellMessage -/
noncomputable def i_SpellMessage (p_b : GBook) (p_s : Bytes) : Option ((List Int) × Bool) :=
  (i_IsBook p_b).bind fun r1 =>
  (bif (!r1) then
      some true
    else
      (i_isLetters p_s).bind fun r2 =>
      some (!r2)).bind fun c3 =>
  bif c3 then
    some ([], false)
  else
    (i_spell p_b p_s).bind fun r4 =>
    some (r4.1, r4.2)
noncomputable def C70 : FnSpec := { ps := [.val TGBook, .val .str], rs := [.own (.slice (.int .i64)), .val .bool], fn := fun x => i_SpellMessage x.1 x.2 }
noncomputable def E70 : Env := { T := [(54, TGBook)], G := [(77, C77), (78, C78), (79, C79)], ro := [2], loops := [], joins := [] }
theorem E70_eq : ∀ x, afun E70 Try.f70 C70.ps C70.rs x = C70.fn x := fun x => by kernel_rfl
theorem S70 : Sound Try.prog 70 C70 := fun_sound (E := E70) ⟨good_T (by kernel_rfl), (good_cons S77 ⟨_, Try.func77, by kernel_rfl, by kernel_rfl⟩ (good_cons S78 ⟨_, Try.func78, by kernel_rfl, by kernel_rfl⟩ (good_cons S79 ⟨_, Try.func79, by kernel_rfl, by kernel_rfl⟩ good_nil))), mixedOk, ins_nil⟩ Try.func70 rfl E70_eq
/-- impl.EncodeMessage -/
noncomputable def i_EncodeMessage (p_b : GBook) (p_s : Bytes) : Option ((List Int) × Bool) :=
  (i_SpellMessage p_b p_s).bind fun r1 =>
  (loopE (fun (st3 : (List Int) × (List Int) × Int) => (
      bif (decide (st3.2.2 < (r1.1.length : Int))) then
        bif decide (0 ≤ st3.2.2) && decide (st3.2.2 < (st3.2.1.length : Int)) then
          (st3.2.1[(Int.toNat st3.2.2)]?).bind fun e4 =>
          (idx p_b.1 e4).bind fun e5 =>
          bif decide (List.length st3.1 + List.length e5.2.1 ≤ lim) then
            some (.inl ((st3.1 ++ e5.2.1), st3.2.1, (w64 (st3.2.2 + 1))))
          else
            none
        else
          none
      else
        some (.inr st3.1) : Option (((List Int) × (List Int) × Int) ⊕ ((List Int))))) ([], r1.1, 0)).bind fun o6 =>
  some (o6, r1.2)
noncomputable def C58 : FnSpec := { ps := [.val TGBook, .val .str], rs := [.own (.slice (.int .i64)), .val .bool], fn := fun x => i_EncodeMessage x.1 x.2 }
noncomputable def E58 : Env := { T := [(3, (.int .i64)), (36, (.slice (.int .i64))), (52, (.slice TGPhrase)), (54, TGBook), (81, TGPhrase)], G := [(70, C70)], ro := [2], loops := [(4, { keep := [2, 7, 18], live := [.own 8 [] 200008 (.int .i64) true, .own 17 [] 224 (.int .i64) true, .tv 19 (.int .i64)], outs := [(.exit 0, [.own 8 [] 200008 (.int .i64) true])] })], joins := [] }
theorem E58_eq : ∀ x, afun E58 Try.f58 C58.ps C58.rs x = C58.fn x := fun x => by kernel_rfl
theorem S58 : Sound Try.prog 58 C58 := fun_sound (E := E58) ⟨good_T (by kernel_rfl), (good_cons S70 ⟨_, Try.func70, by kernel_rfl, by kernel_rfl⟩ good_nil), mixedOk, ins_nil⟩ Try.func58 rfl E58_eq
/-- impl.LeastSignals -/
noncomputable def i_LeastSignals (p_b : GBook) (p_s : Bytes) : Option (Int × Bool) :=
  (i_EncodeMessage p_b p_s).bind fun r1 =>
  some ((r1.1.length : Int), r1.2)
noncomputable def C34 : FnSpec := { ps := [.val TGBook, .val .str], rs := [.val (.int .i64), .val .bool], fn := fun x => i_LeastSignals x.1 x.2 }
noncomputable def E34 : Env := { T := [(36, (.slice (.int .i64))), (54, TGBook)], G := [(58, C58)], ro := [2], loops := [], joins := [] }
theorem E34_eq : ∀ x, afun E34 Try.f34 C34.ps C34.rs x = C34.fn x := fun x => by kernel_rfl
theorem S34 : Sound Try.prog 34 C34 := fun_sound (E := E34) ⟨good_T (by kernel_rfl), (good_cons S58 ⟨_, Try.func58, by kernel_rfl, by kernel_rfl⟩ good_nil), mixedOk, ins_nil⟩ Try.func34 rfl E34_eq
/-- impl.PriceOfLetters -/
noncomputable def i_PriceOfLetters (p_p : GPrice) (p_b : GBook) (p_s : Bytes) (p_towers : Int) : Option (Int × Bool) :=
  (i_LeastSignals p_b p_s).bind fun r1 =>
  (bif (!r1.2) then
      some true
    else
      (i_IsPrice p_p).bind fun r2 =>
      some (!r2)).bind fun c3 =>
  (bif c3 then
      some true
    else
      (i_isSent (r1.1, p_towers, false, 0, ())).bind fun r4 =>
      some (!r4)).bind fun c5 =>
  bif c5 then
    some (0, false)
  else
    (i_priceOf p_p (r1.1, p_towers, false, 0, ())).bind fun r6 =>
    some (r6, true)
noncomputable def C32 : FnSpec := { ps := [.val TGPrice, .val TGBook, .val .str, .val (.int .i64)], rs := [.val (.int .i64), .val .bool], fn := fun x => i_PriceOfLetters x.1 x.2.1 x.2.2.1 x.2.2.2 }
noncomputable def E32 : Env := { T := [(25, TGPrice), (32, TGSent), (54, TGBook)], G := [(27, C27), (34, C34), (39, C39), (44, C44)], ro := [4, 5], loops := [], joins := [] }
theorem E32_eq : ∀ x, afun E32 Try.f32 C32.ps C32.rs x = C32.fn x := fun x => by kernel_rfl
theorem S32 : Sound Try.prog 32 C32 := fun_sound (E := E32) ⟨good_T (by kernel_rfl), (good_cons S27 ⟨_, Try.func27, by kernel_rfl, by kernel_rfl⟩ (good_cons S34 ⟨_, Try.func34, by kernel_rfl, by kernel_rfl⟩ (good_cons S39 ⟨_, Try.func39, by kernel_rfl, by kernel_rfl⟩ (good_cons S44 ⟨_, Try.func44, by kernel_rfl, by kernel_rfl⟩ good_nil)))), mixedOk, ins_nil⟩ Try.func32 rfl E32_eq
/-- spec.bkLetters -/
noncomputable def s_bkLetters (p_s : Bytes) : Option (Bool) :=
  (loopE (fun (st2 : Int) => (
      bif (decide (st2 < (p_s.length : Int))) then
        (idx p_s st2).bind fun b3 =>
        (bif (decide ((b3.toNat : Int) < 97)) then
            some true
          else
            (idx p_s st2).bind fun b4 =>
            some (decide (122 < (b4.toNat : Int)))).bind fun c5 =>
        bif c5 then
          some (.inr (.inr false))
        else
          some (.inl (w64 (st2 + 1)))
      else
        some (.inr (.inl ())) : Option ((Int) ⊕ (Unit ⊕ Bool)))) 0).bind fun o6 =>
  match o6 with
  | .inl _ =>
    some (decide ((p_s.length : Int) ≤ 12))
  | .inr y8 =>
    some y8
noncomputable def C87 : FnSpec := { ps := [.val .str], rs := [.val .bool], fn := fun x => s_bkLetters x }
noncomputable def E87 : Env := { T := [(9, .str)], G := [], ro := [], loops := [(2, { keep := [0], live := [.tv 3 (.int .i64)], outs := [(.exit 0, []), (.ret, [.tv 2 .bool])] })], joins := [] }
theorem E87_eq : ∀ x, afun E87 Try.f87 C87.ps C87.rs x = C87.fn x := fun x => by kernel_rfl
theorem S87 : Sound Try.prog 87 C87 := fun_sound (E := E87) ⟨good_T (by kernel_rfl), good_nil, mixedOk, ins_nil⟩ Try.func87 rfl E87_eq
/-- spec.bkPhraseText -/
noncomputable def s_bkPhraseText (p_s : Bytes) : Option (Bool) :=
  (s_bkLetters p_s).bind fun r1 =>
  (bif r1 then
      some (!decide (p_s = []))
    else
      some false).bind fun c2 =>
  some c2
noncomputable def C81 : FnSpec := { ps := [.val .str], rs := [.val .bool], fn := fun x => s_bkPhraseText x }
noncomputable def E81 : Env := { T := [], G := [(87, C87)], ro := [], loops := [], joins := [] }
theorem E81_eq : ∀ x, afun E81 Try.f81 C81.ps C81.rs x = C81.fn x := fun x => by kernel_rfl
theorem S81 : Sound Try.prog 81 C81 := fun_sound (E := E81) ⟨good_T (by kernel_rfl), (good_cons S87 ⟨_, Try.func87, by kernel_rfl, by kernel_rfl⟩ good_nil), mixedOk, ins_nil⟩ Try.func81 rfl E81_eq
/-- spec.l1All -/
noncomputable def s_l1All (p_l : List Int) (p_lo : Int) (p_hi : Int) : Option (Bool) :=
  (loopE (fun (st2 : Int) => (
      bif (decide (st2 < (p_l.length : Int))) then
        (idx p_l st2).bind fun e3 =>
        (s_l1In e3 p_lo p_hi).bind fun r4 =>
        bif (!r4) then
          some (.inr (.inr false))
        else
          some (.inl (w64 (st2 + 1)))
      else
        some (.inr (.inl ())) : Option ((Int) ⊕ (Unit ⊕ Bool)))) 0).bind fun o5 =>
  match o5 with
  | .inl _ =>
    some true
  | .inr y7 =>
    some y7
noncomputable def C88 : FnSpec := { ps := [.val (.slice (.int .i64)), .val (.int .i64), .val (.int .i64)], rs := [.val .bool], fn := fun x => s_l1All x.1 x.2.1 x.2.2 }
noncomputable def E88 : Env := { T := [(3, (.int .i64)), (36, (.slice (.int .i64)))], G := [(41, C41)], ro := [], loops := [(2, { keep := [1, 2, 9, 10], live := [.tv 11 (.int .i64)], outs := [(.exit 0, []), (.ret, [.tv 6 .bool])] })], joins := [] }
theorem E88_eq : ∀ x, afun E88 Try.f88 C88.ps C88.rs x = C88.fn x := fun x => by kernel_rfl
theorem S88 : Sound Try.prog 88 C88 := fun_sound (E := E88) ⟨good_T (by kernel_rfl), (good_cons S41 ⟨_, Try.func41, by kernel_rfl, by kernel_rfl⟩ good_nil), mixedOk, ins_nil⟩ Try.func88 rfl E88_eq
/-- spec.bkSignals -/
noncomputable def s_bkSignals (p_l : List Int) : Option (Bool) :=
  (s_l1In (p_l.length : Int) 1 3).bind fun r1 =>
  (bif r1 then
      (s_l1All p_l 1 60).bind fun r2 =>
      some r2
    else
      some false).bind fun c3 =>
  some c3
noncomputable def C82 : FnSpec := { ps := [.val (.slice (.int .i64))], rs := [.val .bool], fn := fun x => s_bkSignals x }
noncomputable def E82 : Env := { T := [(36, (.slice (.int .i64)))], G := [(41, C41), (88, C88)], ro := [], loops := [], joins := [] }
theorem E82_eq : ∀ x, afun E82 Try.f82 C82.ps C82.rs x = C82.fn x := fun x => by kernel_rfl
theorem S82 : Sound Try.prog 82 C82 := fun_sound (E := E82) ⟨good_T (by kernel_rfl), (good_cons S41 ⟨_, Try.func41, by kernel_rfl, by kernel_rfl⟩ (good_cons S88 ⟨_, Try.func88, by kernel_rfl, by kernel_rfl⟩ good_nil)), mixedOk, ins_nil⟩ Try.func82 rfl E82_eq
/-- spec.bkGood -/
noncomputable def s_bkGood (p_b : GBook) : Option (Bool) :=
  (loopE (fun (st2 : Int) => (
      bif (decide (st2 < (p_b.1.length : Int))) then
        (idx p_b.1 st2).bind fun e3 =>
        (s_bkPhraseText e3.1).bind fun r4 =>
        (bif (!r4) then
            some true
          else
            (s_bkSignals e3.2.1).bind fun r5 =>
            some (!r5)).bind fun c6 =>
        (bif c6 then
            some true
          else
            (bif (decide (0 < st2)) then
                (idx p_b.1 (w64 (st2 - 1))).bind fun e7 =>
                some (!Op.bytesLess e7.1 e3.1)
              else
                some false).bind fun c8 =>
            some c8).bind fun c9 =>
        (bif c9 then
            some true
          else
            (s_bkOf p_b e3.2.1).bind fun r10 =>
            some (!decide (r10 = st2))).bind fun c11 =>
        bif c11 then
          some (.inr (.inr false))
        else
          some (.inl (w64 (st2 + 1)))
      else
        some (.inr (.inl ())) : Option ((Int) ⊕ (Unit ⊕ Bool)))) 0).bind fun o12 =>
  match o12 with
  | .inl _ =>
    (s_l1In (p_b.1.length : Int) 1 40).bind fun r15 =>
    some r15
  | .inr y14 =>
    some y14
noncomputable def C74 : FnSpec := { ps := [.val TGBook], rs := [.val .bool], fn := fun x => s_bkGood x }
noncomputable def E74 : Env := { T := [(9, .str), (36, (.slice (.int .i64))), (52, (.slice TGPhrase)), (54, TGBook), (81, TGPhrase)], G := [(41, C41), (73, C73), (81, C81), (82, C82)], ro := [1], loops := [(2, { keep := [1, 6, 7], live := [.tv 8 (.int .i64)], outs := [(.exit 0, []), (.ret, [.tv 2 .bool])] })], joins := [] }
theorem E74_eq : ∀ x, afun E74 Try.f74 C74.ps C74.rs x = C74.fn x := fun x => by kernel_rfl
theorem S74 : Sound Try.prog 74 C74 := fun_sound (E := E74) ⟨good_T (by kernel_rfl), (good_cons S41 ⟨_, Try.func41, by kernel_rfl, by kernel_rfl⟩ (good_cons S73 ⟨_, Try.func73, by kernel_rfl, by kernel_rfl⟩ (good_cons S81 ⟨_, Try.func81, by kernel_rfl, by kernel_rfl⟩ (good_cons S82 ⟨_, Try.func82, by kernel_rfl, by kernel_rfl⟩ good_nil)))), mixedOk, ins_nil⟩ Try.func74 rfl E74_eq
/-- spec.spLetters -/
noncomputable def s_spLetters (p_s : Bytes) : Option (Bool) :=
  (loopE (fun (st2 : Int) => (
      bif (decide (st2 < (p_s.length : Int))) then
        (idx p_s st2).bind fun b3 =>
        (bif (decide ((b3.toNat : Int) < 97)) then
            some true
          else
            (idx p_s st2).bind fun b4 =>
            some (decide (122 < (b4.toNat : Int)))).bind fun c5 =>
        bif c5 then
          some (.inr (.inr false))
        else
          some (.inl (w64 (st2 + 1)))
      else
        some (.inr (.inl ())) : Option ((Int) ⊕ (Unit ⊕ Bool)))) 0).bind fun o6 =>
  match o6 with
  | .inl _ =>
    some (decide ((p_s.length : Int) ≤ 40))
  | .inr y8 =>
    some y8
noncomputable def C75 : FnSpec := { ps := [.val .str], rs := [.val .bool], fn := fun x => s_spLetters x }
noncomputable def E75 : Env := { T := [(9, .str)], G := [], ro := [], loops := [(2, { keep := [0], live := [.tv 3 (.int .i64)], outs := [(.exit 0, []), (.ret, [.tv 2 .bool])] })], joins := [] }
theorem E75_eq : ∀ x, afun E75 Try.f75 C75.ps C75.rs x = C75.fn x := fun x => by kernel_rfl
theorem S75 : Sound Try.prog 75 C75 := fun_sound (E := E75) ⟨good_T (by kernel_rfl), good_nil, mixedOk, ins_nil⟩ Try.func75 rfl E75_eq
/-- spec.spAsked -/
noncomputable def s_spAsked (p_b : GBook) (p_s : Bytes) : Option (Bool) :=
  (s_bkGood p_b).bind fun r1 =>
  (bif r1 then
      (s_spLetters p_s).bind fun r2 =>
      some r2
    else
      some false).bind fun c3 =>
  some c3
noncomputable def C68 : FnSpec := { ps := [.val TGBook, .val .str], rs := [.val .bool], fn := fun x => s_spAsked x.1 x.2 }
noncomputable def E68 : Env := { T := [(54, TGBook)], G := [(74, C74), (75, C75)], ro := [2], loops := [], joins := [] }
theorem E68_eq : ∀ x, afun E68 Try.f68 C68.ps C68.rs x = C68.fn x := fun x => by kernel_rfl
theorem S68 : Sound Try.prog 68 C68 := fun_sound (E := E68) ⟨good_T (by kernel_rfl), (good_cons S74 ⟨_, Try.func74, by kernel_rfl, by kernel_rfl⟩ (good_cons S75 ⟨_, Try.func75, by kernel_rfl, by kernel_rfl⟩ good_nil)), mixedOk, ins_nil⟩ Try.func68 rfl E68_eq
/-- spec.spBegins -/
noncomputable def s_spBegins (p_s : Bytes) (p_text : Bytes) : Option (Bool) :=
  (bif (decide ((p_text.length : Int) ≤ (p_s.length : Int))) then
      (sub p_s 0 (p_text.length : Int)).bind fun l1 =>
      some (decide (l1 = p_text))
    else
      some false).bind fun c2 =>
  some c2
noncomputable def C76 : FnSpec := { ps := [.val .str, .val .str], rs := [.val .bool], fn := fun x => s_spBegins x.1 x.2 }
noncomputable def E76 : Env := { T := [(9, .str)], G := [], ro := [], loops := [], joins := [] }
theorem E76_eq : ∀ x, afun E76 Try.f76 C76.ps C76.rs x = C76.fn x := fun x => by kernel_rfl
theorem S76 : Sound Try.prog 76 C76 := fun_sound (E := E76) ⟨good_T (by kernel_rfl), good_nil, mixedOk, ins_nil⟩ Try.func76 rfl E76_eq
/-- spec.spTable -/
noncomputable def s_spTable (p_b : GBook) (p_s : Bytes) : Option ((List Int)) :=
  bif decide (0 ≤ (w64 ((p_s.length : Int) + 1))) && decide ((w64 ((p_s.length : Int) + 1)) ≤ (w64 ((p_s.length : Int) + 1))) && decide ((w64 ((p_s.length : Int) + 1)) ≤ lim) then
    (loopE (fun (st2 : (List Int) × Int) => (
        bif (decide (0 ≤ st2.2)) then
          bif decide (0 ≤ st2.2) && decide (st2.2 < (st2.1.length : Int)) then
            (loopE (fun (st4 : (List Int) × Int) => (
                bif (decide (st4.2 < (p_b.1.length : Int))) then
                  (idx p_b.1 st4.2).bind fun e5 =>
                  (sub p_s st2.2 (p_s.length : Int)).bind fun l6 =>
                  (s_spBegins l6 e5.1).bind fun r7 =>
                  (bif (!r7) then
                      some true
                    else
                      bif decide (0 ≤ (w64 (st2.2 + (e5.1.length : Int)))) && decide ((w64 (st2.2 + (e5.1.length : Int))) < (st4.1.length : Int)) then
                        (st4.1[(Int.toNat (w64 (st2.2 + (e5.1.length : Int))))]?).bind fun e8 =>
                        some (decide (e8 < 0))
                      else
                        none).bind fun c9 =>
                  bif c9 then
                    some (.inl (st4.1, (w64 (st4.2 + 1))))
                  else
                    bif decide (0 ≤ (w64 (st2.2 + (e5.1.length : Int)))) && decide ((w64 (st2.2 + (e5.1.length : Int))) < (st4.1.length : Int)) then
                      (st4.1[(Int.toNat (w64 (st2.2 + (e5.1.length : Int))))]?).bind fun e10 =>
                      bif decide (0 ≤ st2.2) && decide (st2.2 < (st4.1.length : Int)) then
                        (st4.1[(Int.toNat st2.2)]?).bind fun e11 =>
                        (bif (decide (e11 < 0)) then
                            some true
                          else
                            bif decide (0 ≤ st2.2) && decide (st2.2 < (st4.1.length : Int)) then
                              (st4.1[(Int.toNat st2.2)]?).bind fun e12 =>
                              some (decide ((w64 ((e5.2.1.length : Int) + e10)) < e12))
                            else
                              none).bind fun c13 =>
                        bif c13 then
                          bif decide (0 ≤ st2.2) && decide (st2.2 < (st4.1.length : Int)) then
                            some (.inl ((st4.1.set (Int.toNat st2.2) (w64 ((e5.2.1.length : Int) + e10))), (w64 (st4.2 + 1))))
                          else
                            none
                        else
                          some (.inl (st4.1, (w64 (st4.2 + 1))))
                      else
                        none
                    else
                      none
                else
                  some (.inr st4.1) : Option (((List Int) × Int) ⊕ ((List Int))))) ((st2.1.set (Int.toNat st2.2) (-1)), 0)).bind fun o14 =>
            some (.inl (o14, (w64 (st2.2 - 1))))
          else
            none
        else
          some (.inr st2.1) : Option (((List Int) × Int) ⊕ ((List Int))))) ((List.replicate (Int.toNat (w64 ((p_s.length : Int) + 1))) (0 : Int)), (w64 ((p_s.length : Int) - 1)))).bind fun o15 =>
    some o15
  else
    none
noncomputable def C69 : FnSpec := { ps := [.val TGBook, .val .str], rs := [.own (.slice (.int .i64))], fn := fun x => s_spTable x.1 x.2 }
noncomputable def E69 : Env := { T := [(3, (.int .i64)), (9, .str), (36, (.slice (.int .i64))), (52, (.slice TGPhrase)), (54, TGBook), (81, TGPhrase)], G := [(76, C76)], ro := [2], loops := [(3, { keep := [1, 2], live := [.own 5 [] 208 (.int .i64) true, .tv 6 (.int .i64)], outs := [(.exit 0, [.own 5 [] 208 (.int .i64) true])] }), (7, { keep := [1, 2, 6, 25, 26], live := [.own 5 [] 208 (.int .i64) true, .tv 27 (.int .i64)], outs := [(.exit 2, [.own 5 [] 208 (.int .i64) true])] })], joins := [] }
theorem E69_eq : ∀ x, afun E69 Try.f69 C69.ps C69.rs x = C69.fn x := fun x => by kernel_rfl
theorem S69 : Sound Try.prog 69 C69 := fun_sound (E := E69) ⟨good_T (by kernel_rfl), (good_cons S76 ⟨_, Try.func76, by kernel_rfl, by kernel_rfl⟩ good_nil), mixedOk, ins_nil⟩ Try.func69 rfl E69_eq
/-- spec.LeastSignals -/
noncomputable def s_LeastSignals (p_b : GBook) (p_s : Bytes) : Option (Int × Bool) :=
  (s_spAsked p_b p_s).bind fun r1 =>
  (bif (!r1) then
      some true
    else
      (s_spTable p_b p_s).bind fun r2 =>
      bif decide (0 ≤ 0) && decide (0 < (r2.length : Int)) then
        (r2[(Int.toNat 0)]?).bind fun e3 =>
        some (decide (e3 < 0))
      else
        none).bind fun c4 =>
  bif c4 then
    some (0, false)
  else
    (s_spTable p_b p_s).bind fun r5 =>
    bif decide (0 ≤ 0) && decide (0 < (r5.length : Int)) then
      (r5[(Int.toNat 0)]?).bind fun e6 =>
      some (e6, true)
    else
      none
noncomputable def C57 : FnSpec := { ps := [.val TGBook, .val .str], rs := [.val (.int .i64), .val .bool], fn := fun x => s_LeastSignals x.1 x.2 }
noncomputable def E57 : Env := { T := [(3, (.int .i64)), (36, (.slice (.int .i64))), (54, TGBook)], G := [(68, C68), (69, C69)], ro := [2], loops := [], joins := [] }
theorem E57_eq : ∀ x, afun E57 Try.f57 C57.ps C57.rs x = C57.fn x := fun x => by kernel_rfl
theorem S57 : Sound Try.prog 57 C57 := fun_sound (E := E57) ⟨good_T (by kernel_rfl), (good_cons S68 ⟨_, Try.func68, by kernel_rfl, by kernel_rfl⟩ (good_cons S69 ⟨_, Try.func69, by kernel_rfl, by kernel_rfl⟩ good_nil)), mixedOk, ins_nil⟩ Try.func57 rfl E57_eq
/-- spec.PriceOfLetters -/
noncomputable def s_PriceOfLetters (p_p : GPrice) (p_b : GBook) (p_s : Bytes) (p_towers : Int) : Option (Int × Bool) :=
  (s_LeastSignals p_b p_s).bind fun r1 =>
  (bif (!r1.2) then
      some true
    else
      (s_pcPrice p_p).bind fun r2 =>
      some (!r2)).bind fun c3 =>
  (bif c3 then
      some true
    else
      (s_pcSent (r1.1, p_towers, false, 0, ())).bind fun r4 =>
      some (!r4)).bind fun c5 =>
  bif c5 then
    some (0, false)
  else
    (s_pcCost p_p (r1.1, p_towers, false, 0, ())).bind fun r6 =>
    some (r6, true)
noncomputable def C33 : FnSpec := { ps := [.val TGPrice, .val TGBook, .val .str, .val (.int .i64)], rs := [.val (.int .i64), .val .bool], fn := fun x => s_PriceOfLetters x.1 x.2.1 x.2.2.1 x.2.2.2 }
noncomputable def E33 : Env := { T := [(25, TGPrice), (32, TGSent), (54, TGBook)], G := [(40, C40), (43, C43), (50, C50), (57, C57)], ro := [4, 5], loops := [], joins := [] }
theorem E33_eq : ∀ x, afun E33 Try.f33 C33.ps C33.rs x = C33.fn x := fun x => by kernel_rfl
theorem S33 : Sound Try.prog 33 C33 := fun_sound (E := E33) ⟨good_T (by kernel_rfl), (good_cons S40 ⟨_, Try.func40, by kernel_rfl, by kernel_rfl⟩ (good_cons S43 ⟨_, Try.func43, by kernel_rfl, by kernel_rfl⟩ (good_cons S50 ⟨_, Try.func50, by kernel_rfl, by kernel_rfl⟩ (good_cons S57 ⟨_, Try.func57, by kernel_rfl, by kernel_rfl⟩ good_nil)))), mixedOk, ins_nil⟩ Try.func33 rfl E33_eq
/-- laws.FnPrices -/
noncomputable def l_FnPrices (p_code : List Int) (p_more : List Int) : Option (Bool) :=
  (l_big p_code p_more).bind fun r1 =>
  bif r1 then
    some true
  else
    (s_DrawBillOf p_code).bind fun r2 =>
    (i_BillOf r2.1 r2.2).bind fun r3 =>
    (s_BillOf r2.1 r2.2).bind fun r4 =>
    (i_DearestOf r2.1 r2.2).bind fun r5 =>
    (s_DearestOf r2.1 r2.2).bind fun r6 =>
    (bif (r3.2.2 != r4.2.2) then
        some true
      else
        some (!decide (r3.1 = r4.1))).bind fun c7 =>
    (bif c7 then
        some true
      else
        some (!decide (r3.2.1 = r4.2.1))).bind fun c8 =>
    (bif c8 then
        some true
      else
        some (r5.2 != r6.2)).bind fun c9 =>
    (bif c9 then
        some true
      else
        some (!decide (r5.1 = r6.1))).bind fun c10 =>
    (bif c10 then
        some true
      else
        (bif r3.2.2 then
            some (decide (0 < (r2.2.length : Int)))
          else
            some false).bind fun c11 =>
        some (r5.2 != c11)).bind fun c12 =>
    bif c12 then
      some false
    else
      ((bif r3.2.2 then
            (loopE (fun (st14 : Int × Int × Int × Int × (List GSent) × Int × Int × Int) => (
                bif (decide (st14.2.2.2.2.2.2.2 < (r2.2.length : Int))) then
                  bif decide (0 ≤ st14.2.2.2.2.2.2.2) && decide (st14.2.2.2.2.2.2.2 < (st14.2.2.2.2.1.length : Int)) then
                    (st14.2.2.2.2.1[(Int.toNat st14.2.2.2.2.2.2.2)]?).bind fun e15 =>
                    (i_PriceOf (st14.1, st14.2.1, st14.2.2.1, st14.2.2.2.1, ()) e15).bind fun r16 =>
                    (i_RefundOf (st14.1, st14.2.1, st14.2.2.1, st14.2.2.2.1, ()) e15).bind fun r17 =>
                    bif decide (0 ≤ r6.1) && decide (r6.1 < (st14.2.2.2.2.1.length : Int)) then
                      (st14.2.2.2.2.1[(Int.toNat r6.1)]?).bind fun e18 =>
                      (i_PriceOf (st14.1, st14.2.1, st14.2.2.1, st14.2.2.2.1, ()) e18).bind fun r19 =>
                      (bif (!r16.2) then
                          some true
                        else
                          some (!r17.2)).bind fun c20 =>
                      (bif c20 then
                          some true
                        else
                          some (!r19.2)).bind fun c21 =>
                      (bif c21 then
                          some true
                        else
                          some (decide (r17.1 < 0))).bind fun c22 =>
                      (bif c22 then
                          some true
                        else
                          some (decide (r16.1 < r17.1))).bind fun c23 =>
                      (bif c23 then
                          some true
                        else
                          (bif (decide (e15.2.2.2.1 < 600)) then
                              some (!decide (r17.1 = 0))
                            else
                              some false).bind fun c24 =>
                          some c24).bind fun c25 =>
                      (bif c25 then
                          some true
                        else
                          some (decide (r19.1 < r16.1))).bind fun c26 =>
                      (bif c26 then
                          some true
                        else
                          (bif (decide (r16.1 = r19.1)) then
                              some (decide (st14.2.2.2.2.2.2.2 < r6.1))
                            else
                              some false).bind fun c27 =>
                          some c27).bind fun c28 =>
                      bif c28 then
                        some (.inr (.inr false))
                      else
                        some (.inl (st14.1, st14.2.1, st14.2.2.1, st14.2.2.2.1, st14.2.2.2.2.1, (w64 (st14.2.2.2.2.2.1 + r16.1)), (w64 (st14.2.2.2.2.2.2.1 + r17.1)), (w64 (st14.2.2.2.2.2.2.2 + 1))))
                    else
                      none
                  else
                    none
                else
                  some (.inr (.inl (st14.1, st14.2.1, st14.2.2.1, st14.2.2.2.1, st14.2.2.2.2.1, st14.2.2.2.2.2.1, st14.2.2.2.2.2.2.1))) : Option ((Int × Int × Int × Int × (List GSent) × Int × Int × Int) ⊕ ((Int × Int × Int × Int × (List GSent) × Int × Int) ⊕ Bool)))) (r2.1.1, r2.1.2.1, r2.1.2.2.1, r2.1.2.2.2.1, r2.2, 0, 0, 0)).bind fun o29 =>
            match o29 with
            | .inl x30 =>
              (bif (!decide (x30.2.2.2.2.2.1 = r4.1)) then
                  some true
                else
                  some (!decide (x30.2.2.2.2.2.2 = r4.2.1))).bind fun c32 =>
              (bif c32 then
                  some true
                else
                  (i_AreSent x30.2.2.2.2.1).bind fun r33 =>
                  some (!r33)).bind fun c34 =>
              (bif c34 then
                  some true
                else
                  (i_IsPrice (x30.1, x30.2.1, x30.2.2.1, x30.2.2.2.1, ())).bind fun r35 =>
                  some (!r35)).bind fun c36 =>
              bif c36 then
                some (.inr false)
              else
                some (.inl ())
            | .inr y31 =>
              some (.inr y31)
          else
            some (.inl ()) : Option (Unit ⊕ Bool))).bind fun j37 =>
      match j37 with
      | .inl _ =>
        (s_DrawPriceOf p_more).bind fun r40 =>
        (i_PriceOf r40.1 r40.2).bind fun r41 =>
        (s_PriceOf r40.1 r40.2).bind fun r42 =>
        (i_RefundOf r40.1 r40.2).bind fun r43 =>
        (s_RefundOf r40.1 r40.2).bind fun r44 =>
        (bif (r41.2 != r42.2) then
            some true
          else
            some (!decide (r41.1 = r42.1))).bind fun c45 =>
        (bif c45 then
            some true
          else
            some (r43.2 != r44.2)).bind fun c46 =>
        (bif c46 then
            some true
          else
            some (!decide (r43.1 = r44.1))).bind fun c47 =>
        (bif c47 then
            some true
          else
            some (r43.2 != r41.2)).bind fun c48 =>
        bif c48 then
          some false
        else
          (((bif r41.2 then
                  some (decide (r40.2.1 < 72))
                else
                  some false).bind fun c49 =>
              bif c49 then
                (i_PriceOf r40.1 ((w64 (r40.2.1 + 1)), r40.2.2)).bind fun r50 =>
                (bif (!r50.2) then
                    some true
                  else
                    some (decide (r50.1 < r42.1))).bind fun c51 =>
                bif c51 then
                  some (.inr false)
                else
                  some (.inl ())
              else
                some (.inl ()) : Option (Unit ⊕ Bool))).bind fun j52 =>
          match j52 with
          | .inl _ =>
            (s_DrawPriceOfLetters p_more).bind fun r55 =>
            (i_PriceOfLetters r55.1 r55.2.1 r55.2.2.1 r55.2.2.2).bind fun r56 =>
            (s_PriceOfLetters r55.1 r55.2.1 r55.2.2.1 r55.2.2.2).bind fun r57 =>
            (bif (r56.2 != r57.2) then
                some true
              else
                some (!decide (r56.1 = r57.1))).bind fun c58 =>
            bif c58 then
              some false
            else
              bif r56.2 then
                (i_LeastSignals r55.2.1 r55.2.2.1).bind fun r59 =>
                (i_PriceOf r55.1 (r59.1, r55.2.2.2, false, 0, ())).bind fun r60 =>
                (bif r59.2 then
                    some r60.2
                  else
                    some false).bind fun c61 =>
                (bif c61 then
                    some (decide (r60.1 = r57.1))
                  else
                    some false).bind fun c62 =>
                some c62
              else
                some true
          | .inr y54 =>
            some y54
      | .inr y39 =>
        some y39
noncomputable def C4 : FnSpec := { ps := [.val (.slice (.int .u8)), .val (.slice (.int .u8))], rs := [.val .bool], fn := fun x => l_FnPrices x.1 x.2 }
noncomputable def E4 : Env := { T := [(3, (.int .i64)), (4, .bool), (25, TGPrice), (32, TGSent), (33, (.slice TGSent)), (54, TGBook)], G := [(5, C5), (9, C9), (20, C20), (21, C21), (22, C22), (23, C23), (24, C24), (25, C25), (26, C26), (27, C27), (28, C28), (29, C29), (30, C30), (31, C31), (32, C32), (33, C33), (34, C34)], ro := [], loops := [(13, { keep := [1, 10, 11, 15, 120, 201, 202, 203, 206, 207, 208, 211, 212, 213, 248, 249, 250, 253, 254, 255, 258, 259, 260, 263, 264, 265, 269, 270, 271, 286, 287, 288, 317, 318, 319, 338, 341, 342, 343], live := [.bx 5 80 [.pv (.int .i64), .pv (.int .i64), .pv (.int .i64), .pv (.int .i64)], .own 6 [119] 896 TGSent true, .tv 17 (.int .i64), .tv 18 (.int .i64), .tv 121 (.int .i64)], outs := [(.exit 0, [.bx 5 80 [.pv (.int .i64), .pv (.int .i64), .pv (.int .i64), .pv (.int .i64)], .own 6 [] 896 TGSent true, .tv 17 (.int .i64), .tv 18 (.int .i64)]), (.ret, [.tv 4 .bool])] })], joins := [(25, { keep := [1], live := [], outs := [(.normal, []), (.ret, [.tv 4 .bool])] }), (37, { keep := [1], live := [], outs := [(.normal, []), (.ret, [.tv 4 .bool])] })] }
theorem E4_eq : ∀ x, afun E4 Try.f4 C4.ps C4.rs x = C4.fn x := fun x => by kernel_rfl
theorem S4 : Sound Try.prog 4 C4 := fun_sound (E := E4) ⟨good_T (by kernel_rfl), (good_cons S5 ⟨_, Try.func5, by kernel_rfl, by kernel_rfl⟩ (good_cons S9 ⟨_, Try.func9, by kernel_rfl, by kernel_rfl⟩ (good_cons S20 ⟨_, Try.func20, by kernel_rfl, by kernel_rfl⟩ (good_cons S21 ⟨_, Try.func21, by kernel_rfl, by kernel_rfl⟩ (good_cons S22 ⟨_, Try.func22, by kernel_rfl, by kernel_rfl⟩ (good_cons S23 ⟨_, Try.func23, by kernel_rfl, by kernel_rfl⟩ (good_cons S24 ⟨_, Try.func24, by kernel_rfl, by kernel_rfl⟩ (good_cons S25 ⟨_, Try.func25, by kernel_rfl, by kernel_rfl⟩ (good_cons S26 ⟨_, Try.func26, by kernel_rfl, by kernel_rfl⟩ (good_cons S27 ⟨_, Try.func27, by kernel_rfl, by kernel_rfl⟩ (good_cons S28 ⟨_, Try.func28, by kernel_rfl, by kernel_rfl⟩ (good_cons S29 ⟨_, Try.func29, by kernel_rfl, by kernel_rfl⟩ (good_cons S30 ⟨_, Try.func30, by kernel_rfl, by kernel_rfl⟩ (good_cons S31 ⟨_, Try.func31, by kernel_rfl, by kernel_rfl⟩ (good_cons S32 ⟨_, Try.func32, by kernel_rfl, by kernel_rfl⟩ (good_cons S33 ⟨_, Try.func33, by kernel_rfl, by kernel_rfl⟩ (good_cons S34 ⟨_, Try.func34, by kernel_rfl, by kernel_rfl⟩ good_nil))))))))))))))))), mixedOk, ins_nil⟩ Try.func4 rfl E4_eq
/-- (*spec.l1Cur).cents -/
noncomputable def s_l1Cur_cents (p_c : Gl1Cur) : Option (Gl1Cur × Int) :=
  (s_l1Cur_pick p_c 5000).bind fun r1 =>
  (s_l1Cur_among r1.1 [1000001, (-1)]).bind fun r2 =>
  (s_l1Cur_among r2.1 [0, 100, 160, 500, r1.2, 1000000, r2.2]).bind fun r3 =>
  some (r3.1, r3.2)
noncomputable def C37 : FnSpec := { ps := [.mbox TGl1Cur], rs := [.val (.int .i64)], fn := fun x => s_l1Cur_cents x }
noncomputable def E37 : Env := { T := [(36, (.slice (.int .i64)))], G := [(36, C36), (59, C59)], ro := [], loops := [], joins := [] }
theorem E37_eq : ∀ x, afun E37 Try.f37 C37.ps C37.rs x = C37.fn x := fun x => by kernel_rfl
theorem S37 : Sound Try.prog 37 C37 := fun_sound_box (E := E37) ⟨good_T (by kernel_rfl), (good_cons S36 ⟨_, Try.func36, by kernel_rfl, by kernel_rfl⟩ (good_cons S59 ⟨_, Try.func59, by kernel_rfl, by kernel_rfl⟩ good_nil)), mixedOk, ins_nil⟩ Try.func37 rfl E37_eq
/-- spec.DrawSignalsFor -/
noncomputable def s_DrawSignalsFor (p_code : List Int) : Option (GPrice × Int × Int) :=
  (s_l1Cur_price (p_code, 0, 0, ())).bind fun r1 =>
  (s_l1Cur_among r1.1 [0, 17]).bind fun r2 =>
  (s_l1Cur_among r2.1 [1, 3, 5, 16, r2.2]).bind fun r3 =>
  (s_l1Cur_cents r3.1).bind fun r4 =>
  some (r1.2, r3.2, r4.2)
noncomputable def C6 : FnSpec := { ps := [.val (.slice (.int .u8))], rs := [.val TGPrice, .val (.int .i64), .val (.int .i64)], fn := fun x => s_DrawSignalsFor x }
noncomputable def E6 : Env := { T := [(25, TGPrice), (36, (.slice (.int .i64))), (62, TGl1Cur)], G := [(35, C35), (36, C36), (37, C37)], ro := [], loops := [], joins := [] }
theorem E6_eq : ∀ x, afun E6 Try.f6 C6.ps C6.rs x = C6.fn x := fun x => by kernel_rfl
theorem S6 : Sound Try.prog 6 C6 := fun_sound (E := E6) ⟨good_T (by kernel_rfl), (good_cons S35 ⟨_, Try.func35, by kernel_rfl, by kernel_rfl⟩ (good_cons S36 ⟨_, Try.func36, by kernel_rfl, by kernel_rfl⟩ (good_cons S37 ⟨_, Try.func37, by kernel_rfl, by kernel_rfl⟩ good_nil))), mixedOk, ins_nil⟩ Try.func6 rfl E6_eq
/-- impl.SignalsFor -/
noncomputable def i_SignalsFor (p_p : GPrice) (p_towers : Int) (p_cents : Int) : Option (Int × Bool) :=
  (i_IsPrice p_p).bind fun r1 =>
  (bif (!r1) then
      some true
    else
      (i_within p_towers 1 16).bind fun r2 =>
      some (!r2)).bind fun c3 =>
  (bif c3 then
      some true
    else
      (i_within p_cents 0 1000000).bind fun r4 =>
      some (!r4)).bind fun c5 =>
  bif c5 then
    some (0, false)
  else
    (loopE (fun (st7 : Int) => (
        bif (decide (0 < st7)) then
          (i_priceOf p_p (st7, p_towers, false, 0, ())).bind fun r8 =>
          bif (decide (r8 ≤ p_cents)) then
            some (.inr (.inr (st7, true)))
          else
            some (.inl (w64 (st7 - 1)))
        else
          some (.inr (.inl ())) : Option ((Int) ⊕ (Unit ⊕ (Int × Bool))))) 72).bind fun o9 =>
    match o9 with
    | .inl _ =>
      some (0, false)
    | .inr y11 =>
      some (y11.1, y11.2)
noncomputable def C7 : FnSpec := { ps := [.val TGPrice, .val (.int .i64), .val (.int .i64)], rs := [.val (.int .i64), .val .bool], fn := fun x => i_SignalsFor x.1 x.2.1 x.2.2 }
noncomputable def E7 : Env := { T := [(25, TGPrice), (32, TGSent)], G := [(27, C27), (38, C38), (39, C39)], ro := [3], loops := [(4, { keep := [1, 2, 3], live := [.tv 8 (.int .i64)], outs := [(.exit 0, []), (.ret, [.tv 6 (.int .i64), .tv 7 .bool])] })], joins := [] }
theorem E7_eq : ∀ x, afun E7 Try.f7 C7.ps C7.rs x = C7.fn x := fun x => by kernel_rfl
theorem S7 : Sound Try.prog 7 C7 := fun_sound (E := E7) ⟨good_T (by kernel_rfl), (good_cons S27 ⟨_, Try.func27, by kernel_rfl, by kernel_rfl⟩ (good_cons S38 ⟨_, Try.func38, by kernel_rfl, by kernel_rfl⟩ (good_cons S39 ⟨_, Try.func39, by kernel_rfl, by kernel_rfl⟩ good_nil))), mixedOk, ins_nil⟩ Try.func7 rfl E7_eq
/-- spec.pcCents -/
noncomputable def s_pcCents (p_cents : Int) : Option (Bool) :=
  (s_l1In p_cents 0 1000000).bind fun r1 =>
  some r1
noncomputable def C42 : FnSpec := { ps := [.val (.int .i64)], rs := [.val .bool], fn := fun x => s_pcCents x }
noncomputable def E42 : Env := { T := [], G := [(41, C41)], ro := [], loops := [], joins := [] }
theorem E42_eq : ∀ x, afun E42 Try.f42 C42.ps C42.rs x = C42.fn x := fun x => by kernel_rfl
theorem S42 : Sound Try.prog 42 C42 := fun_sound (E := E42) ⟨good_T (by kernel_rfl), (good_cons S41 ⟨_, Try.func41, by kernel_rfl, by kernel_rfl⟩ good_nil), mixedOk, ins_nil⟩ Try.func42 rfl E42_eq
/-- spec.SignalsFor -/
noncomputable def s_SignalsFor (p_p : GPrice) (p_towers : Int) (p_cents : Int) : Option (Int × Bool) :=
  (s_pcPrice p_p).bind fun r1 =>
  (bif (!r1) then
      some true
    else
      (s_l1In p_towers 1 16).bind fun r2 =>
      some (!r2)).bind fun c3 =>
  (bif c3 then
      some true
    else
      (s_pcCents p_cents).bind fun r4 =>
      some (!r4)).bind fun c5 =>
  bif c5 then
    some (0, false)
  else
    (loopE (fun (st7 : Int × Int) => (
        bif (decide (st7.2 ≤ 72)) then
          (s_pcCost p_p (st7.2, p_towers, false, 0, ())).bind fun r8 =>
          bif (decide (r8 ≤ p_cents)) then
            some (.inl (st7.2, (w64 (st7.2 + 1))))
          else
            some (.inl (st7.1, (w64 (st7.2 + 1))))
        else
          some (.inr st7.1) : Option ((Int × Int) ⊕ (Int)))) (0, 1)).bind fun o9 =>
    some (o9, (decide (0 < o9)))
noncomputable def C8 : FnSpec := { ps := [.val TGPrice, .val (.int .i64), .val (.int .i64)], rs := [.val (.int .i64), .val .bool], fn := fun x => s_SignalsFor x.1 x.2.1 x.2.2 }
noncomputable def E8 : Env := { T := [(25, TGPrice), (32, TGSent)], G := [(40, C40), (41, C41), (42, C42), (43, C43)], ro := [3], loops := [(5, { keep := [1, 2, 3], live := [.tv 8 (.int .i64), .tv 9 (.int .i64)], outs := [(.exit 0, [.tv 8 (.int .i64)])] })], joins := [] }
theorem E8_eq : ∀ x, afun E8 Try.f8 C8.ps C8.rs x = C8.fn x := fun x => by kernel_rfl
theorem S8 : Sound Try.prog 8 C8 := fun_sound (E := E8) ⟨good_T (by kernel_rfl), (good_cons S40 ⟨_, Try.func40, by kernel_rfl, by kernel_rfl⟩ (good_cons S41 ⟨_, Try.func41, by kernel_rfl, by kernel_rfl⟩ (good_cons S42 ⟨_, Try.func42, by kernel_rfl, by kernel_rfl⟩ (good_cons S43 ⟨_, Try.func43, by kernel_rfl, by kernel_rfl⟩ good_nil)))), mixedOk, ins_nil⟩ Try.func8 rfl E8_eq
/-- spec.DrawFarthestFor -/
noncomputable def s_DrawFarthestFor (p_code : List Int) : Option (GPrice × Int × Int) :=
  (s_l1Cur_price (p_code, 0, 0, ())).bind fun r1 =>
  (s_l1Cur_among r1.1 [0, 73]).bind fun r2 =>
  (s_l1Cur_among r2.1 [1, 5, 20, 72, r2.2]).bind fun r3 =>
  (s_l1Cur_cents r3.1).bind fun r4 =>
  some (r1.2, r3.2, r4.2)
noncomputable def C10 : FnSpec := { ps := [.val (.slice (.int .u8))], rs := [.val TGPrice, .val (.int .i64), .val (.int .i64)], fn := fun x => s_DrawFarthestFor x }
noncomputable def E10 : Env := { T := [(25, TGPrice), (36, (.slice (.int .i64))), (62, TGl1Cur)], G := [(35, C35), (36, C36), (37, C37)], ro := [], loops := [], joins := [] }
theorem E10_eq : ∀ x, afun E10 Try.f10 C10.ps C10.rs x = C10.fn x := fun x => by kernel_rfl
theorem S10 : Sound Try.prog 10 C10 := fun_sound (E := E10) ⟨good_T (by kernel_rfl), (good_cons S35 ⟨_, Try.func35, by kernel_rfl, by kernel_rfl⟩ (good_cons S36 ⟨_, Try.func36, by kernel_rfl, by kernel_rfl⟩ (good_cons S37 ⟨_, Try.func37, by kernel_rfl, by kernel_rfl⟩ good_nil))), mixedOk, ins_nil⟩ Try.func10 rfl E10_eq
/-- impl.FarthestFor -/
noncomputable def i_FarthestFor (p_p : GPrice) (p_signals : Int) (p_cents : Int) : Option (Int × Bool) :=
  (i_IsPrice p_p).bind fun r1 =>
  (bif (!r1) then
      some true
    else
      (i_within p_signals 1 72).bind fun r2 =>
      some (!r2)).bind fun c3 =>
  (bif c3 then
      some true
    else
      (i_within p_cents 0 1000000).bind fun r4 =>
      some (!r4)).bind fun c5 =>
  bif c5 then
    some (0, false)
  else
    (loopE (fun (st7 : Int) => (
        bif (decide (0 < st7)) then
          (i_priceOf p_p (p_signals, st7, false, 0, ())).bind fun r8 =>
          bif (decide (r8 ≤ p_cents)) then
            some (.inr (.inr (st7, true)))
          else
            some (.inl (w64 (st7 - 1)))
        else
          some (.inr (.inl ())) : Option ((Int) ⊕ (Unit ⊕ (Int × Bool))))) 16).bind fun o9 =>
    match o9 with
    | .inl _ =>
      some (0, false)
    | .inr y11 =>
      some (y11.1, y11.2)
noncomputable def C11 : FnSpec := { ps := [.val TGPrice, .val (.int .i64), .val (.int .i64)], rs := [.val (.int .i64), .val .bool], fn := fun x => i_FarthestFor x.1 x.2.1 x.2.2 }
noncomputable def E11 : Env := { T := [(25, TGPrice), (32, TGSent)], G := [(27, C27), (38, C38), (39, C39)], ro := [3], loops := [(4, { keep := [1, 2, 3], live := [.tv 8 (.int .i64)], outs := [(.exit 0, []), (.ret, [.tv 6 (.int .i64), .tv 7 .bool])] })], joins := [] }
theorem E11_eq : ∀ x, afun E11 Try.f11 C11.ps C11.rs x = C11.fn x := fun x => by kernel_rfl
theorem S11 : Sound Try.prog 11 C11 := fun_sound (E := E11) ⟨good_T (by kernel_rfl), (good_cons S27 ⟨_, Try.func27, by kernel_rfl, by kernel_rfl⟩ (good_cons S38 ⟨_, Try.func38, by kernel_rfl, by kernel_rfl⟩ (good_cons S39 ⟨_, Try.func39, by kernel_rfl, by kernel_rfl⟩ good_nil))), mixedOk, ins_nil⟩ Try.func11 rfl E11_eq
/-- spec.FarthestFor -/
noncomputable def s_FarthestFor (p_p : GPrice) (p_signals : Int) (p_cents : Int) : Option (Int × Bool) :=
  (s_pcPrice p_p).bind fun r1 =>
  (bif (!r1) then
      some true
    else
      (s_l1In p_signals 1 72).bind fun r2 =>
      some (!r2)).bind fun c3 =>
  (bif c3 then
      some true
    else
      (s_pcCents p_cents).bind fun r4 =>
      some (!r4)).bind fun c5 =>
  bif c5 then
    some (0, false)
  else
    (loopE (fun (st7 : Int × Int) => (
        bif (decide (st7.2 ≤ 16)) then
          (s_pcCost p_p (p_signals, st7.2, false, 0, ())).bind fun r8 =>
          bif (decide (r8 ≤ p_cents)) then
            some (.inl (st7.2, (w64 (st7.2 + 1))))
          else
            some (.inl (st7.1, (w64 (st7.2 + 1))))
        else
          some (.inr st7.1) : Option ((Int × Int) ⊕ (Int)))) (0, 1)).bind fun o9 =>
    some (o9, (decide (0 < o9)))
noncomputable def C12 : FnSpec := { ps := [.val TGPrice, .val (.int .i64), .val (.int .i64)], rs := [.val (.int .i64), .val .bool], fn := fun x => s_FarthestFor x.1 x.2.1 x.2.2 }
noncomputable def E12 : Env := { T := [(25, TGPrice), (32, TGSent)], G := [(40, C40), (41, C41), (42, C42), (43, C43)], ro := [3], loops := [(5, { keep := [1, 2, 3], live := [.tv 8 (.int .i64), .tv 9 (.int .i64)], outs := [(.exit 0, [.tv 8 (.int .i64)])] })], joins := [] }
theorem E12_eq : ∀ x, afun E12 Try.f12 C12.ps C12.rs x = C12.fn x := fun x => by kernel_rfl
theorem S12 : Sound Try.prog 12 C12 := fun_sound (E := E12) ⟨good_T (by kernel_rfl), (good_cons S40 ⟨_, Try.func40, by kernel_rfl, by kernel_rfl⟩ (good_cons S41 ⟨_, Try.func41, by kernel_rfl, by kernel_rfl⟩ (good_cons S42 ⟨_, Try.func42, by kernel_rfl, by kernel_rfl⟩ (good_cons S43 ⟨_, Try.func43, by kernel_rfl, by kernel_rfl⟩ good_nil)))), mixedOk, ins_nil⟩ Try.func12 rfl E12_eq
/-- spec.DrawComparePrices -/
noncomputable def s_DrawComparePrices (p_code : List Int) : Option (GPrice × GPrice × (List GSent)) :=
  (s_l1Cur_price (p_code, 0, 0, ())).bind fun r1 =>
  (s_l1Cur_price r1.1).bind fun r2 =>
  (s_l1Cur_sentList r2.1).bind fun r3 =>
  some (r1.2, r2.2, r3.2)
noncomputable def C13 : FnSpec := { ps := [.val (.slice (.int .u8))], rs := [.val TGPrice, .val TGPrice, .own (.slice TGSent)], fn := fun x => s_DrawComparePrices x }
noncomputable def E13 : Env := { T := [(25, TGPrice), (62, TGl1Cur)], G := [(35, C35), (45, C45)], ro := [], loops := [], joins := [] }
theorem E13_eq : ∀ x, afun E13 Try.f13 C13.ps C13.rs x = C13.fn x := fun x => by kernel_rfl
theorem S13 : Sound Try.prog 13 C13 := fun_sound (E := E13) ⟨good_T (by kernel_rfl), (good_cons S35 ⟨_, Try.func35, by kernel_rfl, by kernel_rfl⟩ (good_cons S45 ⟨_, Try.func45, by kernel_rfl, by kernel_rfl⟩ good_nil)), mixedOk, ins_nil⟩ Try.func13 rfl E13_eq
/-- cmp.isNaN[int] -/
noncomputable def cmp_isNaN_int (p_x : Int) : Option (Bool) :=
  some (!decide (p_x = p_x))
noncomputable def C61 : FnSpec := { ps := [.val (.int .i64)], rs := [.val .bool], fn := fun x => cmp_isNaN_int x }
noncomputable def E61 : Env := { T := [], G := [], ro := [], loops := [], joins := [] }
theorem E61_eq : ∀ x, afun E61 Try.f61 C61.ps C61.rs x = C61.fn x := fun x => by kernel_rfl
theorem S61 : Sound Try.prog 61 C61 := fun_sound (E := E61) ⟨good_T (by kernel_rfl), good_nil, mixedOk, ins_nil⟩ Try.func61 rfl E61_eq
/-- cmp.Compare[int] -/
noncomputable def cmp_Compare_int (p_x : Int) (p_y : Int) : Option (Int) :=
  (cmp_isNaN_int p_x).bind fun r1 =>
  (cmp_isNaN_int p_y).bind fun r2 =>
  bif r1 then
    bif r2 then
      some 0
    else
      some (-1)
  else
    bif r2 then
      some 1
    else
      bif (decide (p_x < p_y)) then
        some (-1)
      else
        bif (decide (p_y < p_x)) then
          some 1
        else
          some 0
noncomputable def C46 : FnSpec := { ps := [.val (.int .i64), .val (.int .i64)], rs := [.val (.int .i64)], fn := fun x => cmp_Compare_int x.1 x.2 }
noncomputable def E46 : Env := { T := [], G := [(61, C61)], ro := [], loops := [], joins := [] }
theorem E46_eq : ∀ x, afun E46 Try.f46 C46.ps C46.rs x = C46.fn x := fun x => by kernel_rfl
theorem S46 : Sound Try.prog 46 C46 := fun_sound (E := E46) ⟨good_T (by kernel_rfl), (good_cons S61 ⟨_, Try.func61, by kernel_rfl, by kernel_rfl⟩ good_nil), mixedOk, ins_nil⟩ Try.func46 rfl E46_eq
/-- impl.ComparePrices -/
noncomputable def i_ComparePrices (p_a : GPrice) (p_b : GPrice) (p_l : List GSent) : Option ((List Int) × Bool) :=
  (i_IsPrice p_a).bind fun r1 =>
  (bif (!r1) then
      some true
    else
      (i_IsPrice p_b).bind fun r2 =>
      some (!r2)).bind fun c3 =>
  (bif c3 then
      some true
    else
      (i_AreSent p_l).bind fun r4 =>
      some (!r4)).bind fun c5 =>
  bif c5 then
    some ([], false)
  else
    (loopE (fun (st7 : (List Int) × Int) => (
        bif (decide (st7.2 < (p_l.length : Int))) then
          (idx p_l st7.2).bind fun e8 =>
          (i_priceOf p_a e8).bind fun r9 =>
          (i_priceOf p_b e8).bind fun r10 =>
          (cmp_Compare_int r9 r10).bind fun r11 =>
          bif decide (List.length st7.1 + List.length [r11] ≤ lim) then
            some (.inl ((st7.1 ++ [r11]), (w64 (st7.2 + 1))))
          else
            none
        else
          some (.inr st7.1) : Option (((List Int) × Int) ⊕ ((List Int))))) ([], 0)).bind fun o12 =>
    some (o12, true)
noncomputable def C14 : FnSpec := { ps := [.val TGPrice, .val TGPrice, .val (.slice TGSent)], rs := [.own (.slice (.int .i64)), .val .bool], fn := fun x => i_ComparePrices x.1 x.2.1 x.2.2 }
noncomputable def E14 : Env := { T := [(25, TGPrice), (32, TGSent), (33, (.slice TGSent)), (36, (.slice (.int .i64)))], G := [(26, C26), (27, C27), (39, C39), (46, C46)], ro := [3, 4], loops := [(5, { keep := [3, 4, 24, 25], live := [.own 8 [] 200008 (.int .i64) true, .tv 26 (.int .i64)], outs := [(.exit 0, [.own 8 [] 200008 (.int .i64) true])] })], joins := [] }
theorem E14_eq : ∀ x, afun E14 Try.f14 C14.ps C14.rs x = C14.fn x := fun x => by kernel_rfl
theorem S14 : Sound Try.prog 14 C14 := fun_sound (E := E14) ⟨good_T (by kernel_rfl), (good_cons S26 ⟨_, Try.func26, by kernel_rfl, by kernel_rfl⟩ (good_cons S27 ⟨_, Try.func27, by kernel_rfl, by kernel_rfl⟩ (good_cons S39 ⟨_, Try.func39, by kernel_rfl, by kernel_rfl⟩ (good_cons S46 ⟨_, Try.func46, by kernel_rfl, by kernel_rfl⟩ good_nil)))), mixedOk, ins_nil⟩ Try.func14 rfl E14_eq
/-- spec.l1Sign -/
noncomputable def s_l1Sign (p_n : Int) : Option (Int) :=
  bif (decide (0 < p_n)) then
    some 1
  else
    bif (decide (p_n < 0)) then
      some (-1)
    else
      some 0
noncomputable def C48 : FnSpec := { ps := [.val (.int .i64)], rs := [.val (.int .i64)], fn := fun x => s_l1Sign x }
noncomputable def E48 : Env := { T := [], G := [], ro := [], loops := [], joins := [] }
theorem E48_eq : ∀ x, afun E48 Try.f48 C48.ps C48.rs x = C48.fn x := fun x => by kernel_rfl
theorem S48 : Sound Try.prog 48 C48 := fun_sound (E := E48) ⟨good_T (by kernel_rfl), good_nil, mixedOk, ins_nil⟩ Try.func48 rfl E48_eq
/-- spec.ComparePrices -/
noncomputable def s_ComparePrices (p_a : GPrice) (p_b : GPrice) (p_l : List GSent) : Option ((List Int) × Bool) :=
  (s_pcPrice p_a).bind fun r1 =>
  (bif (!r1) then
      some true
    else
      (s_pcPrice p_b).bind fun r2 =>
      some (!r2)).bind fun c3 =>
  (bif c3 then
      some true
    else
      (s_pcList p_l).bind fun r4 =>
      some (!r4)).bind fun c5 =>
  bif c5 then
    some ([], false)
  else
    (loopE (fun (st7 : (List Int) × Int) => (
        bif (decide (st7.2 < (p_l.length : Int))) then
          (idx p_l st7.2).bind fun e8 =>
          (s_pcCost p_a e8).bind fun r9 =>
          (s_pcCost p_b e8).bind fun r10 =>
          (s_l1Sign (w64 (r9 - r10))).bind fun r11 =>
          bif decide (List.length st7.1 + List.length [r11] ≤ lim) then
            some (.inl ((st7.1 ++ [r11]), (w64 (st7.2 + 1))))
          else
            none
        else
          some (.inr st7.1) : Option (((List Int) × Int) ⊕ ((List Int))))) ([], 0)).bind fun o12 =>
    some (o12, true)
noncomputable def C15 : FnSpec := { ps := [.val TGPrice, .val TGPrice, .val (.slice TGSent)], rs := [.own (.slice (.int .i64)), .val .bool], fn := fun x => s_ComparePrices x.1 x.2.1 x.2.2 }
noncomputable def E15 : Env := { T := [(25, TGPrice), (32, TGSent), (33, (.slice TGSent)), (36, (.slice (.int .i64)))], G := [(40, C40), (43, C43), (47, C47), (48, C48)], ro := [3, 4], loops := [(5, { keep := [3, 4, 24, 25], live := [.own 8 [] 200008 (.int .i64) true, .tv 26 (.int .i64)], outs := [(.exit 0, [.own 8 [] 200008 (.int .i64) true])] })], joins := [] }
theorem E15_eq : ∀ x, afun E15 Try.f15 C15.ps C15.rs x = C15.fn x := fun x => by kernel_rfl
theorem S15 : Sound Try.prog 15 C15 := fun_sound (E := E15) ⟨good_T (by kernel_rfl), (good_cons S40 ⟨_, Try.func40, by kernel_rfl, by kernel_rfl⟩ (good_cons S43 ⟨_, Try.func43, by kernel_rfl, by kernel_rfl⟩ (good_cons S47 ⟨_, Try.func47, by kernel_rfl, by kernel_rfl⟩ (good_cons S48 ⟨_, Try.func48, by kernel_rfl, by kernel_rfl⟩ good_nil)))), mixedOk, ins_nil⟩ Try.func15 rfl E15_eq
/-- laws.sameInts -/
noncomputable def l_sameInts (p_a : List Int) (p_b : List Int) : Option (Bool) :=
  bif (!decide ((p_a.length : Int) = (p_b.length : Int))) then
    some false
  else
    (loopE (fun (st2 : Int) => (
        bif (decide (st2 < (p_a.length : Int))) then
          (idx p_a st2).bind fun e3 =>
          (idx p_b st2).bind fun e4 =>
          bif (!decide (e3 = e4)) then
            some (.inr (.inr false))
          else
            some (.inl (w64 (st2 + 1)))
        else
          some (.inr (.inl ())) : Option ((Int) ⊕ (Unit ⊕ Bool)))) 0).bind fun o5 =>
    match o5 with
    | .inl _ =>
      some true
    | .inr y7 =>
      some y7
noncomputable def C16 : FnSpec := { ps := [.val (.slice (.int .i64)), .val (.slice (.int .i64))], rs := [.val .bool], fn := fun x => l_sameInts x.1 x.2 }
noncomputable def E16 : Env := { T := [(3, (.int .i64)), (36, (.slice (.int .i64)))], G := [], ro := [], loops := [(4, { keep := [0, 1, 12], live := [.tv 13 (.int .i64)], outs := [(.exit 0, []), (.ret, [.tv 4 .bool])] })], joins := [] }
theorem E16_eq : ∀ x, afun E16 Try.f16 C16.ps C16.rs x = C16.fn x := fun x => by kernel_rfl
theorem S16 : Sound Try.prog 16 C16 := fun_sound (E := E16) ⟨good_T (by kernel_rfl), good_nil, mixedOk, ins_nil⟩ Try.func16 rfl E16_eq
/-- spec.DrawSplitPrice -/
noncomputable def s_DrawSplitPrice (p_code : List Int) : Option (GPrice × GSent × Int) :=
  (s_l1Cur_price (p_code, 0, 0, ())).bind fun r1 =>
  (s_l1Cur_sent r1.1).bind fun r2 =>
  (s_l1Cur_among r2.1 [0, 10]).bind fun r3 =>
  (s_l1Cur_among r3.1 [1, 2, 3, 9, r3.2]).bind fun r4 =>
  some (r1.2, r2.2, r4.2)
noncomputable def C17 : FnSpec := { ps := [.val (.slice (.int .u8))], rs := [.val TGPrice, .val TGSent, .val (.int .i64)], fn := fun x => s_DrawSplitPrice x }
noncomputable def E17 : Env := { T := [(25, TGPrice), (32, TGSent), (36, (.slice (.int .i64))), (62, TGl1Cur)], G := [(35, C35), (36, C36), (49, C49)], ro := [], loops := [], joins := [] }
theorem E17_eq : ∀ x, afun E17 Try.f17 C17.ps C17.rs x = C17.fn x := fun x => by kernel_rfl
theorem S17 : Sound Try.prog 17 C17 := fun_sound (E := E17) ⟨good_T (by kernel_rfl), (good_cons S35 ⟨_, Try.func35, by kernel_rfl, by kernel_rfl⟩ (good_cons S36 ⟨_, Try.func36, by kernel_rfl, by kernel_rfl⟩ (good_cons S49 ⟨_, Try.func49, by kernel_rfl, by kernel_rfl⟩ good_nil))), mixedOk, ins_nil⟩ Try.func17 rfl E17_eq
/-- impl.SplitPrice -/
noncomputable def i_SplitPrice (p_p : GPrice) (p_x : GSent) (p_parts : Int) : Option (Int × Bool) :=
  (i_IsPrice p_p).bind fun r1 =>
  (bif (!r1) then
      some true
    else
      (i_isSent p_x).bind fun r2 =>
      some (!r2)).bind fun c3 =>
  (bif c3 then
      some true
    else
      (i_within p_parts 1 (bif decide (p_x.1 < 9) then p_x.1 else 9)).bind fun r4 =>
      some (!r4)).bind fun c5 =>
  bif c5 then
    some (0, false)
  else
    (i_priceOf p_p p_x).bind fun r6 =>
    (loopE (fun (st8 : Int × Int) => (
        bif (decide (st8.2 < p_parts)) then
          bif (!decide (p_parts = 0)) then
            bif (!decide (p_parts = 0)) then
              bif (decide (st8.2 < (Int.tmod p_x.1 p_parts))) then
                (i_priceOf p_p ((w64 ((w64 (Int.tdiv p_x.1 p_parts)) + 1)), p_x.2)).bind fun r9 =>
                some (.inl ((w64 (st8.1 + r9)), (w64 (st8.2 + 1))))
              else
                (i_priceOf p_p ((w64 (Int.tdiv p_x.1 p_parts)), p_x.2)).bind fun r10 =>
                some (.inl ((w64 (st8.1 + r10)), (w64 (st8.2 + 1))))
            else
              none
          else
            none
        else
          some (.inr st8.1) : Option ((Int × Int) ⊕ (Int)))) ((w64 (0 - r6)), 0)).bind fun o11 =>
    some (o11, true)
noncomputable def C18 : FnSpec := { ps := [.val TGPrice, .val TGSent, .val (.int .i64)], rs := [.val (.int .i64), .val .bool], fn := fun x => i_SplitPrice x.1 x.2.1 x.2.2 }
noncomputable def E18 : Env := { T := [(3, (.int .i64)), (25, TGPrice), (32, TGSent)], G := [(27, C27), (38, C38), (39, C39), (44, C44)], ro := [3, 4], loops := [(5, { keep := [2, 3, 4, 31], live := [.tv 8 (.int .i64), .tv 32 (.int .i64)], outs := [(.exit 0, [.tv 8 (.int .i64)])] })], joins := [] }
theorem E18_eq : ∀ x, afun E18 Try.f18 C18.ps C18.rs x = C18.fn x := fun x => by kernel_rfl
theorem S18 : Sound Try.prog 18 C18 := fun_sound (E := E18) ⟨good_T (by kernel_rfl), (good_cons S27 ⟨_, Try.func27, by kernel_rfl, by kernel_rfl⟩ (good_cons S38 ⟨_, Try.func38, by kernel_rfl, by kernel_rfl⟩ (good_cons S39 ⟨_, Try.func39, by kernel_rfl, by kernel_rfl⟩ (good_cons S44 ⟨_, Try.func44, by kernel_rfl, by kernel_rfl⟩ good_nil)))), mixedOk, ins_nil⟩ Try.func18 rfl E18_eq
/-- spec.SplitPrice -/
noncomputable def s_SplitPrice (p_p : GPrice) (p_x : GSent) (p_parts : Int) : Option (Int × Bool) :=
  (s_pcPrice p_p).bind fun r1 =>
  (bif (!r1) then
      some true
    else
      (s_pcSent p_x).bind fun r2 =>
      some (!r2)).bind fun c3 =>
  (bif c3 then
      some true
    else
      (s_l1In p_parts 1 9).bind fun r4 =>
      some (!r4)).bind fun c5 =>
  (bif c5 then
      some true
    else
      some (decide (p_x.1 < p_parts))).bind fun c6 =>
  bif c6 then
    some (0, false)
  else
    (loopE (fun (st8 : Int × Int) => (
        bif (decide (st8.2 < p_parts)) then
          bif (!decide (p_parts = 0)) then
            bif (!decide (p_parts = 0)) then
              bif (decide (st8.2 < (Int.tmod p_x.1 p_parts))) then
                (s_pcCost p_p ((w64 ((w64 (Int.tdiv p_x.1 p_parts)) + 1)), p_x.2)).bind fun r9 =>
                some (.inl ((w64 (st8.1 + r9)), (w64 (st8.2 + 1))))
              else
                (s_pcCost p_p ((w64 (Int.tdiv p_x.1 p_parts)), p_x.2)).bind fun r10 =>
                some (.inl ((w64 (st8.1 + r10)), (w64 (st8.2 + 1))))
            else
              none
          else
            none
        else
          some (.inr st8.1) : Option ((Int × Int) ⊕ (Int)))) (0, 0)).bind fun o11 =>
    (s_pcCost p_p p_x).bind fun r12 =>
    some ((w64 (o11 - r12)), true)
noncomputable def C19 : FnSpec := { ps := [.val TGPrice, .val TGSent, .val (.int .i64)], rs := [.val (.int .i64), .val .bool], fn := fun x => s_SplitPrice x.1 x.2.1 x.2.2 }
noncomputable def E19 : Env := { T := [(3, (.int .i64)), (25, TGPrice), (32, TGSent)], G := [(40, C40), (41, C41), (43, C43), (50, C50)], ro := [3, 4], loops := [(5, { keep := [2, 3, 4], live := [.tv 8 (.int .i64), .tv 9 (.int .i64)], outs := [(.exit 0, [.tv 8 (.int .i64)])] })], joins := [] }
theorem E19_eq : ∀ x, afun E19 Try.f19 C19.ps C19.rs x = C19.fn x := fun x => by kernel_rfl
theorem S19 : Sound Try.prog 19 C19 := fun_sound (E := E19) ⟨good_T (by kernel_rfl), (good_cons S40 ⟨_, Try.func40, by kernel_rfl, by kernel_rfl⟩ (good_cons S41 ⟨_, Try.func41, by kernel_rfl, by kernel_rfl⟩ (good_cons S43 ⟨_, Try.func43, by kernel_rfl, by kernel_rfl⟩ (good_cons S50 ⟨_, Try.func50, by kernel_rfl, by kernel_rfl⟩ good_nil)))), mixedOk, ins_nil⟩ Try.func19 rfl E19_eq
/-- laws.FnAffordable -/
noncomputable def l_FnAffordable (p_code : List Int) (p_more : List Int) : Option (Bool) :=
  (l_big p_code p_more).bind fun r1 =>
  bif r1 then
    some true
  else
    (s_DrawSignalsFor p_code).bind fun r2 =>
    (i_SignalsFor r2.1 r2.2.1 r2.2.2).bind fun r3 =>
    (s_SignalsFor r2.1 r2.2.1 r2.2.2).bind fun r4 =>
    (bif (r3.2 != r4.2) then
        some true
      else
        some (!decide (r3.1 = r4.1))).bind fun c5 =>
    bif c5 then
      some false
    else
      ((bif r3.2 then
            (i_PriceOf r2.1 (r4.1, r2.2.1, false, 0, ())).bind fun r6 =>
            (bif (!r6.2) then
                some true
              else
                some (decide (r2.2.2 < r6.1))).bind fun c7 =>
            bif c7 then
              some (.inr false)
            else
              bif (decide (r4.1 < 72)) then
                (i_PriceOf r2.1 ((w64 (r4.1 + 1)), r2.2.1, false, 0, ())).bind fun r8 =>
                (bif (!r8.2) then
                    some true
                  else
                    some (decide (r8.1 ≤ r2.2.2))).bind fun c9 =>
                bif c9 then
                  some (.inr false)
                else
                  some (.inl ())
              else
                some (.inl ())
          else
            some (.inl ()) : Option (Unit ⊕ Bool))).bind fun j10 =>
      match j10 with
      | .inl _ =>
        (s_DrawFarthestFor p_more).bind fun r13 =>
        (i_FarthestFor r13.1 r13.2.1 r13.2.2).bind fun r14 =>
        (s_FarthestFor r13.1 r13.2.1 r13.2.2).bind fun r15 =>
        (bif (r14.2 != r15.2) then
            some true
          else
            some (!decide (r14.1 = r15.1))).bind fun c16 =>
        bif c16 then
          some false
        else
          ((bif r14.2 then
                (i_PriceOf r13.1 (r13.2.1, r15.1, false, 0, ())).bind fun r17 =>
                (bif (!r17.2) then
                    some true
                  else
                    some (decide (r13.2.2 < r17.1))).bind fun c18 =>
                bif c18 then
                  some (.inr false)
                else
                  bif (decide (r15.1 < 16)) then
                    (i_PriceOf r13.1 (r13.2.1, (w64 (r15.1 + 1)), false, 0, ())).bind fun r19 =>
                    (bif (!r19.2) then
                        some true
                      else
                        some (decide (r19.1 ≤ r13.2.2))).bind fun c20 =>
                    bif c20 then
                      some (.inr false)
                    else
                      some (.inl ())
                  else
                    some (.inl ())
              else
                some (.inl ()) : Option (Unit ⊕ Bool))).bind fun j21 =>
          match j21 with
          | .inl _ =>
            (s_DrawComparePrices p_more).bind fun r24 =>
            (i_ComparePrices r24.1 r24.2.1 r24.2.2).bind fun r25 =>
            (s_ComparePrices r24.1 r24.2.1 r24.2.2).bind fun r26 =>
            (i_ComparePrices r24.2.1 r24.1 r24.2.2).bind fun r27 =>
            (s_ComparePrices r24.2.1 r24.1 r24.2.2).bind fun r28 =>
            (bif (r25.2 != r26.2) then
                some true
              else
                (l_sameInts r25.1 r26.1).bind fun r29 =>
                some (!r29)).bind fun c30 =>
            (bif c30 then
                some true
              else
                some (r27.2 != r28.2)).bind fun c31 =>
            (bif c31 then
                some true
              else
                (l_sameInts r27.1 r28.1).bind fun r32 =>
                some (!r32)).bind fun c33 =>
            (bif c33 then
                some true
              else
                some (r27.2 != r25.2)).bind fun c34 =>
            bif c34 then
              some false
            else
              (loopE (fun (st36 : (List Int) × (List Int) × Int) => (
                  bif (decide (st36.2.2 < (r26.1.length : Int))) then
                    bif decide (0 ≤ st36.2.2) && decide (st36.2.2 < (st36.2.1.length : Int)) then
                      (st36.2.1[(Int.toNat st36.2.2)]?).bind fun e37 =>
                      bif decide (0 ≤ st36.2.2) && decide (st36.2.2 < (st36.1.length : Int)) then
                        (st36.1[(Int.toNat st36.2.2)]?).bind fun e38 =>
                        bif (!decide (e38 = (w64 (0 - e37)))) then
                          some (.inr (.inr false))
                        else
                          some (.inl (st36.1, st36.2.1, (w64 (st36.2.2 + 1))))
                      else
                        none
                    else
                      none
                  else
                    some (.inr (.inl ())) : Option (((List Int) × (List Int) × Int) ⊕ (Unit ⊕ Bool)))) (r28.1, r26.1, 0)).bind fun o39 =>
              match o39 with
              | .inl _ =>
                (s_DrawSplitPrice p_more).bind fun r42 =>
                (i_SplitPrice r42.1 r42.2.1 r42.2.2).bind fun r43 =>
                (s_SplitPrice r42.1 r42.2.1 r42.2.2).bind fun r44 =>
                (bif (r43.2 == r44.2) then
                    some (decide (r43.1 = r44.1))
                  else
                    some false).bind fun c45 =>
                (bif c45 then
                    (bif (!r43.2) then
                        some true
                      else
                        some (decide (1 < r42.2.2))).bind fun c46 =>
                    (bif c46 then
                        some true
                      else
                        some (decide (r44.1 = 0))).bind fun c47 =>
                    some c47
                  else
                    some false).bind fun c48 =>
                some c48
              | .inr y41 =>
                some y41
          | .inr y23 =>
            some y23
      | .inr y12 =>
        some y12
noncomputable def C3 : FnSpec := { ps := [.val (.slice (.int .u8)), .val (.slice (.int .u8))], rs := [.val .bool], fn := fun x => l_FnAffordable x.1 x.2 }
noncomputable def E3 : Env := { T := [(3, (.int .i64)), (4, .bool), (25, TGPrice), (32, TGSent), (36, (.slice (.int .i64)))], G := [(5, C5), (6, C6), (7, C7), (8, C8), (9, C9), (10, C10), (11, C11), (12, C12), (13, C13), (14, C14), (15, C15), (16, C16), (17, C17), (18, C18), (19, C19)], ro := [], loops := [(37, { keep := [1, 234, 272, 273, 274, 277, 278, 279, 280, 281, 282, 283, 284, 285, 286], live := [.own 36 [] 3280 (.int .i64) true, .own 233 [] 3056 (.int .i64) true, .tv 235 (.int .i64)], outs := [(.exit 0, []), (.ret, [.tv 4 .bool])] })], joins := [(16, { keep := [1], live := [], outs := [(.normal, []), (.ret, [.tv 4 .bool])] }), (29, { keep := [1], live := [], outs := [(.normal, []), (.ret, [.tv 4 .bool])] })] }
theorem E3_eq : ∀ x, afun E3 Try.f3 C3.ps C3.rs x = C3.fn x := fun x => by kernel_rfl
theorem S3 : Sound Try.prog 3 C3 := fun_sound (E := E3) ⟨good_T (by kernel_rfl), (good_cons S5 ⟨_, Try.func5, by kernel_rfl, by kernel_rfl⟩ (good_cons S6 ⟨_, Try.func6, by kernel_rfl, by kernel_rfl⟩ (good_cons S7 ⟨_, Try.func7, by kernel_rfl, by kernel_rfl⟩ (good_cons S8 ⟨_, Try.func8, by kernel_rfl, by kernel_rfl⟩ (good_cons S9 ⟨_, Try.func9, by kernel_rfl, by kernel_rfl⟩ (good_cons S10 ⟨_, Try.func10, by kernel_rfl, by kernel_rfl⟩ (good_cons S11 ⟨_, Try.func11, by kernel_rfl, by kernel_rfl⟩ (good_cons S12 ⟨_, Try.func12, by kernel_rfl, by kernel_rfl⟩ (good_cons S13 ⟨_, Try.func13, by kernel_rfl, by kernel_rfl⟩ (good_cons S14 ⟨_, Try.func14, by kernel_rfl, by kernel_rfl⟩ (good_cons S15 ⟨_, Try.func15, by kernel_rfl, by kernel_rfl⟩ (good_cons S16 ⟨_, Try.func16, by kernel_rfl, by kernel_rfl⟩ (good_cons S17 ⟨_, Try.func17, by kernel_rfl, by kernel_rfl⟩ (good_cons S18 ⟨_, Try.func18, by kernel_rfl, by kernel_rfl⟩ (good_cons S19 ⟨_, Try.func19, by kernel_rfl, by kernel_rfl⟩ good_nil))))))))))))))), mixedOk, ins_nil⟩ Try.func3 rfl E3_eq
end Go.Proofs.Ytkjcobhldfhodaa.Sh
