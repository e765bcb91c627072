/-
  The functions that the statement reaches, as plain functions; each with its contract.
-/
import Derived.Test.YtbbfieonkkgkkaaXLift
import Derived.Test.YtbbfieonkkgkkaaChecked
import Derived.KernelRfl
namespace Go.Proofs.Ytbbfieonkkgkkaa.Sh
open Go Go.Ab Go.Proofs
set_option maxRecDepth 100000
abbrev TGerrorAddressString : Ty := .pair .str (.pair (.int .u64) .unit)
abbrev GerrorAddressString : Type := Bytes × Int × Unit
abbrev TGl1Cur : Ty := .pair (.slice (.int .u8)) (.pair (.int .i64) (.pair (.int .u64) .unit))
abbrev Gl1Cur : Type := (List Int) × Int × Int × Unit
abbrev TGPhrase : Ty := .pair .str (.pair (.slice (.int .i64)) .unit)
abbrev GPhrase : Type := Bytes × (List Int) × Unit
abbrev TGboundsError : Ty := .pair (.int .i64) (.pair (.int .i64) (.pair .bool (.pair (.int .u8) .unit)))
abbrev GboundsError : Type := Int × Int × Bool × Int × Unit
abbrev TGPrice : Ty := .pair (.int .i64) (.pair (.int .i64) (.pair (.int .i64) (.pair (.int .i64) .unit)))
abbrev GPrice : Type := Int × Int × Int × Int × Unit
abbrev TGSent : Ty := .pair (.int .i64) (.pair (.int .i64) (.pair .bool (.pair (.int .i64) .unit)))
abbrev GSent : Type := Int × Int × Bool × Int × Unit
abbrev TGBook : Ty := .pair (.slice TGPhrase) .unit
abbrev GBook : Type := (List GPhrase) × Unit
theorem mixedOk : Try.prog.follows .mixedOrders = true := by kernel_rfl
/-- spec.l1In -/
noncomputable def s_l1In (p_n : Int) (p_lo : Int) (p_hi : Int) : Option (Bool) :=
  (bif (decide (p_lo ≤ p_n)) then
      some (decide (p_n ≤ p_hi))
    else
      some false).bind fun c1 =>
  some c1
noncomputable def C58 : FnSpec := { ps := [.val (.int .i64), .val (.int .i64), .val (.int .i64)], rs := [.val .bool], fn := fun x => s_l1In x.1 x.2.1 x.2.2 }
noncomputable def E58 : Env := { T := [], G := [], ro := [], loops := [], joins := [] }
theorem E58_eq : ∀ x, afun E58 Try.f58 C58.ps C58.rs x = C58.fn x := fun x => by kernel_rfl
theorem S58 : Sound Try.prog 58 C58 := fun_sound (E := E58) ⟨good_T (by kernel_rfl), good_nil, mixedOk⟩ Try.func58 rfl E58_eq
/-- spec.pcPrice -/
noncomputable def s_pcPrice (p_p : GPrice) : Option (Bool) :=
  (s_l1In p_p.1 0 10000).bind fun r1 =>
  (bif r1 then
      (s_l1In p_p.2.1 0 100).bind fun r2 =>
      some r2
    else
      some false).bind fun c3 =>
  (bif c3 then
      (s_l1In p_p.2.2.1 0 1000).bind fun r4 =>
      some r4
    else
      some false).bind fun c5 =>
  (bif c5 then
      (s_l1In p_p.2.2.2.1 0 200).bind fun r6 =>
      some r6
    else
      some false).bind fun c7 =>
  some c7
noncomputable def C56 : FnSpec := { ps := [.val TGPrice], rs := [.val .bool], fn := fun x => s_pcPrice x }
noncomputable def E56 : Env := { T := [(3, (.int .i64)), (25, TGPrice)], G := [(58, C58)], ro := [1], loops := [], joins := [] }
theorem E56_eq : ∀ x, afun E56 Try.f56 C56.ps C56.rs x = C56.fn x := fun x => by kernel_rfl
theorem S56 : Sound Try.prog 56 C56 := fun_sound (E := E56) ⟨good_T (by kernel_rfl), (good_cons S58 ⟨_, Try.func58, by kernel_rfl, by kernel_rfl⟩ good_nil), mixedOk⟩ Try.func56 rfl E56_eq
/-- spec.IsPrice -/
noncomputable def s_IsPrice (p_p : GPrice) : Option (Bool) :=
  (s_pcPrice p_p).bind fun r1 =>
  some r1
noncomputable def C15 : FnSpec := { ps := [.val TGPrice], rs := [.val .bool], fn := fun x => s_IsPrice x }
noncomputable def E15 : Env := { T := [(25, TGPrice)], G := [(56, C56)], ro := [1], loops := [], joins := [] }
theorem E15_eq : ∀ x, afun E15 Try.f15 C15.ps C15.rs x = C15.fn x := fun x => by kernel_rfl
theorem S15 : Sound Try.prog 15 C15 := fun_sound (E := E15) ⟨good_T (by kernel_rfl), (good_cons S56 ⟨_, Try.func56, by kernel_rfl, by kernel_rfl⟩ good_nil), mixedOk⟩ Try.func15 rfl E15_eq
/-- laws.toPrice -/
noncomputable def l_toPrice (p_a : GPrice) : Option (GPrice) :=
  some p_a
noncomputable def C16 : FnSpec := { ps := [.val TGPrice], rs := [.val TGPrice], fn := fun x => l_toPrice x }
noncomputable def E16 : Env := { T := [(3, (.int .i64)), (23, TGPrice), (25, TGPrice)], G := [], ro := [1], loops := [], joins := [] }
theorem E16_eq : ∀ x, afun E16 Try.f16 C16.ps C16.rs x = C16.fn x := fun x => by kernel_rfl
theorem S16 : Sound Try.prog 16 C16 := fun_sound (E := E16) ⟨good_T (by kernel_rfl), good_nil, mixedOk⟩ Try.func16 rfl E16_eq
/-- impl.within -/
noncomputable def i_within (p_n : Int) (p_low : Int) (p_high : Int) : Option (Bool) :=
  (bif (decide (p_low ≤ p_n)) then
      some (decide (p_n ≤ p_high))
    else
      some false).bind fun c1 =>
  some c1
noncomputable def C57 : FnSpec := { ps := [.val (.int .i64), .val (.int .i64), .val (.int .i64)], rs := [.val .bool], fn := fun x => i_within x.1 x.2.1 x.2.2 }
noncomputable def E57 : Env := { T := [], G := [], ro := [], loops := [], joins := [] }
theorem E57_eq : ∀ x, afun E57 Try.f57 C57.ps C57.rs x = C57.fn x := fun x => by kernel_rfl
theorem S57 : Sound Try.prog 57 C57 := fun_sound (E := E57) ⟨good_T (by kernel_rfl), good_nil, mixedOk⟩ Try.func57 rfl E57_eq
/-- impl.IsPrice -/
noncomputable def i_IsPrice (p_p : GPrice) : Option (Bool) :=
  (i_within p_p.1 0 10000).bind fun r1 =>
  (bif r1 then
      (i_within p_p.2.1 0 100).bind fun r2 =>
      some r2
    else
      some false).bind fun c3 =>
  (bif c3 then
      (i_within p_p.2.2.1 0 1000).bind fun r4 =>
      some r4
    else
      some false).bind fun c5 =>
  (bif c5 then
      (i_within p_p.2.2.2.1 0 200).bind fun r6 =>
      some r6
    else
      some false).bind fun c7 =>
  some c7
noncomputable def C17 : FnSpec := { ps := [.val TGPrice], rs := [.val .bool], fn := fun x => i_IsPrice x }
noncomputable def E17 : Env := { T := [(3, (.int .i64)), (25, TGPrice)], G := [(57, C57)], ro := [1], loops := [], joins := [] }
theorem E17_eq : ∀ x, afun E17 Try.f17 C17.ps C17.rs x = C17.fn x := fun x => by kernel_rfl
theorem S17 : Sound Try.prog 17 C17 := fun_sound (E := E17) ⟨good_T (by kernel_rfl), (good_cons S57 ⟨_, Try.func57, by kernel_rfl, by kernel_rfl⟩ good_nil), mixedOk⟩ Try.func17 rfl E17_eq
/-- laws.FnExactIsPrice -/
noncomputable def l_FnExactIsPrice (p_aP : GPrice) : Option (Bool) :=
  (l_toPrice p_aP).bind fun r1 =>
  (s_IsPrice r1).bind fun r2 =>
  (l_toPrice p_aP).bind fun r3 =>
  (i_IsPrice r3).bind fun r4 =>
  bif (r4 != r2) then
    some false
  else
    some true
noncomputable def C3 : FnSpec := { ps := [.val TGPrice], rs := [.val .bool], fn := fun x => l_FnExactIsPrice x }
noncomputable def E3 : Env := { T := [(4, .bool), (23, TGPrice)], G := [(15, C15), (16, C16), (17, C17)], ro := [1], loops := [], joins := [] }
theorem E3_eq : ∀ x, afun E3 Try.f3 C3.ps C3.rs x = C3.fn x := fun x => by kernel_rfl
theorem S3 : Sound Try.prog 3 C3 := fun_sound (E := E3) ⟨good_T (by kernel_rfl), (good_cons S15 ⟨_, Try.func15, by kernel_rfl, by kernel_rfl⟩ (good_cons S16 ⟨_, Try.func16, by kernel_rfl, by kernel_rfl⟩ (good_cons S17 ⟨_, Try.func17, by kernel_rfl, by kernel_rfl⟩ good_nil))), mixedOk⟩ Try.func3 rfl E3_eq
/-- spec.pcCents -/
noncomputable def s_pcCents (p_cents : Int) : Option (Bool) :=
  (s_l1In p_cents 0 1000000).bind fun r1 =>
  some r1
noncomputable def C59 : FnSpec := { ps := [.val (.int .i64)], rs := [.val .bool], fn := fun x => s_pcCents x }
noncomputable def E59 : Env := { T := [], G := [(58, C58)], ro := [], loops := [], joins := [] }
theorem E59_eq : ∀ x, afun E59 Try.f59 C59.ps C59.rs x = C59.fn x := fun x => by kernel_rfl
theorem S59 : Sound Try.prog 59 C59 := fun_sound (E := E59) ⟨good_T (by kernel_rfl), (good_cons S58 ⟨_, Try.func58, by kernel_rfl, by kernel_rfl⟩ good_nil), mixedOk⟩ Try.func59 rfl E59_eq
/-- spec.pcCost -/
noncomputable def s_pcCost (p_p : GPrice) (p_x : GSent) : Option (Int) :=
  bif p_x.2.2.1 then
    some (w64 ((w64 ((w64 (p_p.1 + (w64 ((w64 (p_p.2.1 * p_x.1)) * p_x.2.1)))) + (w64 (p_p.2.2.1 * p_x.2.1)))) + (w64 (Int.tdiv (w64 ((w64 ((w64 (p_p.1 + (w64 ((w64 (p_p.2.1 * p_x.1)) * p_x.2.1)))) + (w64 (p_p.2.2.1 * p_x.2.1)))) * p_p.2.2.2.1)) 100))))
  else
    some (w64 ((w64 (p_p.1 + (w64 ((w64 (p_p.2.1 * p_x.1)) * p_x.2.1)))) + (w64 (p_p.2.2.1 * p_x.2.1))))
noncomputable def C60 : FnSpec := { ps := [.val TGPrice, .val TGSent], rs := [.val (.int .i64)], fn := fun x => s_pcCost x.1 x.2 }
noncomputable def E60 : Env := { T := [(3, (.int .i64)), (4, .bool), (25, TGPrice), (34, TGSent)], G := [], ro := [2, 3], loops := [], joins := [] }
theorem E60_eq : ∀ x, afun E60 Try.f60 C60.ps C60.rs x = C60.fn x := fun x => by kernel_rfl
theorem S60 : Sound Try.prog 60 C60 := fun_sound (E := E60) ⟨good_T (by kernel_rfl), good_nil, mixedOk⟩ Try.func60 rfl E60_eq
/-- spec.FarthestFor -/
noncomputable def s_FarthestFor (p_p : GPrice) (p_signals : Int) (p_cents : Int) : Option (Int × Bool) :=
  (s_pcPrice p_p).bind fun r1 =>
  (bif (!r1) then
      some true
    else
      (s_l1In p_signals 1 72).bind fun r2 =>
      some (!r2)).bind fun c3 =>
  (bif c3 then
      some true
    else
      (s_pcCents p_cents).bind fun r4 =>
      some (!r4)).bind fun c5 =>
  bif c5 then
    some (0, false)
  else
    (loopE (fun (st7 : Int × Int) => (
        bif (decide (st7.2 ≤ 16)) then
          (s_pcCost p_p (p_signals, st7.2, false, 0, ())).bind fun r8 =>
          bif (decide (r8 ≤ p_cents)) then
            some (.inl (st7.2, (w64 (st7.2 + 1))))
          else
            some (.inl (st7.1, (w64 (st7.2 + 1))))
        else
          some (.inr st7.1) : Option ((Int × Int) ⊕ (Int)))) (0, 1)).bind fun o9 =>
    some (o9, (decide (0 < o9)))
noncomputable def C18 : FnSpec := { ps := [.val TGPrice, .val (.int .i64), .val (.int .i64)], rs := [.val (.int .i64), .val .bool], fn := fun x => s_FarthestFor x.1 x.2.1 x.2.2 }
noncomputable def E18 : Env := { T := [(25, TGPrice), (34, TGSent)], G := [(56, C56), (58, C58), (59, C59), (60, C60)], ro := [3], loops := [(5, { keep := [1, 2, 3], live := [.tv 8 (.int .i64), .tv 9 (.int .i64)], outs := [(.exit 0, [.tv 8 (.int .i64)])] })], joins := [] }
theorem E18_eq : ∀ x, afun E18 Try.f18 C18.ps C18.rs x = C18.fn x := fun x => by kernel_rfl
theorem S18 : Sound Try.prog 18 C18 := fun_sound (E := E18) ⟨good_T (by kernel_rfl), (good_cons S56 ⟨_, Try.func56, by kernel_rfl, by kernel_rfl⟩ (good_cons S58 ⟨_, Try.func58, by kernel_rfl, by kernel_rfl⟩ (good_cons S59 ⟨_, Try.func59, by kernel_rfl, by kernel_rfl⟩ (good_cons S60 ⟨_, Try.func60, by kernel_rfl, by kernel_rfl⟩ good_nil)))), mixedOk⟩ Try.func18 rfl E18_eq
/-- impl.priceOf -/
noncomputable def i_priceOf (p_p : GPrice) (p_x : GSent) : Option (Int) :=
  bif p_x.2.2.1 then
    some (w64 ((w64 ((w64 (p_p.1 + (w64 ((w64 (p_p.2.1 * p_x.1)) * p_x.2.1)))) + (w64 (p_p.2.2.1 * p_x.2.1)))) + (w64 (Int.tdiv (w64 ((w64 ((w64 (p_p.1 + (w64 ((w64 (p_p.2.1 * p_x.1)) * p_x.2.1)))) + (w64 (p_p.2.2.1 * p_x.2.1)))) * p_p.2.2.2.1)) 100))))
  else
    some (w64 ((w64 (p_p.1 + (w64 ((w64 (p_p.2.1 * p_x.1)) * p_x.2.1)))) + (w64 (p_p.2.2.1 * p_x.2.1))))
noncomputable def C61 : FnSpec := { ps := [.val TGPrice, .val TGSent], rs := [.val (.int .i64)], fn := fun x => i_priceOf x.1 x.2 }
noncomputable def E61 : Env := { T := [(3, (.int .i64)), (4, .bool), (25, TGPrice), (34, TGSent)], G := [], ro := [2, 3], loops := [], joins := [] }
theorem E61_eq : ∀ x, afun E61 Try.f61 C61.ps C61.rs x = C61.fn x := fun x => by kernel_rfl
theorem S61 : Sound Try.prog 61 C61 := fun_sound (E := E61) ⟨good_T (by kernel_rfl), good_nil, mixedOk⟩ Try.func61 rfl E61_eq
/-- impl.FarthestFor -/
noncomputable def i_FarthestFor (p_p : GPrice) (p_signals : Int) (p_cents : Int) : Option (Int × Bool) :=
  (i_IsPrice p_p).bind fun r1 =>
  (bif (!r1) then
      some true
    else
      (i_within p_signals 1 72).bind fun r2 =>
      some (!r2)).bind fun c3 =>
  (bif c3 then
      some true
    else
      (i_within p_cents 0 1000000).bind fun r4 =>
      some (!r4)).bind fun c5 =>
  bif c5 then
    some (0, false)
  else
    (loopE (fun (st7 : Int) => (
        bif (decide (0 < st7)) then
          (i_priceOf p_p (p_signals, st7, false, 0, ())).bind fun r8 =>
          bif (decide (r8 ≤ p_cents)) then
            some (.inr (.inr (st7, true)))
          else
            some (.inl (w64 (st7 - 1)))
        else
          some (.inr (.inl ())) : Option ((Int) ⊕ (Unit ⊕ (Int × Bool))))) 16).bind fun o9 =>
    match o9 with
    | .inl _ =>
      some (0, false)
    | .inr y11 =>
      some (y11.1, y11.2)
noncomputable def C19 : FnSpec := { ps := [.val TGPrice, .val (.int .i64), .val (.int .i64)], rs := [.val (.int .i64), .val .bool], fn := fun x => i_FarthestFor x.1 x.2.1 x.2.2 }
noncomputable def E19 : Env := { T := [(25, TGPrice), (34, TGSent)], G := [(17, C17), (57, C57), (61, C61)], ro := [3], loops := [(4, { keep := [1, 2, 3], live := [.tv 8 (.int .i64)], outs := [(.exit 0, []), (.ret, [.tv 6 (.int .i64), .tv 7 .bool])] })], joins := [] }
theorem E19_eq : ∀ x, afun E19 Try.f19 C19.ps C19.rs x = C19.fn x := fun x => by kernel_rfl
theorem S19 : Sound Try.prog 19 C19 := fun_sound (E := E19) ⟨good_T (by kernel_rfl), (good_cons S17 ⟨_, Try.func17, by kernel_rfl, by kernel_rfl⟩ (good_cons S57 ⟨_, Try.func57, by kernel_rfl, by kernel_rfl⟩ (good_cons S61 ⟨_, Try.func61, by kernel_rfl, by kernel_rfl⟩ good_nil))), mixedOk⟩ Try.func19 rfl E19_eq
/-- laws.FnExactFarthestFor -/
noncomputable def l_FnExactFarthestFor (p_aP : GPrice) (p_aSignals : Int) (p_aCents : Int) : Option (Bool) :=
  (l_toPrice p_aP).bind fun r1 =>
  (s_FarthestFor r1 p_aSignals p_aCents).bind fun r2 =>
  (l_toPrice p_aP).bind fun r3 =>
  (i_FarthestFor r3 p_aSignals p_aCents).bind fun r4 =>
  (bif (!decide (r4.1 = r2.1)) then
      some true
    else
      some (r4.2 != r2.2)).bind fun c5 =>
  bif c5 then
    some false
  else
    some true
noncomputable def C4 : FnSpec := { ps := [.val TGPrice, .val (.int .i64), .val (.int .i64)], rs := [.val .bool], fn := fun x => l_FnExactFarthestFor x.1 x.2.1 x.2.2 }
noncomputable def E4 : Env := { T := [(4, .bool), (23, TGPrice)], G := [(16, C16), (18, C18), (19, C19)], ro := [3], loops := [], joins := [] }
theorem E4_eq : ∀ x, afun E4 Try.f4 C4.ps C4.rs x = C4.fn x := fun x => by kernel_rfl
theorem S4 : Sound Try.prog 4 C4 := fun_sound (E := E4) ⟨good_T (by kernel_rfl), (good_cons S16 ⟨_, Try.func16, by kernel_rfl, by kernel_rfl⟩ (good_cons S18 ⟨_, Try.func18, by kernel_rfl, by kernel_rfl⟩ (good_cons S19 ⟨_, Try.func19, by kernel_rfl, by kernel_rfl⟩ good_nil))), mixedOk⟩ Try.func4 rfl E4_eq
/-- spec.SignalsFor -/
noncomputable def s_SignalsFor (p_p : GPrice) (p_towers : Int) (p_cents : Int) : Option (Int × Bool) :=
  (s_pcPrice p_p).bind fun r1 =>
  (bif (!r1) then
      some true
    else
      (s_l1In p_towers 1 16).bind fun r2 =>
      some (!r2)).bind fun c3 =>
  (bif c3 then
      some true
    else
      (s_pcCents p_cents).bind fun r4 =>
      some (!r4)).bind fun c5 =>
  bif c5 then
    some (0, false)
  else
    (loopE (fun (st7 : Int × Int) => (
        bif (decide (st7.2 ≤ 72)) then
          (s_pcCost p_p (st7.2, p_towers, false, 0, ())).bind fun r8 =>
          bif (decide (r8 ≤ p_cents)) then
            some (.inl (st7.2, (w64 (st7.2 + 1))))
          else
            some (.inl (st7.1, (w64 (st7.2 + 1))))
        else
          some (.inr st7.1) : Option ((Int × Int) ⊕ (Int)))) (0, 1)).bind fun o9 =>
    some (o9, (decide (0 < o9)))
noncomputable def C20 : FnSpec := { ps := [.val TGPrice, .val (.int .i64), .val (.int .i64)], rs := [.val (.int .i64), .val .bool], fn := fun x => s_SignalsFor x.1 x.2.1 x.2.2 }
noncomputable def E20 : Env := { T := [(25, TGPrice), (34, TGSent)], G := [(56, C56), (58, C58), (59, C59), (60, C60)], ro := [3], loops := [(5, { keep := [1, 2, 3], live := [.tv 8 (.int .i64), .tv 9 (.int .i64)], outs := [(.exit 0, [.tv 8 (.int .i64)])] })], joins := [] }
theorem E20_eq : ∀ x, afun E20 Try.f20 C20.ps C20.rs x = C20.fn x := fun x => by kernel_rfl
theorem S20 : Sound Try.prog 20 C20 := fun_sound (E := E20) ⟨good_T (by kernel_rfl), (good_cons S56 ⟨_, Try.func56, by kernel_rfl, by kernel_rfl⟩ (good_cons S58 ⟨_, Try.func58, by kernel_rfl, by kernel_rfl⟩ (good_cons S59 ⟨_, Try.func59, by kernel_rfl, by kernel_rfl⟩ (good_cons S60 ⟨_, Try.func60, by kernel_rfl, by kernel_rfl⟩ good_nil)))), mixedOk⟩ Try.func20 rfl E20_eq
/-- impl.SignalsFor -/
noncomputable def i_SignalsFor (p_p : GPrice) (p_towers : Int) (p_cents : Int) : Option (Int × Bool) :=
  (i_IsPrice p_p).bind fun r1 =>
  (bif (!r1) then
      some true
    else
      (i_within p_towers 1 16).bind fun r2 =>
      some (!r2)).bind fun c3 =>
  (bif c3 then
      some true
    else
      (i_within p_cents 0 1000000).bind fun r4 =>
      some (!r4)).bind fun c5 =>
  bif c5 then
    some (0, false)
  else
    (loopE (fun (st7 : Int) => (
        bif (decide (0 < st7)) then
          (i_priceOf p_p (st7, p_towers, false, 0, ())).bind fun r8 =>
          bif (decide (r8 ≤ p_cents)) then
            some (.inr (.inr (st7, true)))
          else
            some (.inl (w64 (st7 - 1)))
        else
          some (.inr (.inl ())) : Option ((Int) ⊕ (Unit ⊕ (Int × Bool))))) 72).bind fun o9 =>
    match o9 with
    | .inl _ =>
      some (0, false)
    | .inr y11 =>
      some (y11.1, y11.2)
noncomputable def C21 : FnSpec := { ps := [.val TGPrice, .val (.int .i64), .val (.int .i64)], rs := [.val (.int .i64), .val .bool], fn := fun x => i_SignalsFor x.1 x.2.1 x.2.2 }
noncomputable def E21 : Env := { T := [(25, TGPrice), (34, TGSent)], G := [(17, C17), (57, C57), (61, C61)], ro := [3], loops := [(4, { keep := [1, 2, 3], live := [.tv 8 (.int .i64)], outs := [(.exit 0, []), (.ret, [.tv 6 (.int .i64), .tv 7 .bool])] })], joins := [] }
theorem E21_eq : ∀ x, afun E21 Try.f21 C21.ps C21.rs x = C21.fn x := fun x => by kernel_rfl
theorem S21 : Sound Try.prog 21 C21 := fun_sound (E := E21) ⟨good_T (by kernel_rfl), (good_cons S17 ⟨_, Try.func17, by kernel_rfl, by kernel_rfl⟩ (good_cons S57 ⟨_, Try.func57, by kernel_rfl, by kernel_rfl⟩ (good_cons S61 ⟨_, Try.func61, by kernel_rfl, by kernel_rfl⟩ good_nil))), mixedOk⟩ Try.func21 rfl E21_eq
/-- laws.FnExactSignalsFor -/
noncomputable def l_FnExactSignalsFor (p_aP : GPrice) (p_aTowers : Int) (p_aCents : Int) : Option (Bool) :=
  (l_toPrice p_aP).bind fun r1 =>
  (s_SignalsFor r1 p_aTowers p_aCents).bind fun r2 =>
  (l_toPrice p_aP).bind fun r3 =>
  (i_SignalsFor r3 p_aTowers p_aCents).bind fun r4 =>
  (bif (!decide (r4.1 = r2.1)) then
      some true
    else
      some (r4.2 != r2.2)).bind fun c5 =>
  bif c5 then
    some false
  else
    some true
noncomputable def C5 : FnSpec := { ps := [.val TGPrice, .val (.int .i64), .val (.int .i64)], rs := [.val .bool], fn := fun x => l_FnExactSignalsFor x.1 x.2.1 x.2.2 }
noncomputable def E5 : Env := { T := [(4, .bool), (23, TGPrice)], G := [(16, C16), (20, C20), (21, C21)], ro := [3], loops := [], joins := [] }
theorem E5_eq : ∀ x, afun E5 Try.f5 C5.ps C5.rs x = C5.fn x := fun x => by kernel_rfl
theorem S5 : Sound Try.prog 5 C5 := fun_sound (E := E5) ⟨good_T (by kernel_rfl), (good_cons S16 ⟨_, Try.func16, by kernel_rfl, by kernel_rfl⟩ (good_cons S20 ⟨_, Try.func20, by kernel_rfl, by kernel_rfl⟩ (good_cons S21 ⟨_, Try.func21, by kernel_rfl, by kernel_rfl⟩ good_nil))), mixedOk⟩ Try.func5 rfl E5_eq
/-- spec.pcSent -/
noncomputable def s_pcSent (p_x : GSent) : Option (Bool) :=
  (s_l1In p_x.1 1 72).bind fun r1 =>
  (bif r1 then
      (s_l1In p_x.2.1 1 16).bind fun r2 =>
      some r2
    else
      some false).bind fun c3 =>
  (bif c3 then
      (s_l1In p_x.2.2.2.1 0 10000).bind fun r4 =>
      some r4
    else
      some false).bind fun c5 =>
  some c5
noncomputable def C62 : FnSpec := { ps := [.val TGSent], rs := [.val .bool], fn := fun x => s_pcSent x }
noncomputable def E62 : Env := { T := [(3, (.int .i64)), (34, TGSent)], G := [(58, C58)], ro := [1], loops := [], joins := [] }
theorem E62_eq : ∀ x, afun E62 Try.f62 C62.ps C62.rs x = C62.fn x := fun x => by kernel_rfl
theorem S62 : Sound Try.prog 62 C62 := fun_sound (E := E62) ⟨good_T (by kernel_rfl), (good_cons S58 ⟨_, Try.func58, by kernel_rfl, by kernel_rfl⟩ good_nil), mixedOk⟩ Try.func62 rfl E62_eq
/-- spec.PriceOf -/
noncomputable def s_PriceOf (p_p : GPrice) (p_x : GSent) : Option (Int × Bool) :=
  (s_pcPrice p_p).bind fun r1 =>
  (bif (!r1) then
      some true
    else
      (s_pcSent p_x).bind fun r2 =>
      some (!r2)).bind fun c3 =>
  bif c3 then
    some (0, false)
  else
    (s_pcCost p_p p_x).bind fun r4 =>
    some (r4, true)
noncomputable def C22 : FnSpec := { ps := [.val TGPrice, .val TGSent], rs := [.val (.int .i64), .val .bool], fn := fun x => s_PriceOf x.1 x.2 }
noncomputable def E22 : Env := { T := [(25, TGPrice), (34, TGSent)], G := [(56, C56), (60, C60), (62, C62)], ro := [2, 3], loops := [], joins := [] }
theorem E22_eq : ∀ x, afun E22 Try.f22 C22.ps C22.rs x = C22.fn x := fun x => by kernel_rfl
theorem S22 : Sound Try.prog 22 C22 := fun_sound (E := E22) ⟨good_T (by kernel_rfl), (good_cons S56 ⟨_, Try.func56, by kernel_rfl, by kernel_rfl⟩ (good_cons S60 ⟨_, Try.func60, by kernel_rfl, by kernel_rfl⟩ (good_cons S62 ⟨_, Try.func62, by kernel_rfl, by kernel_rfl⟩ good_nil))), mixedOk⟩ Try.func22 rfl E22_eq
/-- laws.toSent -/
noncomputable def l_toSent (p_a : GSent) : Option (GSent) :=
  some p_a
noncomputable def C23 : FnSpec := { ps := [.val TGSent], rs := [.val TGSent], fn := fun x => l_toSent x }
noncomputable def E23 : Env := { T := [(3, (.int .i64)), (4, .bool), (32, TGSent), (34, TGSent)], G := [], ro := [1], loops := [], joins := [] }
theorem E23_eq : ∀ x, afun E23 Try.f23 C23.ps C23.rs x = C23.fn x := fun x => by kernel_rfl
theorem S23 : Sound Try.prog 23 C23 := fun_sound (E := E23) ⟨good_T (by kernel_rfl), good_nil, mixedOk⟩ Try.func23 rfl E23_eq
/-- impl.isSent -/
noncomputable def i_isSent (p_x : GSent) : Option (Bool) :=
  (i_within p_x.1 1 72).bind fun r1 =>
  (bif r1 then
      (i_within p_x.2.1 1 16).bind fun r2 =>
      some r2
    else
      some false).bind fun c3 =>
  (bif c3 then
      (i_within p_x.2.2.2.1 0 10000).bind fun r4 =>
      some r4
    else
      some false).bind fun c5 =>
  some c5
noncomputable def C63 : FnSpec := { ps := [.val TGSent], rs := [.val .bool], fn := fun x => i_isSent x }
noncomputable def E63 : Env := { T := [(3, (.int .i64)), (34, TGSent)], G := [(57, C57)], ro := [1], loops := [], joins := [] }
theorem E63_eq : ∀ x, afun E63 Try.f63 C63.ps C63.rs x = C63.fn x := fun x => by kernel_rfl
theorem S63 : Sound Try.prog 63 C63 := fun_sound (E := E63) ⟨good_T (by kernel_rfl), (good_cons S57 ⟨_, Try.func57, by kernel_rfl, by kernel_rfl⟩ good_nil), mixedOk⟩ Try.func63 rfl E63_eq
/-- impl.PriceOf -/
noncomputable def i_PriceOf (p_p : GPrice) (p_x : GSent) : Option (Int × Bool) :=
  (i_IsPrice p_p).bind fun r1 =>
  (bif (!r1) then
      some true
    else
      (i_isSent p_x).bind fun r2 =>
      some (!r2)).bind fun c3 =>
  bif c3 then
    some (0, false)
  else
    (i_priceOf p_p p_x).bind fun r4 =>
    some (r4, true)
noncomputable def C24 : FnSpec := { ps := [.val TGPrice, .val TGSent], rs := [.val (.int .i64), .val .bool], fn := fun x => i_PriceOf x.1 x.2 }
noncomputable def E24 : Env := { T := [(25, TGPrice), (34, TGSent)], G := [(17, C17), (61, C61), (63, C63)], ro := [2, 3], loops := [], joins := [] }
theorem E24_eq : ∀ x, afun E24 Try.f24 C24.ps C24.rs x = C24.fn x := fun x => by kernel_rfl
theorem S24 : Sound Try.prog 24 C24 := fun_sound (E := E24) ⟨good_T (by kernel_rfl), (good_cons S17 ⟨_, Try.func17, by kernel_rfl, by kernel_rfl⟩ (good_cons S61 ⟨_, Try.func61, by kernel_rfl, by kernel_rfl⟩ (good_cons S63 ⟨_, Try.func63, by kernel_rfl, by kernel_rfl⟩ good_nil))), mixedOk⟩ Try.func24 rfl E24_eq
/-- laws.FnExactPriceOf -/
noncomputable def l_FnExactPriceOf (p_aP : GPrice) (p_aX : GSent) : Option (Bool) :=
  (l_toPrice p_aP).bind fun r1 =>
  (l_toSent p_aX).bind fun r2 =>
  (s_PriceOf r1 r2).bind fun r3 =>
  (l_toPrice p_aP).bind fun r4 =>
  (l_toSent p_aX).bind fun r5 =>
  (i_PriceOf r4 r5).bind fun r6 =>
  (bif (!decide (r6.1 = r3.1)) then
      some true
    else
      some (r6.2 != r3.2)).bind fun c7 =>
  bif c7 then
    some false
  else
    some true
noncomputable def C6 : FnSpec := { ps := [.val TGPrice, .val TGSent], rs := [.val .bool], fn := fun x => l_FnExactPriceOf x.1 x.2 }
noncomputable def E6 : Env := { T := [(4, .bool), (23, TGPrice), (32, TGSent)], G := [(16, C16), (22, C22), (23, C23), (24, C24)], ro := [2, 3], loops := [], joins := [] }
theorem E6_eq : ∀ x, afun E6 Try.f6 C6.ps C6.rs x = C6.fn x := fun x => by kernel_rfl
theorem S6 : Sound Try.prog 6 C6 := fun_sound (E := E6) ⟨good_T (by kernel_rfl), (good_cons S16 ⟨_, Try.func16, by kernel_rfl, by kernel_rfl⟩ (good_cons S22 ⟨_, Try.func22, by kernel_rfl, by kernel_rfl⟩ (good_cons S23 ⟨_, Try.func23, by kernel_rfl, by kernel_rfl⟩ (good_cons S24 ⟨_, Try.func24, by kernel_rfl, by kernel_rfl⟩ good_nil)))), mixedOk⟩ Try.func6 rfl E6_eq
/-- spec.l1Least -/
noncomputable def s_l1Least (p_a : Int) (p_b : Int) : Option (Int) :=
  bif (decide (p_a < p_b)) then
    some p_a
  else
    some p_b
noncomputable def C81 : FnSpec := { ps := [.val (.int .i64), .val (.int .i64)], rs := [.val (.int .i64)], fn := fun x => s_l1Least x.1 x.2 }
noncomputable def E81 : Env := { T := [], G := [], ro := [], loops := [], joins := [] }
theorem E81_eq : ∀ x, afun E81 Try.f81 C81.ps C81.rs x = C81.fn x := fun x => by kernel_rfl
theorem S81 : Sound Try.prog 81 C81 := fun_sound (E := E81) ⟨good_T (by kernel_rfl), good_nil, mixedOk⟩ Try.func81 rfl E81_eq
/-- spec.pcRefund -/
noncomputable def s_pcRefund (p_p : GPrice) (p_x : GSent) : Option (Int) :=
  (s_pcCost p_p p_x).bind fun r1 =>
  (s_l1Least 10 (w64 (Int.tdiv p_x.2.2.2.1 600))).bind fun r2 =>
  some (w64 (Int.tdiv (w64 (r1 * r2)) 10))
noncomputable def C64 : FnSpec := { ps := [.val TGPrice, .val TGSent], rs := [.val (.int .i64)], fn := fun x => s_pcRefund x.1 x.2 }
noncomputable def E64 : Env := { T := [(3, (.int .i64)), (25, TGPrice), (34, TGSent)], G := [(60, C60), (81, C81)], ro := [2, 3], loops := [], joins := [] }
theorem E64_eq : ∀ x, afun E64 Try.f64 C64.ps C64.rs x = C64.fn x := fun x => by kernel_rfl
theorem S64 : Sound Try.prog 64 C64 := fun_sound (E := E64) ⟨good_T (by kernel_rfl), (good_cons S60 ⟨_, Try.func60, by kernel_rfl, by kernel_rfl⟩ (good_cons S81 ⟨_, Try.func81, by kernel_rfl, by kernel_rfl⟩ good_nil)), mixedOk⟩ Try.func64 rfl E64_eq
/-- spec.RefundOf -/
noncomputable def s_RefundOf (p_p : GPrice) (p_x : GSent) : Option (Int × Bool) :=
  (s_pcPrice p_p).bind fun r1 =>
  (bif (!r1) then
      some true
    else
      (s_pcSent p_x).bind fun r2 =>
      some (!r2)).bind fun c3 =>
  bif c3 then
    some (0, false)
  else
    (s_pcRefund p_p p_x).bind fun r4 =>
    some (r4, true)
noncomputable def C25 : FnSpec := { ps := [.val TGPrice, .val TGSent], rs := [.val (.int .i64), .val .bool], fn := fun x => s_RefundOf x.1 x.2 }
noncomputable def E25 : Env := { T := [(25, TGPrice), (34, TGSent)], G := [(56, C56), (62, C62), (64, C64)], ro := [2, 3], loops := [], joins := [] }
theorem E25_eq : ∀ x, afun E25 Try.f25 C25.ps C25.rs x = C25.fn x := fun x => by kernel_rfl
theorem S25 : Sound Try.prog 25 C25 := fun_sound (E := E25) ⟨good_T (by kernel_rfl), (good_cons S56 ⟨_, Try.func56, by kernel_rfl, by kernel_rfl⟩ (good_cons S62 ⟨_, Try.func62, by kernel_rfl, by kernel_rfl⟩ (good_cons S64 ⟨_, Try.func64, by kernel_rfl, by kernel_rfl⟩ good_nil))), mixedOk⟩ Try.func25 rfl E25_eq
/-- impl.refundOf -/
noncomputable def i_refundOf (p_p : GPrice) (p_x : GSent) : Option (Int) :=
  (i_priceOf p_p p_x).bind fun r1 =>
  some (bif decide ((w64 (Int.tdiv (w64 (r1 * (w64 (Int.tdiv p_x.2.2.2.1 600)))) 10)) < r1) then (w64 (Int.tdiv (w64 (r1 * (w64 (Int.tdiv p_x.2.2.2.1 600)))) 10)) else r1)
noncomputable def C65 : FnSpec := { ps := [.val TGPrice, .val TGSent], rs := [.val (.int .i64)], fn := fun x => i_refundOf x.1 x.2 }
noncomputable def E65 : Env := { T := [(3, (.int .i64)), (25, TGPrice), (34, TGSent)], G := [(61, C61)], ro := [2, 3], loops := [], joins := [] }
theorem E65_eq : ∀ x, afun E65 Try.f65 C65.ps C65.rs x = C65.fn x := fun x => by kernel_rfl
theorem S65 : Sound Try.prog 65 C65 := fun_sound (E := E65) ⟨good_T (by kernel_rfl), (good_cons S61 ⟨_, Try.func61, by kernel_rfl, by kernel_rfl⟩ good_nil), mixedOk⟩ Try.func65 rfl E65_eq
/-- impl.RefundOf -/
noncomputable def i_RefundOf (p_p : GPrice) (p_x : GSent) : Option (Int × Bool) :=
  (i_IsPrice p_p).bind fun r1 =>
  (bif (!r1) then
      some true
    else
      (i_isSent p_x).bind fun r2 =>
      some (!r2)).bind fun c3 =>
  bif c3 then
    some (0, false)
  else
    (i_refundOf p_p p_x).bind fun r4 =>
    some (r4, true)
noncomputable def C26 : FnSpec := { ps := [.val TGPrice, .val TGSent], rs := [.val (.int .i64), .val .bool], fn := fun x => i_RefundOf x.1 x.2 }
noncomputable def E26 : Env := { T := [(25, TGPrice), (34, TGSent)], G := [(17, C17), (63, C63), (65, C65)], ro := [2, 3], loops := [], joins := [] }
theorem E26_eq : ∀ x, afun E26 Try.f26 C26.ps C26.rs x = C26.fn x := fun x => by kernel_rfl
theorem S26 : Sound Try.prog 26 C26 := fun_sound (E := E26) ⟨good_T (by kernel_rfl), (good_cons S17 ⟨_, Try.func17, by kernel_rfl, by kernel_rfl⟩ (good_cons S63 ⟨_, Try.func63, by kernel_rfl, by kernel_rfl⟩ (good_cons S65 ⟨_, Try.func65, by kernel_rfl, by kernel_rfl⟩ good_nil))), mixedOk⟩ Try.func26 rfl E26_eq
/-- laws.FnExactRefundOf -/
noncomputable def l_FnExactRefundOf (p_aP : GPrice) (p_aX : GSent) : Option (Bool) :=
  (l_toPrice p_aP).bind fun r1 =>
  (l_toSent p_aX).bind fun r2 =>
  (s_RefundOf r1 r2).bind fun r3 =>
  (l_toPrice p_aP).bind fun r4 =>
  (l_toSent p_aX).bind fun r5 =>
  (i_RefundOf r4 r5).bind fun r6 =>
  (bif (!decide (r6.1 = r3.1)) then
      some true
    else
      some (r6.2 != r3.2)).bind fun c7 =>
  bif c7 then
    some false
  else
    some true
noncomputable def C7 : FnSpec := { ps := [.val TGPrice, .val TGSent], rs := [.val .bool], fn := fun x => l_FnExactRefundOf x.1 x.2 }
noncomputable def E7 : Env := { T := [(4, .bool), (23, TGPrice), (32, TGSent)], G := [(16, C16), (23, C23), (25, C25), (26, C26)], ro := [2, 3], loops := [], joins := [] }
theorem E7_eq : ∀ x, afun E7 Try.f7 C7.ps C7.rs x = C7.fn x := fun x => by kernel_rfl
theorem S7 : Sound Try.prog 7 C7 := fun_sound (E := E7) ⟨good_T (by kernel_rfl), (good_cons S16 ⟨_, Try.func16, by kernel_rfl, by kernel_rfl⟩ (good_cons S23 ⟨_, Try.func23, by kernel_rfl, by kernel_rfl⟩ (good_cons S25 ⟨_, Try.func25, by kernel_rfl, by kernel_rfl⟩ (good_cons S26 ⟨_, Try.func26, by kernel_rfl, by kernel_rfl⟩ good_nil)))), mixedOk⟩ Try.func7 rfl E7_eq
/-- spec.SplitPrice -/
noncomputable def s_SplitPrice (p_p : GPrice) (p_x : GSent) (p_parts : Int) : Option (Int × Bool) :=
  (s_pcPrice p_p).bind fun r1 =>
  (bif (!r1) then
      some true
    else
      (s_pcSent p_x).bind fun r2 =>
      some (!r2)).bind fun c3 =>
  (bif c3 then
      some true
    else
      (s_l1In p_parts 1 9).bind fun r4 =>
      some (!r4)).bind fun c5 =>
  (bif c5 then
      some true
    else
      some (decide (p_x.1 < p_parts))).bind fun c6 =>
  bif c6 then
    some (0, false)
  else
    (loopE (fun (st8 : Int × Int) => (
        bif (decide (st8.2 < p_parts)) then
          bif (!decide (p_parts = 0)) then
            bif (!decide (p_parts = 0)) then
              bif (decide (st8.2 < (Int.tmod p_x.1 p_parts))) then
                (s_pcCost p_p ((w64 ((w64 (Int.tdiv p_x.1 p_parts)) + 1)), p_x.2)).bind fun r9 =>
                some (.inl ((w64 (st8.1 + r9)), (w64 (st8.2 + 1))))
              else
                (s_pcCost p_p ((w64 (Int.tdiv p_x.1 p_parts)), p_x.2)).bind fun r10 =>
                some (.inl ((w64 (st8.1 + r10)), (w64 (st8.2 + 1))))
            else
              none
          else
            none
        else
          some (.inr st8.1) : Option ((Int × Int) ⊕ (Int)))) (0, 0)).bind fun o11 =>
    (s_pcCost p_p p_x).bind fun r12 =>
    some ((w64 (o11 - r12)), true)
noncomputable def C27 : FnSpec := { ps := [.val TGPrice, .val TGSent, .val (.int .i64)], rs := [.val (.int .i64), .val .bool], fn := fun x => s_SplitPrice x.1 x.2.1 x.2.2 }
noncomputable def E27 : Env := { T := [(3, (.int .i64)), (25, TGPrice), (34, TGSent)], G := [(56, C56), (58, C58), (60, C60), (62, C62)], ro := [3, 4], loops := [(5, { keep := [2, 3, 4], live := [.tv 8 (.int .i64), .tv 9 (.int .i64)], outs := [(.exit 0, [.tv 8 (.int .i64)])] })], joins := [] }
theorem E27_eq : ∀ x, afun E27 Try.f27 C27.ps C27.rs x = C27.fn x := fun x => by kernel_rfl
theorem S27 : Sound Try.prog 27 C27 := fun_sound (E := E27) ⟨good_T (by kernel_rfl), (good_cons S56 ⟨_, Try.func56, by kernel_rfl, by kernel_rfl⟩ (good_cons S58 ⟨_, Try.func58, by kernel_rfl, by kernel_rfl⟩ (good_cons S60 ⟨_, Try.func60, by kernel_rfl, by kernel_rfl⟩ (good_cons S62 ⟨_, Try.func62, by kernel_rfl, by kernel_rfl⟩ good_nil)))), mixedOk⟩ Try.func27 rfl E27_eq
/-- impl.SplitPrice -/
noncomputable def i_SplitPrice (p_p : GPrice) (p_x : GSent) (p_parts : Int) : Option (Int × Bool) :=
  (i_IsPrice p_p).bind fun r1 =>
  (bif (!r1) then
      some true
    else
      (i_isSent p_x).bind fun r2 =>
      some (!r2)).bind fun c3 =>
  (bif c3 then
      some true
    else
      (i_within p_parts 1 (bif decide (p_x.1 < 9) then p_x.1 else 9)).bind fun r4 =>
      some (!r4)).bind fun c5 =>
  bif c5 then
    some (0, false)
  else
    (i_priceOf p_p p_x).bind fun r6 =>
    (loopE (fun (st8 : Int × Int) => (
        bif (decide (st8.2 < p_parts)) then
          bif (!decide (p_parts = 0)) then
            bif (!decide (p_parts = 0)) then
              bif (decide (st8.2 < (Int.tmod p_x.1 p_parts))) then
                (i_priceOf p_p ((w64 ((w64 (Int.tdiv p_x.1 p_parts)) + 1)), p_x.2)).bind fun r9 =>
                some (.inl ((w64 (st8.1 + r9)), (w64 (st8.2 + 1))))
              else
                (i_priceOf p_p ((w64 (Int.tdiv p_x.1 p_parts)), p_x.2)).bind fun r10 =>
                some (.inl ((w64 (st8.1 + r10)), (w64 (st8.2 + 1))))
            else
              none
          else
            none
        else
          some (.inr st8.1) : Option ((Int × Int) ⊕ (Int)))) ((w64 (0 - r6)), 0)).bind fun o11 =>
    some (o11, true)
noncomputable def C28 : FnSpec := { ps := [.val TGPrice, .val TGSent, .val (.int .i64)], rs := [.val (.int .i64), .val .bool], fn := fun x => i_SplitPrice x.1 x.2.1 x.2.2 }
noncomputable def E28 : Env := { T := [(3, (.int .i64)), (25, TGPrice), (34, TGSent)], G := [(17, C17), (57, C57), (61, C61), (63, C63)], ro := [3, 4], loops := [(5, { keep := [2, 3, 4, 31], live := [.tv 8 (.int .i64), .tv 32 (.int .i64)], outs := [(.exit 0, [.tv 8 (.int .i64)])] })], joins := [] }
theorem E28_eq : ∀ x, afun E28 Try.f28 C28.ps C28.rs x = C28.fn x := fun x => by kernel_rfl
theorem S28 : Sound Try.prog 28 C28 := fun_sound (E := E28) ⟨good_T (by kernel_rfl), (good_cons S17 ⟨_, Try.func17, by kernel_rfl, by kernel_rfl⟩ (good_cons S57 ⟨_, Try.func57, by kernel_rfl, by kernel_rfl⟩ (good_cons S61 ⟨_, Try.func61, by kernel_rfl, by kernel_rfl⟩ (good_cons S63 ⟨_, Try.func63, by kernel_rfl, by kernel_rfl⟩ good_nil)))), mixedOk⟩ Try.func28 rfl E28_eq
/-- laws.FnExactSplitPrice -/
noncomputable def l_FnExactSplitPrice (p_aP : GPrice) (p_aX : GSent) (p_aParts : Int) : Option (Bool) :=
  (l_toPrice p_aP).bind fun r1 =>
  (l_toSent p_aX).bind fun r2 =>
  (s_SplitPrice r1 r2 p_aParts).bind fun r3 =>
  (l_toPrice p_aP).bind fun r4 =>
  (l_toSent p_aX).bind fun r5 =>
  (i_SplitPrice r4 r5 p_aParts).bind fun r6 =>
  (bif (!decide (r6.1 = r3.1)) then
      some true
    else
      some (r6.2 != r3.2)).bind fun c7 =>
  bif c7 then
    some false
  else
    some true
noncomputable def C8 : FnSpec := { ps := [.val TGPrice, .val TGSent, .val (.int .i64)], rs := [.val .bool], fn := fun x => l_FnExactSplitPrice x.1 x.2.1 x.2.2 }
noncomputable def E8 : Env := { T := [(4, .bool), (23, TGPrice), (32, TGSent)], G := [(16, C16), (23, C23), (27, C27), (28, C28)], ro := [3, 4], loops := [], joins := [] }
theorem E8_eq : ∀ x, afun E8 Try.f8 C8.ps C8.rs x = C8.fn x := fun x => by kernel_rfl
theorem S8 : Sound Try.prog 8 C8 := fun_sound (E := E8) ⟨good_T (by kernel_rfl), (good_cons S16 ⟨_, Try.func16, by kernel_rfl, by kernel_rfl⟩ (good_cons S23 ⟨_, Try.func23, by kernel_rfl, by kernel_rfl⟩ (good_cons S27 ⟨_, Try.func27, by kernel_rfl, by kernel_rfl⟩ (good_cons S28 ⟨_, Try.func28, by kernel_rfl, by kernel_rfl⟩ good_nil)))), mixedOk⟩ Try.func8 rfl E8_eq
end Go.Proofs.Ytbbfieonkkgkkaa.Sh
