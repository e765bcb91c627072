/-
  The functions that the statement reaches, as plain functions; each with its contract.
-/
import Derived.Test.YtbbfieonkkgkkaaXLift
import Derived.Test.YtbbfieonkkgkkaaChecked
import Derived.KernelRfl
namespace Go.Proofs.Ytbbfieonkkgkkaa.Sh
open Go Go.Ab Go.Proofs
set_option maxRecDepth 100000
abbrev TGerrorAddressString : Ty := .pair .str (.pair (.int .u64) .unit)
abbrev GerrorAddressString : Type := Bytes × Int × Unit
abbrev TGl1Cur : Ty := .pair (.slice (.int .u8)) (.pair (.int .i64) (.pair (.int .u64) .unit))
abbrev Gl1Cur : Type := (List Int) × Int × Int × Unit
abbrev TGPhrase : Ty := .pair .str (.pair (.slice (.int .i64)) .unit)
abbrev GPhrase : Type := Bytes × (List Int) × Unit
abbrev TGboundsError : Ty := .pair (.int .i64) (.pair (.int .i64) (.pair .bool (.pair (.int .u8) .unit)))
abbrev GboundsError : Type := Int × Int × Bool × Int × Unit
abbrev TGPrice : Ty := .pair (.int .i64) (.pair (.int .i64) (.pair (.int .i64) (.pair (.int .i64) .unit)))
abbrev GPrice : Type := Int × Int × Int × Int × Unit
abbrev TGSent : Ty := .pair (.int .i64) (.pair (.int .i64) (.pair .bool (.pair (.int .i64) .unit)))
abbrev GSent : Type := Int × Int × Bool × Int × Unit
abbrev TGBook : Ty := .pair (.slice TGPhrase) .unit
abbrev GBook : Type := (List GPhrase) × Unit
theorem mixedOk : Try.prog.follows .mixedOrders = true := by kernel_rfl
/-- laws.szSentS -/
noncomputable def l_szSentS (p_a : List GSent) (p_left : Int) : Option (Int) :=
  bif (decide ((w64 (p_left - (p_a.length : Int))) < 0)) then
    some (-1)
  else
    some (w64 (p_left - (p_a.length : Int)))
noncomputable def C29 : FnSpec := { ps := [.val (.slice TGSent), .val (.int .i64)], rs := [.val (.int .i64)], fn := fun x => l_szSentS x.1 x.2 }
noncomputable def E29 : Env := { T := [(39, (.slice TGSent))], G := [], ro := [], loops := [], joins := [] }
theorem E29_eq : ∀ x, afun E29 Try.f29 C29.ps C29.rs x = C29.fn x := fun x => by kernel_rfl
theorem S29 : Sound Try.prog 29 C29 := fun_sound (E := E29) ⟨good_T (by kernel_rfl), good_nil, mixedOk⟩ Try.func29 rfl E29_eq
/-- spec.l1In -/
noncomputable def s_l1In (p_n : Int) (p_lo : Int) (p_hi : Int) : Option (Bool) :=
  (bif (decide (p_lo ≤ p_n)) then
      some (decide (p_n ≤ p_hi))
    else
      some false).bind fun c1 =>
  some c1
noncomputable def C58 : FnSpec := { ps := [.val (.int .i64), .val (.int .i64), .val (.int .i64)], rs := [.val .bool], fn := fun x => s_l1In x.1 x.2.1 x.2.2 }
noncomputable def E58 : Env := { T := [], G := [], ro := [], loops := [], joins := [] }
theorem E58_eq : ∀ x, afun E58 Try.f58 C58.ps C58.rs x = C58.fn x := fun x => by kernel_rfl
theorem S58 : Sound Try.prog 58 C58 := fun_sound (E := E58) ⟨good_T (by kernel_rfl), good_nil, mixedOk⟩ Try.func58 rfl E58_eq
/-- spec.pcSent -/
noncomputable def s_pcSent (p_x : GSent) : Option (Bool) :=
  (s_l1In p_x.1 1 72).bind fun r1 =>
  (bif r1 then
      (s_l1In p_x.2.1 1 16).bind fun r2 =>
      some r2
    else
      some false).bind fun c3 =>
  (bif c3 then
      (s_l1In p_x.2.2.2.1 0 10000).bind fun r4 =>
      some r4
    else
      some false).bind fun c5 =>
  some c5
noncomputable def C62 : FnSpec := { ps := [.val TGSent], rs := [.val .bool], fn := fun x => s_pcSent x }
noncomputable def E62 : Env := { T := [(3, (.int .i64)), (34, TGSent)], G := [(58, C58)], ro := [1], loops := [], joins := [] }
theorem E62_eq : ∀ x, afun E62 Try.f62 C62.ps C62.rs x = C62.fn x := fun x => by kernel_rfl
theorem S62 : Sound Try.prog 62 C62 := fun_sound (E := E62) ⟨good_T (by kernel_rfl), (good_cons S58 ⟨_, Try.func58, by kernel_rfl, by kernel_rfl⟩ good_nil), mixedOk⟩ Try.func62 rfl E62_eq
/-- spec.pcList -/
noncomputable def s_pcList (p_l : List GSent) : Option (Bool) :=
  (loopE (fun (st2 : Int) => (
      bif (decide (st2 < (p_l.length : Int))) then
        (idx p_l st2).bind fun e3 =>
        (s_pcSent e3).bind fun r4 =>
        bif (!r4) then
          some (.inr (.inr false))
        else
          some (.inl (w64 (st2 + 1)))
      else
        some (.inr (.inl ())) : Option ((Int) ⊕ (Unit ⊕ Bool)))) 0).bind fun o5 =>
  match o5 with
  | .inl _ =>
    some (decide ((p_l.length : Int) ≤ 20))
  | .inr y7 =>
    some y7
noncomputable def C66 : FnSpec := { ps := [.val (.slice TGSent)], rs := [.val .bool], fn := fun x => s_pcList x }
noncomputable def E66 : Env := { T := [(34, TGSent), (42, (.slice TGSent))], G := [(62, C62)], ro := [], loops := [(2, { keep := [0, 5, 6], live := [.tv 7 (.int .i64)], outs := [(.exit 0, []), (.ret, [.tv 2 .bool])] })], joins := [] }
theorem E66_eq : ∀ x, afun E66 Try.f66 C66.ps C66.rs x = C66.fn x := fun x => by kernel_rfl
theorem S66 : Sound Try.prog 66 C66 := fun_sound (E := E66) ⟨good_T (by kernel_rfl), (good_cons S62 ⟨_, Try.func62, by kernel_rfl, by kernel_rfl⟩ good_nil), mixedOk⟩ Try.func66 rfl E66_eq
/-- spec.AreSent -/
noncomputable def s_AreSent (p_l : List GSent) : Option (Bool) :=
  (s_pcList p_l).bind fun r1 =>
  some r1
noncomputable def C30 : FnSpec := { ps := [.val (.slice TGSent)], rs := [.val .bool], fn := fun x => s_AreSent x }
noncomputable def E30 : Env := { T := [], G := [(66, C66)], ro := [], loops := [], joins := [] }
theorem E30_eq : ∀ x, afun E30 Try.f30 C30.ps C30.rs x = C30.fn x := fun x => by kernel_rfl
theorem S30 : Sound Try.prog 30 C30 := fun_sound (E := E30) ⟨good_T (by kernel_rfl), (good_cons S66 ⟨_, Try.func66, by kernel_rfl, by kernel_rfl⟩ good_nil), mixedOk⟩ Try.func30 rfl E30_eq
/-- laws.toSent -/
noncomputable def l_toSent (p_a : GSent) : Option (GSent) :=
  some p_a
noncomputable def C23 : FnSpec := { ps := [.val TGSent], rs := [.val TGSent], fn := fun x => l_toSent x }
noncomputable def E23 : Env := { T := [(3, (.int .i64)), (4, .bool), (32, TGSent), (34, TGSent)], G := [], ro := [1], loops := [], joins := [] }
theorem E23_eq : ∀ x, afun E23 Try.f23 C23.ps C23.rs x = C23.fn x := fun x => by kernel_rfl
theorem S23 : Sound Try.prog 23 C23 := fun_sound (E := E23) ⟨good_T (by kernel_rfl), good_nil, mixedOk⟩ Try.func23 rfl E23_eq
/-- laws.toSentS -/
noncomputable def l_toSentS (p_a : List GSent) : Option ((List GSent)) :=
  bif decide (0 ≤ (p_a.length : Int)) && decide ((p_a.length : Int) ≤ (p_a.length : Int)) && decide ((p_a.length : Int) ≤ lim) then
    (loopE (fun (st2 : (List GSent) × Int) => (
        bif (decide (st2.2 < (p_a.length : Int))) then
          (idx p_a st2.2).bind fun e3 =>
          (l_toSent e3).bind fun r4 =>
          bif decide (0 ≤ st2.2) && decide (st2.2 < (st2.1.length : Int)) then
            some (.inl ((st2.1.set (Int.toNat st2.2) r4), (w64 (st2.2 + 1))))
          else
            none
        else
          some (.inr st2.1) : Option (((List GSent) × Int) ⊕ ((List GSent))))) ((List.replicate (Int.toNat (p_a.length : Int)) ((0, (0, (false, (0, ())))) : GSent)), 0)).bind fun o5 =>
    some o5
  else
    none
noncomputable def C31 : FnSpec := { ps := [.val (.slice TGSent)], rs := [.own (.slice TGSent)], fn := fun x => l_toSentS x }
noncomputable def E31 : Env := { T := [(32, TGSent), (34, TGSent), (39, (.slice TGSent)), (42, (.slice TGSent))], G := [(23, C23)], ro := [], loops := [(3, { keep := [0], live := [.own 3 [] 112 TGSent true, .tv 4 (.int .i64)], outs := [(.exit 0, [.own 3 [] 112 TGSent true])] })], joins := [] }
theorem E31_eq : ∀ x, afun E31 Try.f31 C31.ps C31.rs x = C31.fn x := fun x => by kernel_rfl
theorem S31 : Sound Try.prog 31 C31 := fun_sound (E := E31) ⟨good_T (by kernel_rfl), (good_cons S23 ⟨_, Try.func23, by kernel_rfl, by kernel_rfl⟩ good_nil), mixedOk⟩ Try.func31 rfl E31_eq
/-- impl.within -/
noncomputable def i_within (p_n : Int) (p_low : Int) (p_high : Int) : Option (Bool) :=
  (bif (decide (p_low ≤ p_n)) then
      some (decide (p_n ≤ p_high))
    else
      some false).bind fun c1 =>
  some c1
noncomputable def C57 : FnSpec := { ps := [.val (.int .i64), .val (.int .i64), .val (.int .i64)], rs := [.val .bool], fn := fun x => i_within x.1 x.2.1 x.2.2 }
noncomputable def E57 : Env := { T := [], G := [], ro := [], loops := [], joins := [] }
theorem E57_eq : ∀ x, afun E57 Try.f57 C57.ps C57.rs x = C57.fn x := fun x => by kernel_rfl
theorem S57 : Sound Try.prog 57 C57 := fun_sound (E := E57) ⟨good_T (by kernel_rfl), good_nil, mixedOk⟩ Try.func57 rfl E57_eq
/-- impl.isSent -/
noncomputable def i_isSent (p_x : GSent) : Option (Bool) :=
  (i_within p_x.1 1 72).bind fun r1 =>
  (bif r1 then
      (i_within p_x.2.1 1 16).bind fun r2 =>
      some r2
    else
      some false).bind fun c3 =>
  (bif c3 then
      (i_within p_x.2.2.2.1 0 10000).bind fun r4 =>
      some r4
    else
      some false).bind fun c5 =>
  some c5
noncomputable def C63 : FnSpec := { ps := [.val TGSent], rs := [.val .bool], fn := fun x => i_isSent x }
noncomputable def E63 : Env := { T := [(3, (.int .i64)), (34, TGSent)], G := [(57, C57)], ro := [1], loops := [], joins := [] }
theorem E63_eq : ∀ x, afun E63 Try.f63 C63.ps C63.rs x = C63.fn x := fun x => by kernel_rfl
theorem S63 : Sound Try.prog 63 C63 := fun_sound (E := E63) ⟨good_T (by kernel_rfl), (good_cons S57 ⟨_, Try.func57, by kernel_rfl, by kernel_rfl⟩ good_nil), mixedOk⟩ Try.func63 rfl E63_eq
/-- impl.AreSent$1 -/
noncomputable def i_AreSent_1 (p_x : GSent) : Option (Bool) :=
  (i_isSent p_x).bind fun r1 =>
  some (!r1)
noncomputable def C68 : FnSpec := { ps := [.val TGSent], rs := [.val .bool], fn := fun x => i_AreSent_1 x }
noncomputable def E68 : Env := { T := [(34, TGSent)], G := [(63, C63)], ro := [1], loops := [], joins := [] }
theorem E68_eq : ∀ x, afun E68 Try.f68 C68.ps C68.rs x = C68.fn x := fun x => by kernel_rfl
theorem S68 : Sound Try.prog 68 C68 := fun_sound (E := E68) ⟨good_T (by kernel_rfl), (good_cons S63 ⟨_, Try.func63, by kernel_rfl, by kernel_rfl⟩ good_nil), mixedOk⟩ Try.func68 rfl E68_eq
/-- slices.IndexFunc[[]impl.Sent,impl.Sent] -/
noncomputable def slices_IndexFunc_Sent_68 (p_s : List GSent) : Option (Int) :=
  (loopE (fun (st2 : Int) => (
      bif (decide (st2 < (p_s.length : Int))) then
        (idx p_s st2).bind fun e3 =>
        (i_AreSent_1 e3).bind fun r4 =>
        bif r4 then
          some (.inr (.inr st2))
        else
          some (.inl (w64 (st2 + 1)))
      else
        some (.inr (.inl ())) : Option ((Int) ⊕ (Unit ⊕ Int)))) 0).bind fun o5 =>
  match o5 with
  | .inl _ =>
    some (-1)
  | .inr y7 =>
    some y7
noncomputable def C82_68 : FnSpec := { ps := [.val (.slice TGSent), .fn 68 []], rs := [.val (.int .i64)], fn := fun x => slices_IndexFunc_Sent_68 x.1 }
noncomputable def E82_68 : Env := { T := [(34, TGSent), (42, (.slice TGSent))], G := [(68, C68)], ro := [], loops := [(2, { keep := [0, 1, 7], live := [.tv 8 (.int .i64)], outs := [(.exit 0, []), (.ret, [.tv 4 (.int .i64)])] })], joins := [] }
theorem E82_68_eq : ∀ x, afun E82_68 Try.f82 C82_68.ps C82_68.rs x = C82_68.fn x := fun x => by kernel_rfl
theorem S82_68 : Sound Try.prog 82 C82_68 := fun_sound (E := E82_68) ⟨good_T (by kernel_rfl), (good_cons S68 ⟨_, Try.func68, by kernel_rfl, by kernel_rfl⟩ good_nil), mixedOk⟩ Try.func82 rfl E82_68_eq
/-- slices.ContainsFunc[[]impl.Sent,impl.Sent] -/
noncomputable def slices_ContainsFunc_Sent_68 (p_s : List GSent) : Option (Bool) :=
  (slices_IndexFunc_Sent_68 p_s).bind fun r1 =>
  some (decide (0 ≤ r1))
noncomputable def C67_68 : FnSpec := { ps := [.val (.slice TGSent), .fn 68 []], rs := [.val .bool], fn := fun x => slices_ContainsFunc_Sent_68 x.1 }
noncomputable def E67_68 : Env := { T := [], G := [(82, C82_68)], ro := [], loops := [], joins := [] }
theorem E67_68_eq : ∀ x, afun E67_68 Try.f67 C67_68.ps C67_68.rs x = C67_68.fn x := fun x => by kernel_rfl
theorem S67_68 : Sound Try.prog 67 C67_68 := fun_sound (E := E67_68) ⟨good_T (by kernel_rfl), (good_cons S82_68 ⟨_, Try.func82, by kernel_rfl, by kernel_rfl⟩ good_nil), mixedOk⟩ Try.func67 rfl E67_68_eq
/-- impl.AreSent -/
noncomputable def i_AreSent (p_l : List GSent) : Option (Bool) :=
  (bif (decide ((p_l.length : Int) ≤ 20)) then
      (slices_ContainsFunc_Sent_68 p_l).bind fun r1 =>
      some (!r1)
    else
      some false).bind fun c2 =>
  some c2
noncomputable def C32 : FnSpec := { ps := [.val (.slice TGSent)], rs := [.val .bool], fn := fun x => i_AreSent x }
noncomputable def E32 : Env := { T := [(42, (.slice TGSent))], G := [(67, C67_68)], ro := [], loops := [], joins := [] }
theorem E32_eq : ∀ x, afun E32 Try.f32 C32.ps C32.rs x = C32.fn x := fun x => by kernel_rfl
theorem S32 : Sound Try.prog 32 C32 := fun_sound (E := E32) ⟨good_T (by kernel_rfl), (good_cons S67_68 ⟨_, Try.func67, by kernel_rfl, by kernel_rfl⟩ good_nil), mixedOk⟩ Try.func32 rfl E32_eq
/-- laws.eqSent -/
noncomputable def l_eqSent (p_a : GSent) (p_b : GSent) : Option (Bool) :=
  bif (!decide (p_a.1 = p_b.1)) then
    some false
  else
    bif (!decide (p_a.2.1 = p_b.2.1)) then
      some false
    else
      bif (p_a.2.2.1 != p_b.2.2.1) then
        some false
      else
        bif (!decide (p_a.2.2.2.1 = p_b.2.2.2.1)) then
          some false
        else
          some true
noncomputable def C69 : FnSpec := { ps := [.val TGSent, .val TGSent], rs := [.val .bool], fn := fun x => l_eqSent x.1 x.2 }
noncomputable def E69 : Env := { T := [(3, (.int .i64)), (4, .bool), (34, TGSent)], G := [], ro := [2, 3], loops := [], joins := [] }
theorem E69_eq : ∀ x, afun E69 Try.f69 C69.ps C69.rs x = C69.fn x := fun x => by kernel_rfl
theorem S69 : Sound Try.prog 69 C69 := fun_sound (E := E69) ⟨good_T (by kernel_rfl), good_nil, mixedOk⟩ Try.func69 rfl E69_eq
/-- laws.eqSentS -/
noncomputable def l_eqSentS (p_a : List GSent) (p_b : List GSent) : Option (Bool) :=
  bif (!decide ((p_a.length : Int) = (p_b.length : Int))) then
    some false
  else
    (loopE (fun (st2 : Int) => (
        bif (decide (st2 < (p_a.length : Int))) then
          (idx p_a st2).bind fun e3 =>
          (idx p_b st2).bind fun e4 =>
          (l_eqSent e3 e4).bind fun r5 =>
          bif (!r5) then
            some (.inr (.inr false))
          else
            some (.inl (w64 (st2 + 1)))
        else
          some (.inr (.inl ())) : Option ((Int) ⊕ (Unit ⊕ Bool)))) 0).bind fun o6 =>
    match o6 with
    | .inl _ =>
      some true
    | .inr y8 =>
      some y8
noncomputable def C33 : FnSpec := { ps := [.val (.slice TGSent), .val (.slice TGSent)], rs := [.val .bool], fn := fun x => l_eqSentS x.1 x.2 }
noncomputable def E33 : Env := { T := [(34, TGSent), (42, (.slice TGSent))], G := [(69, C69)], ro := [], loops := [(4, { keep := [0, 1], live := [.tv 5 (.int .i64)], outs := [(.exit 0, []), (.ret, [.tv 4 .bool])] })], joins := [] }
theorem E33_eq : ∀ x, afun E33 Try.f33 C33.ps C33.rs x = C33.fn x := fun x => by kernel_rfl
theorem S33 : Sound Try.prog 33 C33 := fun_sound (E := E33) ⟨good_T (by kernel_rfl), (good_cons S69 ⟨_, Try.func69, by kernel_rfl, by kernel_rfl⟩ good_nil), mixedOk⟩ Try.func33 rfl E33_eq
/-- laws.FnExactAreSent -/
noncomputable def l_FnExactAreSent (p_aL : List GSent) : Option (Bool) :=
  (l_szSentS p_aL 1048576).bind fun r1 =>
  bif (decide (r1 < 0)) then
    some true
  else
    (l_toSentS p_aL).bind fun r2 =>
    (s_AreSent r2).bind fun r3 =>
    (l_toSentS p_aL).bind fun r4 =>
    (i_AreSent r4).bind fun r5 =>
    bif (r5 != r3) then
      some false
    else
      (l_toSentS p_aL).bind fun r6 =>
      (l_eqSentS r4 r6).bind fun r7 =>
      bif (!r7) then
        some false
      else
        some true
noncomputable def C9 : FnSpec := { ps := [.val (.slice TGSent)], rs := [.val .bool], fn := fun x => l_FnExactAreSent x }
noncomputable def E9 : Env := { T := [(4, .bool)], G := [(29, C29), (30, C30), (31, C31), (32, C32), (33, C33)], ro := [], loops := [], joins := [] }
theorem E9_eq : ∀ x, afun E9 Try.f9 C9.ps C9.rs x = C9.fn x := fun x => by kernel_rfl
theorem S9 : Sound Try.prog 9 C9 := fun_sound (E := E9) ⟨good_T (by kernel_rfl), (good_cons S29 ⟨_, Try.func29, by kernel_rfl, by kernel_rfl⟩ (good_cons S30 ⟨_, Try.func30, by kernel_rfl, by kernel_rfl⟩ (good_cons S31 ⟨_, Try.func31, by kernel_rfl, by kernel_rfl⟩ (good_cons S32 ⟨_, Try.func32, by kernel_rfl, by kernel_rfl⟩ (good_cons S33 ⟨_, Try.func33, by kernel_rfl, by kernel_rfl⟩ good_nil))))), mixedOk⟩ Try.func9 rfl E9_eq
/-- laws.toPrice -/
noncomputable def l_toPrice (p_a : GPrice) : Option (GPrice) :=
  some p_a
noncomputable def C16 : FnSpec := { ps := [.val TGPrice], rs := [.val TGPrice], fn := fun x => l_toPrice x }
noncomputable def E16 : Env := { T := [(3, (.int .i64)), (23, TGPrice), (25, TGPrice)], G := [], ro := [1], loops := [], joins := [] }
theorem E16_eq : ∀ x, afun E16 Try.f16 C16.ps C16.rs x = C16.fn x := fun x => by kernel_rfl
theorem S16 : Sound Try.prog 16 C16 := fun_sound (E := E16) ⟨good_T (by kernel_rfl), good_nil, mixedOk⟩ Try.func16 rfl E16_eq
/-- spec.pcPrice -/
noncomputable def s_pcPrice (p_p : GPrice) : Option (Bool) :=
  (s_l1In p_p.1 0 10000).bind fun r1 =>
  (bif r1 then
      (s_l1In p_p.2.1 0 100).bind fun r2 =>
      some r2
    else
      some false).bind fun c3 =>
  (bif c3 then
      (s_l1In p_p.2.2.1 0 1000).bind fun r4 =>
      some r4
    else
      some false).bind fun c5 =>
  (bif c5 then
      (s_l1In p_p.2.2.2.1 0 200).bind fun r6 =>
      some r6
    else
      some false).bind fun c7 =>
  some c7
noncomputable def C56 : FnSpec := { ps := [.val TGPrice], rs := [.val .bool], fn := fun x => s_pcPrice x }
noncomputable def E56 : Env := { T := [(3, (.int .i64)), (25, TGPrice)], G := [(58, C58)], ro := [1], loops := [], joins := [] }
theorem E56_eq : ∀ x, afun E56 Try.f56 C56.ps C56.rs x = C56.fn x := fun x => by kernel_rfl
theorem S56 : Sound Try.prog 56 C56 := fun_sound (E := E56) ⟨good_T (by kernel_rfl), (good_cons S58 ⟨_, Try.func58, by kernel_rfl, by kernel_rfl⟩ good_nil), mixedOk⟩ Try.func56 rfl E56_eq
/-- spec.pcCost -/
noncomputable def s_pcCost (p_p : GPrice) (p_x : GSent) : Option (Int) :=
  bif p_x.2.2.1 then
    some (w64 ((w64 ((w64 (p_p.1 + (w64 ((w64 (p_p.2.1 * p_x.1)) * p_x.2.1)))) + (w64 (p_p.2.2.1 * p_x.2.1)))) + (w64 (Int.tdiv (w64 ((w64 ((w64 (p_p.1 + (w64 ((w64 (p_p.2.1 * p_x.1)) * p_x.2.1)))) + (w64 (p_p.2.2.1 * p_x.2.1)))) * p_p.2.2.2.1)) 100))))
  else
    some (w64 ((w64 (p_p.1 + (w64 ((w64 (p_p.2.1 * p_x.1)) * p_x.2.1)))) + (w64 (p_p.2.2.1 * p_x.2.1))))
noncomputable def C60 : FnSpec := { ps := [.val TGPrice, .val TGSent], rs := [.val (.int .i64)], fn := fun x => s_pcCost x.1 x.2 }
noncomputable def E60 : Env := { T := [(3, (.int .i64)), (4, .bool), (25, TGPrice), (34, TGSent)], G := [], ro := [2, 3], loops := [], joins := [] }
theorem E60_eq : ∀ x, afun E60 Try.f60 C60.ps C60.rs x = C60.fn x := fun x => by kernel_rfl
theorem S60 : Sound Try.prog 60 C60 := fun_sound (E := E60) ⟨good_T (by kernel_rfl), good_nil, mixedOk⟩ Try.func60 rfl E60_eq
/-- spec.DearestOf -/
noncomputable def s_DearestOf (p_p : GPrice) (p_l : List GSent) : Option (Int × Bool) :=
  (s_pcPrice p_p).bind fun r1 =>
  (bif (!r1) then
      some true
    else
      (s_pcList p_l).bind fun r2 =>
      some (!r2)).bind fun c3 =>
  (bif c3 then
      some true
    else
      some (decide ((p_l.length : Int) = 0))).bind fun c4 =>
  bif c4 then
    some (0, false)
  else
    (loopE (fun (st6 : Int × Int) => (
        bif (decide (st6.2 < (p_l.length : Int))) then
          (idx p_l st6.2).bind fun e7 =>
          (s_pcCost p_p e7).bind fun r8 =>
          (idx p_l st6.1).bind fun e9 =>
          (s_pcCost p_p e9).bind fun r10 =>
          bif (decide (r10 < r8)) then
            some (.inl (st6.2, (w64 (st6.2 + 1))))
          else
            some (.inl (st6.1, (w64 (st6.2 + 1))))
        else
          some (.inr st6.1) : Option ((Int × Int) ⊕ (Int)))) (0, 0)).bind fun o11 =>
    some (o11, true)
noncomputable def C34 : FnSpec := { ps := [.val TGPrice, .val (.slice TGSent)], rs := [.val (.int .i64), .val .bool], fn := fun x => s_DearestOf x.1 x.2 }
noncomputable def E34 : Env := { T := [(25, TGPrice), (34, TGSent), (42, (.slice TGSent))], G := [(56, C56), (60, C60), (66, C66)], ro := [2], loops := [(5, { keep := [1, 2, 22, 23], live := [.tv 6 (.int .i64), .tv 24 (.int .i64)], outs := [(.exit 0, [.tv 6 (.int .i64)])] })], joins := [] }
theorem E34_eq : ∀ x, afun E34 Try.f34 C34.ps C34.rs x = C34.fn x := fun x => by kernel_rfl
theorem S34 : Sound Try.prog 34 C34 := fun_sound (E := E34) ⟨good_T (by kernel_rfl), (good_cons S56 ⟨_, Try.func56, by kernel_rfl, by kernel_rfl⟩ (good_cons S60 ⟨_, Try.func60, by kernel_rfl, by kernel_rfl⟩ (good_cons S66 ⟨_, Try.func66, by kernel_rfl, by kernel_rfl⟩ good_nil))), mixedOk⟩ Try.func34 rfl E34_eq
/-- impl.IsPrice -/
noncomputable def i_IsPrice (p_p : GPrice) : Option (Bool) :=
  (i_within p_p.1 0 10000).bind fun r1 =>
  (bif r1 then
      (i_within p_p.2.1 0 100).bind fun r2 =>
      some r2
    else
      some false).bind fun c3 =>
  (bif c3 then
      (i_within p_p.2.2.1 0 1000).bind fun r4 =>
      some r4
    else
      some false).bind fun c5 =>
  (bif c5 then
      (i_within p_p.2.2.2.1 0 200).bind fun r6 =>
      some r6
    else
      some false).bind fun c7 =>
  some c7
noncomputable def C17 : FnSpec := { ps := [.val TGPrice], rs := [.val .bool], fn := fun x => i_IsPrice x }
noncomputable def E17 : Env := { T := [(3, (.int .i64)), (25, TGPrice)], G := [(57, C57)], ro := [1], loops := [], joins := [] }
theorem E17_eq : ∀ x, afun E17 Try.f17 C17.ps C17.rs x = C17.fn x := fun x => by kernel_rfl
theorem S17 : Sound Try.prog 17 C17 := fun_sound (E := E17) ⟨good_T (by kernel_rfl), (good_cons S57 ⟨_, Try.func57, by kernel_rfl, by kernel_rfl⟩ good_nil), mixedOk⟩ Try.func17 rfl E17_eq
/-- impl.priceOf -/
noncomputable def i_priceOf (p_p : GPrice) (p_x : GSent) : Option (Int) :=
  bif p_x.2.2.1 then
    some (w64 ((w64 ((w64 (p_p.1 + (w64 ((w64 (p_p.2.1 * p_x.1)) * p_x.2.1)))) + (w64 (p_p.2.2.1 * p_x.2.1)))) + (w64 (Int.tdiv (w64 ((w64 ((w64 (p_p.1 + (w64 ((w64 (p_p.2.1 * p_x.1)) * p_x.2.1)))) + (w64 (p_p.2.2.1 * p_x.2.1)))) * p_p.2.2.2.1)) 100))))
  else
    some (w64 ((w64 (p_p.1 + (w64 ((w64 (p_p.2.1 * p_x.1)) * p_x.2.1)))) + (w64 (p_p.2.2.1 * p_x.2.1))))
noncomputable def C61 : FnSpec := { ps := [.val TGPrice, .val TGSent], rs := [.val (.int .i64)], fn := fun x => i_priceOf x.1 x.2 }
noncomputable def E61 : Env := { T := [(3, (.int .i64)), (4, .bool), (25, TGPrice), (34, TGSent)], G := [], ro := [2, 3], loops := [], joins := [] }
theorem E61_eq : ∀ x, afun E61 Try.f61 C61.ps C61.rs x = C61.fn x := fun x => by kernel_rfl
theorem S61 : Sound Try.prog 61 C61 := fun_sound (E := E61) ⟨good_T (by kernel_rfl), good_nil, mixedOk⟩ Try.func61 rfl E61_eq
/-- impl.DearestOf -/
noncomputable def i_DearestOf (p_p : GPrice) (p_l : List GSent) : Option (Int × Bool) :=
  (i_IsPrice p_p).bind fun r1 =>
  (bif (!r1) then
      some true
    else
      (i_AreSent p_l).bind fun r2 =>
      some (!r2)).bind fun c3 =>
  (bif c3 then
      some true
    else
      some (decide ((p_l.length : Int) = 0))).bind fun c4 =>
  bif c4 then
    some (0, false)
  else
    (loopE (fun (st6 : Int × Int × Int) => (
        bif (decide (st6.2.2 < (p_l.length : Int))) then
          (idx p_l st6.2.2).bind fun e7 =>
          (i_priceOf p_p e7).bind fun r8 =>
          bif (decide (st6.2.1 < r8)) then
            some (.inl (st6.2.2, r8, (w64 (st6.2.2 + 1))))
          else
            some (.inl (st6.1, st6.2.1, (w64 (st6.2.2 + 1))))
        else
          some (.inr st6.1) : Option ((Int × Int × Int) ⊕ (Int)))) (0, (-1), 0)).bind fun o9 =>
    some (o9, true)
noncomputable def C35 : FnSpec := { ps := [.val TGPrice, .val (.slice TGSent)], rs := [.val (.int .i64), .val .bool], fn := fun x => i_DearestOf x.1 x.2 }
noncomputable def E35 : Env := { T := [(25, TGPrice), (34, TGSent), (42, (.slice TGSent))], G := [(17, C17), (32, C32), (61, C61)], ro := [2], loops := [(5, { keep := [2, 24, 25], live := [.tv 6 (.int .i64), .tv 7 (.int .i64), .tv 26 (.int .i64)], outs := [(.exit 0, [.tv 6 (.int .i64)])] })], joins := [] }
theorem E35_eq : ∀ x, afun E35 Try.f35 C35.ps C35.rs x = C35.fn x := fun x => by kernel_rfl
theorem S35 : Sound Try.prog 35 C35 := fun_sound (E := E35) ⟨good_T (by kernel_rfl), (good_cons S17 ⟨_, Try.func17, by kernel_rfl, by kernel_rfl⟩ (good_cons S32 ⟨_, Try.func32, by kernel_rfl, by kernel_rfl⟩ (good_cons S61 ⟨_, Try.func61, by kernel_rfl, by kernel_rfl⟩ good_nil))), mixedOk⟩ Try.func35 rfl E35_eq
/-- laws.FnExactDearestOf -/
noncomputable def l_FnExactDearestOf (p_aP : GPrice) (p_aL : List GSent) : Option (Bool) :=
  (l_szSentS p_aL 1048576).bind fun r1 =>
  bif (decide (r1 < 0)) then
    some true
  else
    (l_toPrice p_aP).bind fun r2 =>
    (l_toSentS p_aL).bind fun r3 =>
    (s_DearestOf r2 r3).bind fun r4 =>
    (l_toSentS p_aL).bind fun r5 =>
    (l_toPrice p_aP).bind fun r6 =>
    (i_DearestOf r6 r5).bind fun r7 =>
    (bif (!decide (r7.1 = r4.1)) then
        some true
      else
        some (r7.2 != r4.2)).bind fun c8 =>
    bif c8 then
      some false
    else
      (l_toSentS p_aL).bind fun r9 =>
      (l_eqSentS r5 r9).bind fun r10 =>
      bif (!r10) then
        some false
      else
        some true
noncomputable def C10 : FnSpec := { ps := [.val TGPrice, .val (.slice TGSent)], rs := [.val .bool], fn := fun x => l_FnExactDearestOf x.1 x.2 }
noncomputable def E10 : Env := { T := [(4, .bool), (23, TGPrice)], G := [(16, C16), (29, C29), (31, C31), (33, C33), (34, C34), (35, C35)], ro := [2], loops := [], joins := [] }
theorem E10_eq : ∀ x, afun E10 Try.f10 C10.ps C10.rs x = C10.fn x := fun x => by kernel_rfl
theorem S10 : Sound Try.prog 10 C10 := fun_sound (E := E10) ⟨good_T (by kernel_rfl), (good_cons S16 ⟨_, Try.func16, by kernel_rfl, by kernel_rfl⟩ (good_cons S29 ⟨_, Try.func29, by kernel_rfl, by kernel_rfl⟩ (good_cons S31 ⟨_, Try.func31, by kernel_rfl, by kernel_rfl⟩ (good_cons S33 ⟨_, Try.func33, by kernel_rfl, by kernel_rfl⟩ (good_cons S34 ⟨_, Try.func34, by kernel_rfl, by kernel_rfl⟩ (good_cons S35 ⟨_, Try.func35, by kernel_rfl, by kernel_rfl⟩ good_nil)))))), mixedOk⟩ Try.func10 rfl E10_eq
/-- spec.l1Least -/
noncomputable def s_l1Least (p_a : Int) (p_b : Int) : Option (Int) :=
  bif (decide (p_a < p_b)) then
    some p_a
  else
    some p_b
noncomputable def C81 : FnSpec := { ps := [.val (.int .i64), .val (.int .i64)], rs := [.val (.int .i64)], fn := fun x => s_l1Least x.1 x.2 }
noncomputable def E81 : Env := { T := [], G := [], ro := [], loops := [], joins := [] }
theorem E81_eq : ∀ x, afun E81 Try.f81 C81.ps C81.rs x = C81.fn x := fun x => by kernel_rfl
theorem S81 : Sound Try.prog 81 C81 := fun_sound (E := E81) ⟨good_T (by kernel_rfl), good_nil, mixedOk⟩ Try.func81 rfl E81_eq
/-- spec.pcRefund -/
noncomputable def s_pcRefund (p_p : GPrice) (p_x : GSent) : Option (Int) :=
  (s_pcCost p_p p_x).bind fun r1 =>
  (s_l1Least 10 (w64 (Int.tdiv p_x.2.2.2.1 600))).bind fun r2 =>
  some (w64 (Int.tdiv (w64 (r1 * r2)) 10))
noncomputable def C64 : FnSpec := { ps := [.val TGPrice, .val TGSent], rs := [.val (.int .i64)], fn := fun x => s_pcRefund x.1 x.2 }
noncomputable def E64 : Env := { T := [(3, (.int .i64)), (25, TGPrice), (34, TGSent)], G := [(60, C60), (81, C81)], ro := [2, 3], loops := [], joins := [] }
theorem E64_eq : ∀ x, afun E64 Try.f64 C64.ps C64.rs x = C64.fn x := fun x => by kernel_rfl
theorem S64 : Sound Try.prog 64 C64 := fun_sound (E := E64) ⟨good_T (by kernel_rfl), (good_cons S60 ⟨_, Try.func60, by kernel_rfl, by kernel_rfl⟩ (good_cons S81 ⟨_, Try.func81, by kernel_rfl, by kernel_rfl⟩ good_nil)), mixedOk⟩ Try.func64 rfl E64_eq
/-- spec.BillOf -/
noncomputable def s_BillOf (p_p : GPrice) (p_l : List GSent) : Option (Int × Int × Bool) :=
  (s_pcPrice p_p).bind fun r1 =>
  (bif (!r1) then
      some true
    else
      (s_pcList p_l).bind fun r2 =>
      some (!r2)).bind fun c3 =>
  bif c3 then
    some (0, 0, false)
  else
    (loopE (fun (st5 : Int × Int × Int) => (
        bif (decide (st5.2.2 < (p_l.length : Int))) then
          (idx p_l st5.2.2).bind fun e6 =>
          (s_pcCost p_p e6).bind fun r7 =>
          (s_pcRefund p_p e6).bind fun r8 =>
          some (.inl ((w64 (st5.1 + r7)), (w64 (st5.2.1 + r8)), (w64 (st5.2.2 + 1))))
        else
          some (.inr (st5.1, st5.2.1)) : Option ((Int × Int × Int) ⊕ ((Int × Int))))) (0, 0, 0)).bind fun o9 =>
    some (o9.1, o9.2, true)
noncomputable def C36 : FnSpec := { ps := [.val TGPrice, .val (.slice TGSent)], rs := [.val (.int .i64), .val (.int .i64), .val .bool], fn := fun x => s_BillOf x.1 x.2 }
noncomputable def E36 : Env := { T := [(25, TGPrice), (34, TGSent), (42, (.slice TGSent))], G := [(56, C56), (60, C60), (64, C64), (66, C66)], ro := [2], loops := [(5, { keep := [2, 19, 20], live := [.tv 7 (.int .i64), .tv 8 (.int .i64), .tv 21 (.int .i64)], outs := [(.exit 0, [.tv 7 (.int .i64), .tv 8 (.int .i64)])] })], joins := [] }
theorem E36_eq : ∀ x, afun E36 Try.f36 C36.ps C36.rs x = C36.fn x := fun x => by kernel_rfl
theorem S36 : Sound Try.prog 36 C36 := fun_sound (E := E36) ⟨good_T (by kernel_rfl), (good_cons S56 ⟨_, Try.func56, by kernel_rfl, by kernel_rfl⟩ (good_cons S60 ⟨_, Try.func60, by kernel_rfl, by kernel_rfl⟩ (good_cons S64 ⟨_, Try.func64, by kernel_rfl, by kernel_rfl⟩ (good_cons S66 ⟨_, Try.func66, by kernel_rfl, by kernel_rfl⟩ good_nil)))), mixedOk⟩ Try.func36 rfl E36_eq
/-- impl.refundOf -/
noncomputable def i_refundOf (p_p : GPrice) (p_x : GSent) : Option (Int) :=
  (i_priceOf p_p p_x).bind fun r1 =>
  some (bif decide ((w64 (Int.tdiv (w64 (r1 * (w64 (Int.tdiv p_x.2.2.2.1 600)))) 10)) < r1) then (w64 (Int.tdiv (w64 (r1 * (w64 (Int.tdiv p_x.2.2.2.1 600)))) 10)) else r1)
noncomputable def C65 : FnSpec := { ps := [.val TGPrice, .val TGSent], rs := [.val (.int .i64)], fn := fun x => i_refundOf x.1 x.2 }
noncomputable def E65 : Env := { T := [(3, (.int .i64)), (25, TGPrice), (34, TGSent)], G := [(61, C61)], ro := [2, 3], loops := [], joins := [] }
theorem E65_eq : ∀ x, afun E65 Try.f65 C65.ps C65.rs x = C65.fn x := fun x => by kernel_rfl
theorem S65 : Sound Try.prog 65 C65 := fun_sound (E := E65) ⟨good_T (by kernel_rfl), (good_cons S61 ⟨_, Try.func61, by kernel_rfl, by kernel_rfl⟩ good_nil), mixedOk⟩ Try.func65 rfl E65_eq
/-- impl.BillOf -/
noncomputable def i_BillOf (p_p : GPrice) (p_l : List GSent) : Option (Int × Int × Bool) :=
  (i_IsPrice p_p).bind fun r1 =>
  (bif (!r1) then
      some true
    else
      (i_AreSent p_l).bind fun r2 =>
      some (!r2)).bind fun c3 =>
  bif c3 then
    some (0, 0, false)
  else
    (loopE (fun (st5 : Int × Int × Int) => (
        bif (decide (st5.2.2 < (p_l.length : Int))) then
          (idx p_l st5.2.2).bind fun e6 =>
          (i_priceOf p_p e6).bind fun r7 =>
          (i_refundOf p_p e6).bind fun r8 =>
          some (.inl ((w64 (st5.1 + r7)), (w64 (st5.2.1 + r8)), (w64 (st5.2.2 + 1))))
        else
          some (.inr (st5.1, st5.2.1)) : Option ((Int × Int × Int) ⊕ ((Int × Int))))) (0, 0, 0)).bind fun o9 =>
    some (o9.1, o9.2, true)
noncomputable def C37 : FnSpec := { ps := [.val TGPrice, .val (.slice TGSent)], rs := [.val (.int .i64), .val (.int .i64), .val .bool], fn := fun x => i_BillOf x.1 x.2 }
noncomputable def E37 : Env := { T := [(25, TGPrice), (34, TGSent), (42, (.slice TGSent))], G := [(17, C17), (32, C32), (61, C61), (65, C65)], ro := [2], loops := [(5, { keep := [2, 19, 20], live := [.tv 7 (.int .i64), .tv 8 (.int .i64), .tv 21 (.int .i64)], outs := [(.exit 0, [.tv 7 (.int .i64), .tv 8 (.int .i64)])] })], joins := [] }
theorem E37_eq : ∀ x, afun E37 Try.f37 C37.ps C37.rs x = C37.fn x := fun x => by kernel_rfl
theorem S37 : Sound Try.prog 37 C37 := fun_sound (E := E37) ⟨good_T (by kernel_rfl), (good_cons S17 ⟨_, Try.func17, by kernel_rfl, by kernel_rfl⟩ (good_cons S32 ⟨_, Try.func32, by kernel_rfl, by kernel_rfl⟩ (good_cons S61 ⟨_, Try.func61, by kernel_rfl, by kernel_rfl⟩ (good_cons S65 ⟨_, Try.func65, by kernel_rfl, by kernel_rfl⟩ good_nil)))), mixedOk⟩ Try.func37 rfl E37_eq
/-- laws.FnExactBillOf -/
noncomputable def l_FnExactBillOf (p_aP : GPrice) (p_aL : List GSent) : Option (Bool) :=
  (l_szSentS p_aL 1048576).bind fun r1 =>
  bif (decide (r1 < 0)) then
    some true
  else
    (l_toPrice p_aP).bind fun r2 =>
    (l_toSentS p_aL).bind fun r3 =>
    (s_BillOf r2 r3).bind fun r4 =>
    (l_toSentS p_aL).bind fun r5 =>
    (l_toPrice p_aP).bind fun r6 =>
    (i_BillOf r6 r5).bind fun r7 =>
    (bif (!decide (r7.1 = r4.1)) then
        some true
      else
        some (!decide (r7.2.1 = r4.2.1))).bind fun c8 =>
    (bif c8 then
        some true
      else
        some (r7.2.2 != r4.2.2)).bind fun c9 =>
    bif c9 then
      some false
    else
      (l_toSentS p_aL).bind fun r10 =>
      (l_eqSentS r5 r10).bind fun r11 =>
      bif (!r11) then
        some false
      else
        some true
noncomputable def C11 : FnSpec := { ps := [.val TGPrice, .val (.slice TGSent)], rs := [.val .bool], fn := fun x => l_FnExactBillOf x.1 x.2 }
noncomputable def E11 : Env := { T := [(4, .bool), (23, TGPrice)], G := [(16, C16), (29, C29), (31, C31), (33, C33), (36, C36), (37, C37)], ro := [2], loops := [], joins := [] }
theorem E11_eq : ∀ x, afun E11 Try.f11 C11.ps C11.rs x = C11.fn x := fun x => by kernel_rfl
theorem S11 : Sound Try.prog 11 C11 := fun_sound (E := E11) ⟨good_T (by kernel_rfl), (good_cons S16 ⟨_, Try.func16, by kernel_rfl, by kernel_rfl⟩ (good_cons S29 ⟨_, Try.func29, by kernel_rfl, by kernel_rfl⟩ (good_cons S31 ⟨_, Try.func31, by kernel_rfl, by kernel_rfl⟩ (good_cons S33 ⟨_, Try.func33, by kernel_rfl, by kernel_rfl⟩ (good_cons S36 ⟨_, Try.func36, by kernel_rfl, by kernel_rfl⟩ (good_cons S37 ⟨_, Try.func37, by kernel_rfl, by kernel_rfl⟩ good_nil)))))), mixedOk⟩ Try.func11 rfl E11_eq
/-- spec.l1Sign -/
noncomputable def s_l1Sign (p_n : Int) : Option (Int) :=
  bif (decide (0 < p_n)) then
    some 1
  else
    bif (decide (p_n < 0)) then
      some (-1)
    else
      some 0
noncomputable def C70 : FnSpec := { ps := [.val (.int .i64)], rs := [.val (.int .i64)], fn := fun x => s_l1Sign x }
noncomputable def E70 : Env := { T := [], G := [], ro := [], loops := [], joins := [] }
theorem E70_eq : ∀ x, afun E70 Try.f70 C70.ps C70.rs x = C70.fn x := fun x => by kernel_rfl
theorem S70 : Sound Try.prog 70 C70 := fun_sound (E := E70) ⟨good_T (by kernel_rfl), good_nil, mixedOk⟩ Try.func70 rfl E70_eq
/-- spec.ComparePrices -/
noncomputable def s_ComparePrices (p_a : GPrice) (p_b : GPrice) (p_l : List GSent) : Option ((List Int) × Bool) :=
  (s_pcPrice p_a).bind fun r1 =>
  (bif (!r1) then
      some true
    else
      (s_pcPrice p_b).bind fun r2 =>
      some (!r2)).bind fun c3 =>
  (bif c3 then
      some true
    else
      (s_pcList p_l).bind fun r4 =>
      some (!r4)).bind fun c5 =>
  bif c5 then
    some ([], false)
  else
    (loopE (fun (st7 : (List Int) × Int) => (
        bif (decide (st7.2 < (p_l.length : Int))) then
          (idx p_l st7.2).bind fun e8 =>
          (s_pcCost p_a e8).bind fun r9 =>
          (s_pcCost p_b e8).bind fun r10 =>
          (s_l1Sign (w64 (r9 - r10))).bind fun r11 =>
          bif decide (List.length st7.1 + List.length [r11] ≤ lim) then
            some (.inl ((st7.1 ++ [r11]), (w64 (st7.2 + 1))))
          else
            none
        else
          some (.inr st7.1) : Option (((List Int) × Int) ⊕ ((List Int))))) ([], 0)).bind fun o12 =>
    some (o12, true)
noncomputable def C38 : FnSpec := { ps := [.val TGPrice, .val TGPrice, .val (.slice TGSent)], rs := [.own (.slice (.int .i64)), .val .bool], fn := fun x => s_ComparePrices x.1 x.2.1 x.2.2 }
noncomputable def E38 : Env := { T := [(25, TGPrice), (34, TGSent), (42, (.slice TGSent)), (50, (.slice (.int .i64)))], G := [(56, C56), (60, C60), (66, C66), (70, C70)], ro := [3, 4], loops := [(5, { keep := [3, 4, 24, 25], live := [.own 8 [] 200008 (.int .i64) true, .tv 26 (.int .i64)], outs := [(.exit 0, [.own 8 [] 200008 (.int .i64) true])] })], joins := [] }
theorem E38_eq : ∀ x, afun E38 Try.f38 C38.ps C38.rs x = C38.fn x := fun x => by kernel_rfl
theorem S38 : Sound Try.prog 38 C38 := fun_sound (E := E38) ⟨good_T (by kernel_rfl), (good_cons S56 ⟨_, Try.func56, by kernel_rfl, by kernel_rfl⟩ (good_cons S60 ⟨_, Try.func60, by kernel_rfl, by kernel_rfl⟩ (good_cons S66 ⟨_, Try.func66, by kernel_rfl, by kernel_rfl⟩ (good_cons S70 ⟨_, Try.func70, by kernel_rfl, by kernel_rfl⟩ good_nil)))), mixedOk⟩ Try.func38 rfl E38_eq
/-- cmp.isNaN[int] -/
noncomputable def cmp_isNaN_int (p_x : Int) : Option (Bool) :=
  some (!decide (p_x = p_x))
noncomputable def C83 : FnSpec := { ps := [.val (.int .i64)], rs := [.val .bool], fn := fun x => cmp_isNaN_int x }
noncomputable def E83 : Env := { T := [], G := [], ro := [], loops := [], joins := [] }
theorem E83_eq : ∀ x, afun E83 Try.f83 C83.ps C83.rs x = C83.fn x := fun x => by kernel_rfl
theorem S83 : Sound Try.prog 83 C83 := fun_sound (E := E83) ⟨good_T (by kernel_rfl), good_nil, mixedOk⟩ Try.func83 rfl E83_eq
/-- cmp.Compare[int] -/
noncomputable def cmp_Compare_int (p_x : Int) (p_y : Int) : Option (Int) :=
  (cmp_isNaN_int p_x).bind fun r1 =>
  (cmp_isNaN_int p_y).bind fun r2 =>
  bif r1 then
    bif r2 then
      some 0
    else
      some (-1)
  else
    bif r2 then
      some 1
    else
      bif (decide (p_x < p_y)) then
        some (-1)
      else
        bif (decide (p_y < p_x)) then
          some 1
        else
          some 0
noncomputable def C71 : FnSpec := { ps := [.val (.int .i64), .val (.int .i64)], rs := [.val (.int .i64)], fn := fun x => cmp_Compare_int x.1 x.2 }
noncomputable def E71 : Env := { T := [], G := [(83, C83)], ro := [], loops := [], joins := [] }
theorem E71_eq : ∀ x, afun E71 Try.f71 C71.ps C71.rs x = C71.fn x := fun x => by kernel_rfl
theorem S71 : Sound Try.prog 71 C71 := fun_sound (E := E71) ⟨good_T (by kernel_rfl), (good_cons S83 ⟨_, Try.func83, by kernel_rfl, by kernel_rfl⟩ good_nil), mixedOk⟩ Try.func71 rfl E71_eq
/-- impl.ComparePrices -/
noncomputable def i_ComparePrices (p_a : GPrice) (p_b : GPrice) (p_l : List GSent) : Option ((List Int) × Bool) :=
  (i_IsPrice p_a).bind fun r1 =>
  (bif (!r1) then
      some true
    else
      (i_IsPrice p_b).bind fun r2 =>
      some (!r2)).bind fun c3 =>
  (bif c3 then
      some true
    else
      (i_AreSent p_l).bind fun r4 =>
      some (!r4)).bind fun c5 =>
  bif c5 then
    some ([], false)
  else
    (loopE (fun (st7 : (List Int) × Int) => (
        bif (decide (st7.2 < (p_l.length : Int))) then
          (idx p_l st7.2).bind fun e8 =>
          (i_priceOf p_a e8).bind fun r9 =>
          (i_priceOf p_b e8).bind fun r10 =>
          (cmp_Compare_int r9 r10).bind fun r11 =>
          bif decide (List.length st7.1 + List.length [r11] ≤ lim) then
            some (.inl ((st7.1 ++ [r11]), (w64 (st7.2 + 1))))
          else
            none
        else
          some (.inr st7.1) : Option (((List Int) × Int) ⊕ ((List Int))))) ([], 0)).bind fun o12 =>
    some (o12, true)
noncomputable def C39 : FnSpec := { ps := [.val TGPrice, .val TGPrice, .val (.slice TGSent)], rs := [.own (.slice (.int .i64)), .val .bool], fn := fun x => i_ComparePrices x.1 x.2.1 x.2.2 }
noncomputable def E39 : Env := { T := [(25, TGPrice), (34, TGSent), (42, (.slice TGSent)), (50, (.slice (.int .i64)))], G := [(17, C17), (32, C32), (61, C61), (71, C71)], ro := [3, 4], loops := [(5, { keep := [3, 4, 24, 25], live := [.own 8 [] 200008 (.int .i64) true, .tv 26 (.int .i64)], outs := [(.exit 0, [.own 8 [] 200008 (.int .i64) true])] })], joins := [] }
theorem E39_eq : ∀ x, afun E39 Try.f39 C39.ps C39.rs x = C39.fn x := fun x => by kernel_rfl
theorem S39 : Sound Try.prog 39 C39 := fun_sound (E := E39) ⟨good_T (by kernel_rfl), (good_cons S17 ⟨_, Try.func17, by kernel_rfl, by kernel_rfl⟩ (good_cons S32 ⟨_, Try.func32, by kernel_rfl, by kernel_rfl⟩ (good_cons S61 ⟨_, Try.func61, by kernel_rfl, by kernel_rfl⟩ (good_cons S71 ⟨_, Try.func71, by kernel_rfl, by kernel_rfl⟩ good_nil)))), mixedOk⟩ Try.func39 rfl E39_eq
/-- laws.eqIntS -/
noncomputable def l_eqIntS (p_a : List Int) (p_b : List Int) : Option (Bool) :=
  bif (!decide ((p_a.length : Int) = (p_b.length : Int))) then
    some false
  else
    (loopE (fun (st2 : Int) => (
        bif (decide (st2 < (p_a.length : Int))) then
          (idx p_a st2).bind fun e3 =>
          (idx p_b st2).bind fun e4 =>
          bif (!decide (e3 = e4)) then
            some (.inr (.inr false))
          else
            some (.inl (w64 (st2 + 1)))
        else
          some (.inr (.inl ())) : Option ((Int) ⊕ (Unit ⊕ Bool)))) 0).bind fun o5 =>
    match o5 with
    | .inl _ =>
      some true
    | .inr y7 =>
      some y7
noncomputable def C40 : FnSpec := { ps := [.val (.slice (.int .i64)), .val (.slice (.int .i64))], rs := [.val .bool], fn := fun x => l_eqIntS x.1 x.2 }
noncomputable def E40 : Env := { T := [(3, (.int .i64)), (50, (.slice (.int .i64)))], G := [], ro := [], loops := [(4, { keep := [0, 1], live := [.tv 5 (.int .i64)], outs := [(.exit 0, []), (.ret, [.tv 4 .bool])] })], joins := [] }
theorem E40_eq : ∀ x, afun E40 Try.f40 C40.ps C40.rs x = C40.fn x := fun x => by kernel_rfl
theorem S40 : Sound Try.prog 40 C40 := fun_sound (E := E40) ⟨good_T (by kernel_rfl), good_nil, mixedOk⟩ Try.func40 rfl E40_eq
/-- laws.markSentS -/
noncomputable def l_markSentS (p_a : List GSent) (p_k : Int) : Option ((List GSent) × Int) :=
  (loopE (fun (st2 : (List GSent) × Int × Int) => (
      bif (decide (st2.2.2 < (st2.1.length : Int))) then
        bif decide (0 ≤ st2.2.2) && decide (st2.2.2 < (st2.1.length : Int)) then
          (st2.1[(Int.toNat st2.2.2)]?).bind fun e3 =>
          bif decide (0 ≤ st2.2.2) && decide (st2.2.2 < ((st2.1.set (Int.toNat st2.2.2) (st2.2.1, e3.2)).length : Int)) then
            ((st2.1.set (Int.toNat st2.2.2) (st2.2.1, e3.2))[(Int.toNat st2.2.2)]?).bind fun e4 =>
            bif decide (0 ≤ st2.2.2) && decide (st2.2.2 < (((st2.1.set (Int.toNat st2.2.2) (st2.2.1, e3.2)).set (Int.toNat st2.2.2) (e4.1, (w64 (st2.2.1 + 1)), e4.2.2)).length : Int)) then
              (((st2.1.set (Int.toNat st2.2.2) (st2.2.1, e3.2)).set (Int.toNat st2.2.2) (e4.1, (w64 (st2.2.1 + 1)), e4.2.2))[(Int.toNat st2.2.2)]?).bind fun e5 =>
              bif decide (0 ≤ st2.2.2) && decide (st2.2.2 < ((((st2.1.set (Int.toNat st2.2.2) (st2.2.1, e3.2)).set (Int.toNat st2.2.2) (e4.1, (w64 (st2.2.1 + 1)), e4.2.2)).set (Int.toNat st2.2.2) (e5.1, e5.2.1, (decide ((Int.tmod (w64 ((w64 (st2.2.1 + 1)) + 1)) 3) = 0)), e5.2.2.2)).length : Int)) then
                ((((st2.1.set (Int.toNat st2.2.2) (st2.2.1, e3.2)).set (Int.toNat st2.2.2) (e4.1, (w64 (st2.2.1 + 1)), e4.2.2)).set (Int.toNat st2.2.2) (e5.1, e5.2.1, (decide ((Int.tmod (w64 ((w64 (st2.2.1 + 1)) + 1)) 3) = 0)), e5.2.2.2))[(Int.toNat st2.2.2)]?).bind fun e6 =>
                some (.inl (((((st2.1.set (Int.toNat st2.2.2) (st2.2.1, e3.2)).set (Int.toNat st2.2.2) (e4.1, (w64 (st2.2.1 + 1)), e4.2.2)).set (Int.toNat st2.2.2) (e5.1, e5.2.1, (decide ((Int.tmod (w64 ((w64 (st2.2.1 + 1)) + 1)) 3) = 0)), e5.2.2.2)).set (Int.toNat st2.2.2) (e6.1, e6.2.1, e6.2.2.1, (w64 ((w64 ((w64 (st2.2.1 + 1)) + 1)) + 1)), ())), (w64 ((w64 ((w64 ((w64 (st2.2.1 + 1)) + 1)) + 1)) + 1)), (w64 (st2.2.2 + 1))))
              else
                none
            else
              none
          else
            none
        else
          none
      else
        some (.inr (st2.1, st2.2.1)) : Option (((List GSent) × Int × Int) ⊕ (((List GSent) × Int))))) (p_a, p_k, 0)).bind fun o7 =>
  some (o7.1, o7.2)
noncomputable def C41 : FnSpec := { ps := [.own (.slice TGSent), .val (.int .i64)], rs := [.val (.int .i64)], fn := fun x => l_markSentS x.1 x.2 }
noncomputable def E41 : Env := { T := [(3, (.int .i64)), (4, .bool), (34, TGSent), (42, (.slice TGSent))], G := [], ro := [], loops := [(2, { keep := [], live := [.own 0 [] 100000 TGSent true, .tv 1 (.int .i64), .tv 5 (.int .i64)], outs := [(.exit 0, [.own 0 [] 100000 TGSent true, .tv 1 (.int .i64)])] })], joins := [] }
theorem E41_eq : ∀ x, afun E41 Try.f41 C41.ps C41.rs x = C41.fn x := fun x => by kernel_rfl
theorem S41 : Sound Try.prog 41 C41 := fun_sound_own (E := E41) ⟨good_T (by kernel_rfl), good_nil, mixedOk⟩ Try.func41 rfl rfl E41_eq
/-- laws.markIntS -/
noncomputable def l_markIntS (p_a : List Int) (p_k : Int) : Option ((List Int) × Int) :=
  (loopE (fun (st2 : (List Int) × Int × Int) => (
      bif (decide (st2.2.2 < (st2.1.length : Int))) then
        bif decide (0 ≤ st2.2.2) && decide (st2.2.2 < (st2.1.length : Int)) then
          some (.inl ((st2.1.set (Int.toNat st2.2.2) st2.2.1), (w64 (st2.2.1 + 1)), (w64 (st2.2.2 + 1))))
        else
          none
      else
        some (.inr (st2.1, st2.2.1)) : Option (((List Int) × Int × Int) ⊕ (((List Int) × Int))))) (p_a, p_k, 0)).bind fun o3 =>
  some (o3.1, o3.2)
noncomputable def C42 : FnSpec := { ps := [.own (.slice (.int .i64)), .val (.int .i64)], rs := [.val (.int .i64)], fn := fun x => l_markIntS x.1 x.2 }
noncomputable def E42 : Env := { T := [(3, (.int .i64)), (50, (.slice (.int .i64)))], G := [], ro := [], loops := [(2, { keep := [], live := [.own 0 [] 100000 (.int .i64) true, .tv 1 (.int .i64), .tv 5 (.int .i64)], outs := [(.exit 0, [.own 0 [] 100000 (.int .i64) true, .tv 1 (.int .i64)])] })], joins := [] }
theorem E42_eq : ∀ x, afun E42 Try.f42 C42.ps C42.rs x = C42.fn x := fun x => by kernel_rfl
theorem S42 : Sound Try.prog 42 C42 := fun_sound_own (E := E42) ⟨good_T (by kernel_rfl), good_nil, mixedOk⟩ Try.func42 rfl rfl E42_eq
/-- laws.heldIntS -/
noncomputable def l_heldIntS (p_a : List Int) (p_k : Int) : Option (Int) :=
  (loopE (fun (st2 : Int × Int) => (
      bif (decide (st2.2 < (p_a.length : Int))) then
        (idx p_a st2.2).bind fun e3 =>
        bif (!decide (e3 = st2.1)) then
          some (.inr (.inr (-1)))
        else
          some (.inl ((w64 (st2.1 + 1)), (w64 (st2.2 + 1))))
      else
        some (.inr (.inl st2.1)) : Option ((Int × Int) ⊕ (Int ⊕ Int)))) (p_k, 0)).bind fun o4 =>
  match o4 with
  | .inl x5 =>
    some x5
  | .inr y6 =>
    some y6
noncomputable def C43 : FnSpec := { ps := [.val (.slice (.int .i64)), .val (.int .i64)], rs := [.val (.int .i64)], fn := fun x => l_heldIntS x.1 x.2 }
noncomputable def E43 : Env := { T := [(3, (.int .i64)), (50, (.slice (.int .i64)))], G := [], ro := [], loops := [(2, { keep := [0], live := [.tv 1 (.int .i64), .tv 5 (.int .i64)], outs := [(.exit 0, [.tv 1 (.int .i64)]), (.ret, [.tv 4 (.int .i64)])] })], joins := [] }
theorem E43_eq : ∀ x, afun E43 Try.f43 C43.ps C43.rs x = C43.fn x := fun x => by kernel_rfl
theorem S43 : Sound Try.prog 43 C43 := fun_sound (E := E43) ⟨good_T (by kernel_rfl), good_nil, mixedOk⟩ Try.func43 rfl E43_eq
/-- laws.FnExactComparePrices -/
noncomputable def l_FnExactComparePrices (p_aA : GPrice) (p_a1 : GPrice) (p_a2 : List GSent) : Option (Bool) :=
  (l_szSentS p_a2 1048576).bind fun r1 =>
  bif (decide (r1 < 0)) then
    some true
  else
    (l_toPrice p_aA).bind fun r2 =>
    (l_toPrice p_a1).bind fun r3 =>
    (l_toSentS p_a2).bind fun r4 =>
    (s_ComparePrices r2 r3 r4).bind fun r5 =>
    (l_toSentS p_a2).bind fun r6 =>
    (l_toPrice p_aA).bind fun r7 =>
    (l_toPrice p_a1).bind fun r8 =>
    (i_ComparePrices r7 r8 r6).bind fun r9 =>
    (l_eqIntS r9.1 r5.1).bind fun r10 =>
    (bif (!r10) then
        some true
      else
        some (r9.2 != r5.2)).bind fun c11 =>
    bif c11 then
      some false
    else
      (l_toSentS p_a2).bind fun r12 =>
      (l_eqSentS r6 r12).bind fun r13 =>
      bif (!r13) then
        some false
      else
        (l_markSentS r6 1).bind fun r14 =>
        (bif (decide (r14.2 < 0)) then
            some true
          else
            (l_eqIntS r9.1 r5.1).bind fun r15 =>
            some (!r15)).bind fun c16 =>
        (bif c16 then
            some true
          else
            some (r9.2 != r5.2)).bind fun c17 =>
        bif c17 then
          some false
        else
          (l_markIntS r9.1 1).bind fun r18 =>
          (l_heldIntS r18.1 1).bind fun r19 =>
          bif (decide (r19 < 0)) then
            some false
          else
            bif (!decide (r19 = r18.2)) then
              some false
            else
              (l_toPrice p_aA).bind fun r20 =>
              (l_toPrice p_a1).bind fun r21 =>
              (l_toSentS p_a2).bind fun r22 =>
              (i_ComparePrices r20 r21 r22).bind fun r23 =>
              (l_eqIntS r23.1 r5.1).bind fun r24 =>
              (bif (!r24) then
                  some true
                else
                  some (r23.2 != r5.2)).bind fun c25 =>
              bif c25 then
                some false
              else
                (l_heldIntS r18.1 1).bind fun r26 =>
                bif (decide (r26 < 0)) then
                  some false
                else
                  bif (!decide (r26 = r18.2)) then
                    some false
                  else
                    some true
noncomputable def C12 : FnSpec := { ps := [.val TGPrice, .val TGPrice, .val (.slice TGSent)], rs := [.val .bool], fn := fun x => l_FnExactComparePrices x.1 x.2.1 x.2.2 }
noncomputable def E12 : Env := { T := [(4, .bool), (23, TGPrice)], G := [(16, C16), (29, C29), (31, C31), (33, C33), (38, C38), (39, C39), (40, C40), (41, C41), (42, C42), (43, C43)], ro := [3, 4], loops := [], joins := [] }
theorem E12_eq : ∀ x, afun E12 Try.f12 C12.ps C12.rs x = C12.fn x := fun x => by kernel_rfl
theorem S12 : Sound Try.prog 12 C12 := fun_sound (E := E12) ⟨good_T (by kernel_rfl), (good_cons S16 ⟨_, Try.func16, by kernel_rfl, by kernel_rfl⟩ (good_cons S29 ⟨_, Try.func29, by kernel_rfl, by kernel_rfl⟩ (good_cons S31 ⟨_, Try.func31, by kernel_rfl, by kernel_rfl⟩ (good_cons S33 ⟨_, Try.func33, by kernel_rfl, by kernel_rfl⟩ (good_cons S38 ⟨_, Try.func38, by kernel_rfl, by kernel_rfl⟩ (good_cons S39 ⟨_, Try.func39, by kernel_rfl, by kernel_rfl⟩ (good_cons S40 ⟨_, Try.func40, by kernel_rfl, by kernel_rfl⟩ (good_cons S41 ⟨_, Try.func41, by kernel_rfl, by kernel_rfl⟩ (good_cons S42 ⟨_, Try.func42, by kernel_rfl, by kernel_rfl⟩ (good_cons S43 ⟨_, Try.func43, by kernel_rfl, by kernel_rfl⟩ good_nil)))))))))), mixedOk⟩ Try.func12 rfl E12_eq
end Go.Proofs.Ytbbfieonkkgkkaa.Sh
