/-
  The functions that the statement reaches, as plain functions; each with its contract.
-/
import Derived.Test.YtbncfclmobcmeaaDoorXLift
import Derived.Test.YtbncfclmobcmeaaDoorChecked
import Derived.KernelRfl
import Derived.Test.YtbncfclmobcmeaaDoorJBase
namespace Go.Proofs.YtbncfclmobcmeaaDoor.Sh
open Go Go.Ab Go.Proofs
set_option maxRecDepth 100000
abbrev TGerrorAddressString : Ty := .pair .str (.pair (.int .u64) .unit)
abbrev GerrorAddressString : Type := Bytes × Int × Unit
abbrev TGacceptRange : Ty := .pair (.int .u8) (.pair (.int .u8) .unit)
abbrev GacceptRange : Type := Int × Int × Unit
abbrev TGboundsError : Ty := .pair (.int .i64) (.pair (.int .i64) (.pair .bool (.pair (.int .u8) .unit)))
abbrev GboundsError : Type := Int × Int × Bool × Int × Unit
theorem mixedOk : Tryd.prog.follows .mixedOrders = true := by kernel_rfl
/-- spec.l1Split -/
noncomputable def s_l1Split (p_s : Bytes) (p_b : Int) : Option ((List Bytes)) :=
  (loopE (fun (st2 : (List Bytes) × Int × Int) => (
      bif (decide (st2.2.2 < (p_s.length : Int))) then
        (idx p_s st2.2.2).bind fun b3 =>
        bif (decide ((b3.toNat : Int) = p_b)) then
          (sub p_s st2.2.1 st2.2.2).bind fun l4 =>
          bif decide (List.length st2.1 + List.length [l4] ≤ lim) then
            some (.inl ((st2.1 ++ [l4]), (w64 (st2.2.2 + 1)), (w64 (st2.2.2 + 1))))
          else
            none
        else
          some (.inl (st2.1, st2.2.1, (w64 (st2.2.2 + 1))))
      else
        some (.inr (st2.1, st2.2.1)) : Option (((List Bytes) × Int × Int) ⊕ (((List Bytes) × Int))))) ([], 0, 0)).bind fun o5 =>
  (sub p_s o5.2 (p_s.length : Int)).bind fun l6 =>
  bif decide (List.length o5.1 + List.length [l6] ≤ lim) then
    some (o5.1 ++ [l6])
  else
    none
noncomputable def C8 : FnSpec := { ps := [.val .str, .val (.int .u8)], rs := [.own (.slice .str)], fn := fun x => s_l1Split x.1 x.2 }
noncomputable def E8 : Env := { T := [(9, .str), (25, (.slice .str))], G := [], ro := [], loops := [(4, { keep := [0, 1], live := [.own 5 [] 200005 .str true, .tv 6 (.int .i64), .tv 7 (.int .i64)], outs := [(.exit 0, [.own 5 [] 200005 .str true, .tv 6 (.int .i64)])] })], joins := [] }
theorem E8_eq : ∀ x, afun E8 Tryd.f8 C8.ps C8.rs x = C8.fn x := fun x => by kernel_rfl
theorem S8 : Sound Tryd.prog 8 C8 := fun_sound (E := E8) ⟨good_T (by kernel_rfl), good_nil, mixedOk, ins_nil⟩ Tryd.func8 rfl E8_eq
/-- spec.csLines -/
noncomputable def s_csLines (p_script : Bytes) : Option ((List Bytes) × Bool) :=
  (bif (decide (2000 < (p_script.length : Int))) then
      some true
    else
      (bif (!decide (p_script = [])) then
          (idx p_script (w64 ((p_script.length : Int) - 1))).bind fun b1 =>
          some (!decide ((b1.toNat : Int) = 10))
        else
          some false).bind fun c2 =>
      some c2).bind fun c3 =>
  bif c3 then
    some ([], false)
  else
    (s_l1Split p_script 10).bind fun r4 =>
    (sub r4 0 (w64 ((r4.length : Int) - 1))).bind fun l5 =>
    bif (decide (40 < (l5.length : Int))) then
      some ([], false)
    else
      some (l5, true)
noncomputable def C6 : FnSpec := { ps := [.val .str], rs := [.val (.slice .str), .val .bool], fn := fun x => s_csLines x }
noncomputable def E6 : Env := { T := [(9, .str), (25, (.slice .str))], G := [(8, C8)], ro := [], loops := [], joins := [], pre := [(4, [336])] }
theorem E6_eq : ∀ x, afun E6 Tryd.f6 C6.ps C6.rs x = C6.fn x := fun x => by kernel_rfl
theorem S6 : Sound Tryd.prog 6 C6 := fun_sound (E := E6) ⟨good_T (by kernel_rfl), (good_cons S8 ⟨_, Tryd.func8, by kernel_rfl, by kernel_rfl⟩ good_nil), mixedOk, ins_nil⟩ Tryd.func6 rfl E6_eq
/-- spec.JoinScripts -/
noncomputable def s_JoinScripts (p_a : Bytes) (p_b : Bytes) : Option (Bytes × Bool) :=
  (s_csLines p_a).bind fun r1 =>
  (s_csLines p_b).bind fun r2 =>
  bif decide (List.length p_a + List.length p_b ≤ lim) then
    (s_csLines (p_a ++ p_b)).bind fun r3 =>
    (bif (!r1.2) then
        some true
      else
        some (!r2.2)).bind fun c4 =>
    (bif c4 then
        some true
      else
        some (!r3.2)).bind fun c5 =>
    bif c5 then
      some ([], false)
    else
      bif decide (List.length p_a + List.length p_b ≤ lim) then
        some ((p_a ++ p_b), true)
      else
        none
  else
    none
noncomputable def C4 : FnSpec := { ps := [.val .str, .val .str], rs := [.val .str, .val .bool], fn := fun x => s_JoinScripts x.1 x.2 }
noncomputable def E4 : Env := { T := [], G := [(6, C6)], ro := [], loops := [], joins := [] }
theorem E4_eq : ∀ x, afun E4 Tryd.f4 C4.ps C4.rs x = C4.fn x := fun x => by kernel_rfl
theorem S4 : Sound Tryd.prog 4 C4 := fun_sound (E := E4) ⟨good_T (by kernel_rfl), (good_cons S6 ⟨_, Tryd.func6, by kernel_rfl, by kernel_rfl⟩ good_nil), mixedOk, ins_nil⟩ Tryd.func4 rfl E4_eq
/-- internal/stringslite.HasSuffix -/
noncomputable def internal_stringslite_HasSuffix (p_s : Bytes) (p_suffix : Bytes) : Option (Bool) :=
  (bif (decide ((p_suffix.length : Int) ≤ (p_s.length : Int))) then
      (sub p_s (w64 ((p_s.length : Int) - (p_suffix.length : Int))) (p_s.length : Int)).bind fun l1 =>
      some (decide (l1 = p_suffix))
    else
      some false).bind fun c2 =>
  some c2
noncomputable def C14 : FnSpec := { ps := [.val .str, .val .str], rs := [.val .bool], fn := fun x => internal_stringslite_HasSuffix x.1 x.2 }
noncomputable def E14 : Env := { T := [(9, .str)], G := [], ro := [], loops := [], joins := [] }
theorem E14_eq : ∀ x, afun E14 Tryd.f14 C14.ps C14.rs x = C14.fn x := fun x => by kernel_rfl
theorem S14 : Sound Tryd.prog 14 C14 := fun_sound (E := E14) ⟨good_T (by kernel_rfl), good_nil, mixedOk, ins_nil⟩ Tryd.func14 rfl E14_eq
/-- internal/stringslite.CutSuffix -/
noncomputable def internal_stringslite_CutSuffix (p_s : Bytes) (p_suffix : Bytes) : Option (Bytes × Bool) :=
  (internal_stringslite_HasSuffix p_s p_suffix).bind fun r1 =>
  bif (!r1) then
    some (p_s, false)
  else
    (sub p_s 0 (w64 ((p_s.length : Int) - (p_suffix.length : Int)))).bind fun l2 =>
    some (l2, true)
noncomputable def C12 : FnSpec := { ps := [.val .str, .val .str], rs := [.val .str, .val .bool], fn := fun x => internal_stringslite_CutSuffix x.1 x.2 }
noncomputable def E12 : Env := { T := [(9, .str)], G := [(14, C14)], ro := [], loops := [], joins := [] }
theorem E12_eq : ∀ x, afun E12 Tryd.f12 C12.ps C12.rs x = C12.fn x := fun x => by kernel_rfl
theorem S12 : Sound Tryd.prog 12 C12 := fun_sound (E := E12) ⟨good_T (by kernel_rfl), (good_cons S14 ⟨_, Tryd.func14, by kernel_rfl, by kernel_rfl⟩ good_nil), mixedOk, ins_nil⟩ Tryd.func12 rfl E12_eq
/-- strings.CutSuffix -/
noncomputable def strings_CutSuffix (p_s : Bytes) (p_suffix : Bytes) : Option (Bytes × Bool) :=
  (internal_stringslite_CutSuffix p_s p_suffix).bind fun r1 =>
  some (r1.1, r1.2)
noncomputable def C10 : FnSpec := { ps := [.val .str, .val .str], rs := [.val .str, .val .bool], fn := fun x => strings_CutSuffix x.1 x.2 }
noncomputable def E10 : Env := { T := [], G := [(12, C12)], ro := [], loops := [], joins := [] }
theorem E10_eq : ∀ x, afun E10 Tryd.f10 C10.ps C10.rs x = C10.fn x := fun x => by kernel_rfl
theorem S10 : Sound Tryd.prog 10 C10 := fun_sound (E := E10) ⟨good_T (by kernel_rfl), (good_cons S12 ⟨_, Tryd.func12, by kernel_rfl, by kernel_rfl⟩ good_nil), mixedOk, ins_nil⟩ Tryd.func10 rfl E10_eq

noncomputable def C11 : FnSpec := { ps := [.val .str, .val .str], rs := [.own (.slice .str)], fn := fun x => splitF x.1 x.2 }
theorem S11 : Sound Tryd.prog 11 C11 := splitSound
/-- impl.linesOf -/
noncomputable def i_linesOf (p_s : Bytes) : Option ((List Bytes) × Bool) :=
  bif (decide (p_s = [])) then
    some ([], true)
  else
    (strings_CutSuffix p_s ([10] : Bytes)).bind fun r1 =>
    bif (!r1.2) then
      some ([], false)
    else
      (splitF r1.1 ([10] : Bytes)).bind fun r2 =>
      some (r2, true)
noncomputable def C9 : FnSpec := { ps := [.val .str], rs := [.own (.slice .str), .val .bool], fn := fun x => i_linesOf x }
noncomputable def E9 : Env := { T := [], G := [(10, C10), (11, C11)], ro := [], loops := [], joins := [] }
theorem E9_eq : ∀ x, afun E9 Tryd.f9 C9.ps C9.rs x = C9.fn x := fun x => by kernel_rfl
theorem S9 : Sound Tryd.prog 9 C9 := fun_sound (E := E9) ⟨good_T (by kernel_rfl), (good_cons S10 ⟨_, Tryd.func10, by kernel_rfl, by kernel_rfl⟩ (good_cons S11 ⟨_, Tryd.func11, by kernel_rfl, by kernel_rfl⟩ good_nil)), mixedOk, ins_nil⟩ Tryd.func9 rfl E9_eq
/-- impl.scriptLines -/
noncomputable def i_scriptLines (p_script : Bytes) : Option ((List Bytes) × Bool) :=
  bif (decide (2000 < (p_script.length : Int))) then
    some ([], false)
  else
    (i_linesOf p_script).bind fun r1 =>
    (bif (!r1.2) then
        some true
      else
        some (decide (40 < (r1.1.length : Int)))).bind fun c2 =>
    bif c2 then
      some ([], false)
    else
      some (r1.1, true)
noncomputable def C7 : FnSpec := { ps := [.val .str], rs := [.own (.slice .str), .val .bool], fn := fun x => i_scriptLines x }
noncomputable def E7 : Env := { T := [(9, .str), (25, (.slice .str))], G := [(9, C9)], ro := [], loops := [], joins := [] }
theorem E7_eq : ∀ x, afun E7 Tryd.f7 C7.ps C7.rs x = C7.fn x := fun x => by kernel_rfl
theorem S7 : Sound Tryd.prog 7 C7 := fun_sound (E := E7) ⟨good_T (by kernel_rfl), (good_cons S9 ⟨_, Tryd.func9, by kernel_rfl, by kernel_rfl⟩ good_nil), mixedOk, ins_nil⟩ Tryd.func7 rfl E7_eq
/-- impl.JoinScripts -/
noncomputable def i_JoinScripts (p_a : Bytes) (p_b : Bytes) : Option (Bytes × Bool) :=
  (i_scriptLines p_a).bind fun r1 =>
  (i_scriptLines p_b).bind fun r2 =>
  bif decide (List.length p_a + List.length p_b ≤ lim) then
    (i_scriptLines (p_a ++ p_b)).bind fun r3 =>
    (bif (!r1.2) then
        some true
      else
        some (!r2.2)).bind fun c4 =>
    (bif c4 then
        some true
      else
        some (!r3.2)).bind fun c5 =>
    bif c5 then
      some ([], false)
    else
      bif decide (List.length p_a + List.length p_b ≤ lim) then
        some ((p_a ++ p_b), true)
      else
        none
  else
    none
noncomputable def C5 : FnSpec := { ps := [.val .str, .val .str], rs := [.val .str, .val .bool], fn := fun x => i_JoinScripts x.1 x.2 }
noncomputable def E5 : Env := { T := [], G := [(7, C7)], ro := [], loops := [], joins := [] }
theorem E5_eq : ∀ x, afun E5 Tryd.f5 C5.ps C5.rs x = C5.fn x := fun x => by kernel_rfl
theorem S5 : Sound Tryd.prog 5 C5 := fun_sound (E := E5) ⟨good_T (by kernel_rfl), (good_cons S7 ⟨_, Tryd.func7, by kernel_rfl, by kernel_rfl⟩ good_nil), mixedOk, ins_nil⟩ Tryd.func5 rfl E5_eq
/-- laws.FnExactJoinScripts -/
noncomputable def l_FnExactJoinScripts (p_aA : Bytes) (p_aB : Bytes) : Option (Bool) :=
  bif (decide (1048576 < (p_aA.length : Int))) then
    some true
  else
    bif (decide (1048576 < (p_aB.length : Int))) then
      some true
    else
      (s_JoinScripts p_aA p_aB).bind fun r1 =>
      (i_JoinScripts p_aA p_aB).bind fun r2 =>
      (bif (!decide (r2.1 = r1.1)) then
          some true
        else
          some (r2.2 != r1.2)).bind fun c3 =>
      bif c3 then
        some false
      else
        some true
noncomputable def C3 : FnSpec := { ps := [.val .str, .val .str], rs := [.val .bool], fn := fun x => l_FnExactJoinScripts x.1 x.2 }
noncomputable def E3 : Env := { T := [(4, .bool), (9, .str)], G := [(4, C4), (5, C5)], ro := [], loops := [], joins := [] }
theorem E3_eq : ∀ x, afun E3 Tryd.f3 C3.ps C3.rs x = C3.fn x := fun x => by kernel_rfl
theorem S3 : Sound Tryd.prog 3 C3 := fun_sound (E := E3) ⟨good_T (by kernel_rfl), (good_cons S4 ⟨_, Tryd.func4, by kernel_rfl, by kernel_rfl⟩ (good_cons S5 ⟨_, Tryd.func5, by kernel_rfl, by kernel_rfl⟩ good_nil)), mixedOk, ins_nil⟩ Tryd.func3 rfl E3_eq
end Go.Proofs.YtbncfclmobcmeaaDoor.Sh
