/-
  The functions that the statement reaches, as plain functions; each with its contract.
-/
import Derived.Test.YtlalabdgkkfjpaaXLift
import Derived.Test.YtlalabdgkkfjpaaChecked
import Derived.KernelRfl
import Derived.Test.YtlalabdgkkfjpaaWalkI
namespace Go.Proofs.Ytlalabdgkkfjpaa.Sh
open Go Go.Ab Go.Proofs
set_option maxRecDepth 100000
abbrev TGerrorAddressString : Ty := .pair .str (.pair (.int .u64) .unit)
abbrev GerrorAddressString : Type := Bytes × Int × Unit
abbrev TGLink : Ty := .pair (.int .i64) (.pair (.int .i64) (.pair (.int .i64) .unit))
abbrev GLink : Type := Int × Int × Int × Unit
abbrev TGl1Cur : Ty := .pair (.slice (.int .u8)) (.pair (.int .i64) (.pair (.int .u64) .unit))
abbrev Gl1Cur : Type := (List Int) × Int × Int × Unit
abbrev TGboundsError : Ty := .pair (.int .i64) (.pair (.int .i64) (.pair .bool (.pair (.int .u8) .unit)))
abbrev GboundsError : Type := Int × Int × Bool × Int × Unit
abbrev TGAct : Ty := .pair (.int .i64) (.pair (.int .i64) (.pair (.int .i64) (.pair (.int .i64) (.pair (.int .i64) .unit))))
abbrev GAct : Type := Int × Int × Int × Int × Int × Unit
abbrev TGNet : Ty := .pair (.slice TGLink) (.pair (.slice TGLink) .unit)
abbrev GNet : Type := (List GLink) × (List GLink) × Unit
abbrev TGParcel : Ty := .pair (.int .i64) (.pair (.int .i64) (.pair (.int .i64) (.pair (.int .i64) (.pair (.int .i64) (.pair (.int .i64) .unit)))))
abbrev GParcel : Type := Int × Int × Int × Int × Int × Int × Unit
abbrev TGNetwork : Ty := .pair TGNet (.pair (.slice TGLink) (.pair (.int .i64) (.pair (.slice TGParcel) .unit)))
abbrev GNetwork : Type := GNet × (List GLink) × Int × (List GParcel) × Unit
theorem mixedOk : Try.prog.follows .mixedOrders = true := by kernel_rfl
/-- laws.szTowerS -/
noncomputable def l_szTowerS (p_a : List GLink) (p_left : Int) : Option (Int) :=
  bif (decide ((w64 (p_left - (p_a.length : Int))) < 0)) then
    some (-1)
  else
    some (w64 (p_left - (p_a.length : Int)))
noncomputable def C84 : FnSpec := { ps := [.val (.slice TGLink), .val (.int .i64)], rs := [.val (.int .i64)], fn := fun x => l_szTowerS x.1 x.2 }
noncomputable def E84 : Env := { T := [(22, (.slice TGLink))], G := [], ro := [], loops := [], joins := [] }
theorem E84_eq : ∀ x, afun E84 Try.f84 C84.ps C84.rs x = C84.fn x := fun x => by kernel_rfl
theorem S84 : Sound Try.prog 84 C84 := fun_sound (E := E84) ⟨good_T (by kernel_rfl), good_nil, mixedOk, ins_nil⟩ Try.func84 rfl E84_eq
/-- laws.szLinkS -/
noncomputable def l_szLinkS (p_a : List GLink) (p_left : Int) : Option (Int) :=
  bif (decide ((w64 (p_left - (p_a.length : Int))) < 0)) then
    some (-1)
  else
    some (w64 (p_left - (p_a.length : Int)))
noncomputable def C85 : FnSpec := { ps := [.val (.slice TGLink), .val (.int .i64)], rs := [.val (.int .i64)], fn := fun x => l_szLinkS x.1 x.2 }
noncomputable def E85 : Env := { T := [(23, (.slice TGLink))], G := [], ro := [], loops := [], joins := [] }
theorem E85_eq : ∀ x, afun E85 Try.f85 C85.ps C85.rs x = C85.fn x := fun x => by kernel_rfl
theorem S85 : Sound Try.prog 85 C85 := fun_sound (E := E85) ⟨good_T (by kernel_rfl), good_nil, mixedOk, ins_nil⟩ Try.func85 rfl E85_eq
/-- laws.szNet -/
noncomputable def l_szNet (p_a : GNet) (p_left : Int) : Option (Int) :=
  (l_szTowerS p_a.1 p_left).bind fun r1 =>
  bif (decide (r1 < 0)) then
    some (-1)
  else
    (l_szLinkS p_a.2.1 r1).bind fun r2 =>
    bif (decide (r2 < 0)) then
      some (-1)
    else
      some r2
noncomputable def C28 : FnSpec := { ps := [.val TGNet, .val (.int .i64)], rs := [.val (.int .i64)], fn := fun x => l_szNet x.1 x.2 }
noncomputable def E28 : Env := { T := [(22, (.slice TGLink)), (23, (.slice TGLink)), (25, TGNet)], G := [(84, C84), (85, C85)], ro := [2], loops := [], joins := [] }
theorem E28_eq : ∀ x, afun E28 Try.f28 C28.ps C28.rs x = C28.fn x := fun x => by kernel_rfl
theorem S28 : Sound Try.prog 28 C28 := fun_sound (E := E28) ⟨good_T (by kernel_rfl), (good_cons S84 ⟨_, Try.func84, by kernel_rfl, by kernel_rfl⟩ (good_cons S85 ⟨_, Try.func85, by kernel_rfl, by kernel_rfl⟩ good_nil)), mixedOk, ins_nil⟩ Try.func28 rfl E28_eq
/-- laws.szFogS -/
noncomputable def l_szFogS (p_a : List GLink) (p_left : Int) : Option (Int) :=
  bif (decide ((w64 (p_left - (p_a.length : Int))) < 0)) then
    some (-1)
  else
    some (w64 (p_left - (p_a.length : Int)))
noncomputable def C29 : FnSpec := { ps := [.val (.slice TGLink), .val (.int .i64)], rs := [.val (.int .i64)], fn := fun x => l_szFogS x.1 x.2 }
noncomputable def E29 : Env := { T := [(26, (.slice TGLink))], G := [], ro := [], loops := [], joins := [] }
theorem E29_eq : ∀ x, afun E29 Try.f29 C29.ps C29.rs x = C29.fn x := fun x => by kernel_rfl
theorem S29 : Sound Try.prog 29 C29 := fun_sound (E := E29) ⟨good_T (by kernel_rfl), good_nil, mixedOk, ins_nil⟩ Try.func29 rfl E29_eq
/-- laws.szParcelS -/
noncomputable def l_szParcelS (p_a : List GParcel) (p_left : Int) : Option (Int) :=
  bif (decide ((w64 (p_left - (p_a.length : Int))) < 0)) then
    some (-1)
  else
    some (w64 (p_left - (p_a.length : Int)))
noncomputable def C69 : FnSpec := { ps := [.val (.slice TGParcel), .val (.int .i64)], rs := [.val (.int .i64)], fn := fun x => l_szParcelS x.1 x.2 }
noncomputable def E69 : Env := { T := [(27, (.slice TGParcel))], G := [], ro := [], loops := [], joins := [] }
theorem E69_eq : ∀ x, afun E69 Try.f69 C69.ps C69.rs x = C69.fn x := fun x => by kernel_rfl
theorem S69 : Sound Try.prog 69 C69 := fun_sound (E := E69) ⟨good_T (by kernel_rfl), good_nil, mixedOk, ins_nil⟩ Try.func69 rfl E69_eq
/-- laws.szNetwork -/
noncomputable def l_szNetwork (p_a : GNetwork) (p_left : Int) : Option (Int) :=
  (l_szNet p_a.1 p_left).bind fun r1 =>
  bif (decide (r1 < 0)) then
    some (-1)
  else
    (l_szFogS p_a.2.1 r1).bind fun r2 =>
    bif (decide (r2 < 0)) then
      some (-1)
    else
      (l_szParcelS p_a.2.2.2.1 r2).bind fun r3 =>
      bif (decide (r3 < 0)) then
        some (-1)
      else
        some r3
noncomputable def C15 : FnSpec := { ps := [.val TGNetwork, .val (.int .i64)], rs := [.val (.int .i64)], fn := fun x => l_szNetwork x.1 x.2 }
noncomputable def E15 : Env := { T := [(25, TGNet), (26, (.slice TGLink)), (27, (.slice TGParcel)), (29, TGNetwork)], G := [(28, C28), (29, C29), (69, C69)], ro := [2], loops := [], joins := [] }
theorem E15_eq : ∀ x, afun E15 Try.f15 C15.ps C15.rs x = C15.fn x := fun x => by kernel_rfl
theorem S15 : Sound Try.prog 15 C15 := fun_sound (E := E15) ⟨good_T (by kernel_rfl), (good_cons S28 ⟨_, Try.func28, by kernel_rfl, by kernel_rfl⟩ (good_cons S29 ⟨_, Try.func29, by kernel_rfl, by kernel_rfl⟩ (good_cons S69 ⟨_, Try.func69, by kernel_rfl, by kernel_rfl⟩ good_nil))), mixedOk, ins_nil⟩ Try.func15 rfl E15_eq
/-- spec.l1In -/
noncomputable def s_l1In (p_n : Int) (p_lo : Int) (p_hi : Int) : Option (Bool) :=
  (bif (decide (p_lo ≤ p_n)) then
      some (decide (p_n ≤ p_hi))
    else
      some false).bind fun c1 =>
  some c1
noncomputable def C127 : FnSpec := { ps := [.val (.int .i64), .val (.int .i64), .val (.int .i64)], rs := [.val .bool], fn := fun x => s_l1In x.1 x.2.1 x.2.2 }
noncomputable def E127 : Env := { T := [], G := [], ro := [], loops := [], joins := [] }
theorem E127_eq : ∀ x, afun E127 Try.f127 C127.ps C127.rs x = C127.fn x := fun x => by kernel_rfl
theorem S127 : Sound Try.prog 127 C127 := fun_sound (E := E127) ⟨good_T (by kernel_rfl), good_nil, mixedOk, ins_nil⟩ Try.func127 rfl E127_eq
/-- spec.fgTime -/
noncomputable def s_fgTime (p_t : Int) : Option (Bool) :=
  (s_l1In p_t 0 10000).bind fun r1 =>
  some r1
noncomputable def C80 : FnSpec := { ps := [.val (.int .i64)], rs := [.val .bool], fn := fun x => s_fgTime x }
noncomputable def E80 : Env := { T := [], G := [(127, C127)], ro := [], loops := [], joins := [] }
theorem E80_eq : ∀ x, afun E80 Try.f80 C80.ps C80.rs x = C80.fn x := fun x => by kernel_rfl
theorem S80 : Sound Try.prog 80 C80 := fun_sound (E := E80) ⟨good_T (by kernel_rfl), (good_cons S127 ⟨_, Try.func127, by kernel_rfl, by kernel_rfl⟩ good_nil), mixedOk, ins_nil⟩ Try.func80 rfl E80_eq
/-- spec.neBefore -/
noncomputable def s_neBefore (p_a : GLink) (p_b : GLink) : Option (Bool) :=
  (bif (decide (p_a.1 < p_b.1)) then
      some true
    else
      (bif (decide (p_a.1 = p_b.1)) then
          some (decide (p_a.2.1 < p_b.2.1))
        else
          some false).bind fun c1 =>
      some c1).bind fun c2 =>
  some c2
noncomputable def C150 : FnSpec := { ps := [.val TGLink, .val TGLink], rs := [.val .bool], fn := fun x => s_neBefore x.1 x.2 }
noncomputable def E150 : Env := { T := [(3, (.int .i64)), (109, TGLink)], G := [], ro := [2, 3], loops := [], joins := [] }
theorem E150_eq : ∀ x, afun E150 Try.f150 C150.ps C150.rs x = C150.fn x := fun x => by kernel_rfl
theorem S150 : Sound Try.prog 150 C150 := fun_sound (E := E150) ⟨good_T (by kernel_rfl), good_nil, mixedOk, ins_nil⟩ Try.func150 rfl E150_eq
/-- spec.neGood -/
noncomputable def s_neGood (p_n : GNet) : Option (Bool) :=
  (loopE (fun (st2 : Int) => (
      bif (decide (st2 < (p_n.1.length : Int))) then
        (idx p_n.1 st2).bind fun e3 =>
        (s_l1In e3.1 0 999).bind fun r4 =>
        (bif (!r4) then
            some true
          else
            (s_l1In e3.2.1 0 999).bind fun r5 =>
            some (!r5)).bind fun c6 =>
        (bif c6 then
            some true
          else
            (s_l1In e3.2.2.1 0 500).bind fun r7 =>
            some (!r7)).bind fun c8 =>
        bif c8 then
          some (.inr (.inr false))
        else
          some (.inl (w64 (st2 + 1)))
      else
        some (.inr (.inl ())) : Option ((Int) ⊕ (Unit ⊕ Bool)))) 0).bind fun o9 =>
  match o9 with
  | .inl _ =>
    (loopE (fun (st13 : Int) => (
        bif (decide (st13 < (p_n.2.1.length : Int))) then
          (idx p_n.2.1 st13).bind fun e14 =>
          (s_l1In e14.1 0 (w64 (e14.2.1 - 1))).bind fun r15 =>
          (bif (!r15) then
              some true
            else
              (s_l1In e14.2.1 0 (w64 ((p_n.1.length : Int) - 1))).bind fun r16 =>
              some (!r16)).bind fun c17 =>
          (bif c17 then
              some true
            else
              (s_l1In e14.2.2.1 1 60).bind fun r18 =>
              some (!r18)).bind fun c19 =>
          (bif c19 then
              some true
            else
              (bif (decide (0 < st13)) then
                  (idx p_n.2.1 (w64 (st13 - 1))).bind fun e20 =>
                  (s_neBefore e20 e14).bind fun r21 =>
                  some (!r21)
                else
                  some false).bind fun c22 =>
              some c22).bind fun c23 =>
          bif c23 then
            some (.inr (.inr false))
          else
            some (.inl (w64 (st13 + 1)))
        else
          some (.inr (.inl ())) : Option ((Int) ⊕ (Unit ⊕ Bool)))) 0).bind fun o24 =>
    match o24 with
    | .inl _ =>
      (s_l1In (p_n.1.length : Int) 1 16).bind fun r27 =>
      (bif r27 then
          some (decide ((p_n.2.1.length : Int) ≤ 40))
        else
          some false).bind fun c28 =>
      some c28
    | .inr y26 =>
      some y26
  | .inr y11 =>
    some y11
noncomputable def C119 : FnSpec := { ps := [.val TGNet], rs := [.val .bool], fn := fun x => s_neGood x }
noncomputable def E119 : Env := { T := [(3, (.int .i64)), (32, (.slice TGLink)), (33, (.slice TGLink)), (35, TGNet), (109, TGLink), (153, TGLink)], G := [(127, C127), (150, C150)], ro := [1], loops := [(2, { keep := [1, 8, 9, 47, 48, 49, 50, 51, 52, 53, 54, 57, 58, 59, 60, 63, 64, 65, 66, 67, 68, 69, 70, 71, 72, 73, 74, 75, 83, 84, 85, 86], live := [.tv 10 (.int .i64)], outs := [(.exit 0, []), (.ret, [.tv 2 .bool])] }), (8, { keep := [1, 32, 33, 83, 84, 85, 86], live := [.tv 34 (.int .i64)], outs := [(.exit 2, []), (.ret, [.tv 2 .bool])] })], joins := [] }
theorem E119_eq : ∀ x, afun E119 Try.f119 C119.ps C119.rs x = C119.fn x := fun x => by kernel_rfl
theorem S119 : Sound Try.prog 119 C119 := fun_sound (E := E119) ⟨good_T (by kernel_rfl), (good_cons S127 ⟨_, Try.func127, by kernel_rfl, by kernel_rfl⟩ (good_cons S150 ⟨_, Try.func150, by kernel_rfl, by kernel_rfl⟩ good_nil)), mixedOk, ins_nil⟩ Try.func119 rfl E119_eq
/-- spec.fgFog -/
noncomputable def s_fgFog (p_n : GNet) (p_x : GLink) : Option (Bool) :=
  (s_l1In p_x.1 0 (w64 ((p_n.2.1.length : Int) - 1))).bind fun r1 =>
  (bif r1 then
      (s_l1In p_x.2.1 0 9999).bind fun r2 =>
      some r2
    else
      some false).bind fun c3 =>
  (bif c3 then
      (s_l1In p_x.2.2.1 (w64 (p_x.2.1 + 1)) 10000).bind fun r4 =>
      some r4
    else
      some false).bind fun c5 =>
  some c5
noncomputable def C151 : FnSpec := { ps := [.val TGNet, .val TGLink], rs := [.val .bool], fn := fun x => s_fgFog x.1 x.2 }
noncomputable def E151 : Env := { T := [(3, (.int .i64)), (33, (.slice TGLink)), (35, TGNet), (120, TGLink)], G := [(127, C127)], ro := [2, 3], loops := [], joins := [] }
theorem E151_eq : ∀ x, afun E151 Try.f151 C151.ps C151.rs x = C151.fn x := fun x => by kernel_rfl
theorem S151 : Sound Try.prog 151 C151 := fun_sound (E := E151) ⟨good_T (by kernel_rfl), (good_cons S127 ⟨_, Try.func127, by kernel_rfl, by kernel_rfl⟩ good_nil), mixedOk, ins_nil⟩ Try.func151 rfl E151_eq
/-- spec.fgGood -/
noncomputable def s_fgGood (p_n : GNet) (p_l : List GLink) : Option (Bool) :=
  (loopE (fun (st2 : Int) => (
      bif (decide (st2 < (p_l.length : Int))) then
        (idx p_l st2).bind fun e3 =>
        (s_fgFog p_n e3).bind fun r4 =>
        bif (!r4) then
          some (.inr (.inr false))
        else
          (bif (decide (0 < st2)) then
              (idx p_l (w64 (st2 - 1))).bind fun e5 =>
              (bif (decide (e3.1 < e5.1)) then
                  some true
                else
                  (idx p_l (w64 (st2 - 1))).bind fun e6 =>
                  (bif (decide (e6.1 = e3.1)) then
                      (idx p_l (w64 (st2 - 1))).bind fun e7 =>
                      some (decide (e3.2.1 ≤ e7.2.2.1))
                    else
                      some false).bind fun c8 =>
                  some c8).bind fun c9 =>
              some c9
            else
              some false).bind fun c10 =>
          bif c10 then
            some (.inr (.inr false))
          else
            some (.inl (w64 (st2 + 1)))
      else
        some (.inr (.inl ())) : Option ((Int) ⊕ (Unit ⊕ Bool)))) 0).bind fun o11 =>
  match o11 with
  | .inl _ =>
    some (decide ((p_l.length : Int) ≤ 60))
  | .inr y13 =>
    some y13
noncomputable def C120 : FnSpec := { ps := [.val TGNet, .val (.slice TGLink)], rs := [.val .bool], fn := fun x => s_fgGood x.1 x.2 }
noncomputable def E120 : Env := { T := [(3, (.int .i64)), (35, TGNet), (36, (.slice TGLink)), (120, TGLink)], G := [(151, C151)], ro := [2], loops := [(2, { keep := [1, 2, 7, 8], live := [.tv 9 (.int .i64)], outs := [(.exit 0, []), (.ret, [.tv 4 .bool])] })], joins := [] }
theorem E120_eq : ∀ x, afun E120 Try.f120 C120.ps C120.rs x = C120.fn x := fun x => by kernel_rfl
theorem S120 : Sound Try.prog 120 C120 := fun_sound (E := E120) ⟨good_T (by kernel_rfl), (good_cons S151 ⟨_, Try.func151, by kernel_rfl, by kernel_rfl⟩ good_nil), mixedOk, ins_nil⟩ Try.func120 rfl E120_eq
/-- spec.nwParcel -/
noncomputable def s_nwParcel (p_w : GNetwork) (p_p : GParcel) : Option (Bool) :=
  (s_l1In p_p.1 1 999).bind fun r1 =>
  (bif r1 then
      (s_l1In p_p.2.2.1 1 9).bind fun r2 =>
      some r2
    else
      some false).bind fun c3 =>
  (bif c3 then
      (s_l1In p_p.2.1 0 (w64 (p_p.2.2.1 - 1))).bind fun r4 =>
      some r4
    else
      some false).bind fun c5 =>
  (bif c5 then
      (s_l1In p_p.2.2.2.1 0 (w64 ((p_w.1.1.length : Int) - 1))).bind fun r6 =>
      some r6
    else
      some false).bind fun c7 =>
  (bif c7 then
      (s_l1In p_p.2.2.2.2.1 0 (w64 ((p_w.1.1.length : Int) - 1))).bind fun r8 =>
      some r8
    else
      some false).bind fun c9 =>
  (bif c9 then
      (s_l1In p_p.2.2.2.2.2.1 0 20000).bind fun r10 =>
      some r10
    else
      some false).bind fun c11 =>
  some c11
noncomputable def C121 : FnSpec := { ps := [.val TGNetwork, .val TGParcel], rs := [.val .bool], fn := fun x => s_nwParcel x.1 x.2 }
noncomputable def E121 : Env := { T := [(3, (.int .i64)), (32, (.slice TGLink)), (35, TGNet), (39, TGNetwork), (88, TGParcel)], G := [(127, C127)], ro := [2, 3], loops := [], joins := [] }
theorem E121_eq : ∀ x, afun E121 Try.f121 C121.ps C121.rs x = C121.fn x := fun x => by kernel_rfl
theorem S121 : Sound Try.prog 121 C121 := fun_sound (E := E121) ⟨good_T (by kernel_rfl), (good_cons S127 ⟨_, Try.func127, by kernel_rfl, by kernel_rfl⟩ good_nil), mixedOk, ins_nil⟩ Try.func121 rfl E121_eq
/-- spec.nwGood -/
noncomputable def s_nwGood (p_w : GNetwork) : Option (Bool) :=
  (s_neGood p_w.1).bind fun r1 =>
  (bif (!r1) then
      some true
    else
      (s_fgGood p_w.1 p_w.2.1).bind fun r2 =>
      some (!r2)).bind fun c3 =>
  (bif c3 then
      some true
    else
      (s_fgTime p_w.2.2.1).bind fun r4 =>
      some (!r4)).bind fun c5 =>
  (bif c5 then
      some true
    else
      some (decide (40 < (p_w.2.2.2.1.length : Int)))).bind fun c6 =>
  bif c6 then
    some false
  else
    (loopE (fun (st8 : Int) => (
        bif (decide (st8 < (p_w.2.2.2.1.length : Int))) then
          (idx p_w.2.2.2.1 st8).bind fun e9 =>
          (s_nwParcel p_w e9).bind fun r10 =>
          bif (!r10) then
            some (.inr (.inr false))
          else
            (bif (decide ((w64 (st8 - e9.2.1)) < 0)) then
                some true
              else
                some (decide ((p_w.2.2.2.1.length : Int) < (w64 ((w64 (st8 - e9.2.1)) + e9.2.2.1))))).bind fun c11 =>
            bif c11 then
              some (.inr (.inr false))
            else
              (idx p_w.2.2.2.1 (w64 (st8 - e9.2.1))).bind fun e12 =>
              (bif (!decide (e12.1 = e9.1)) then
                  some true
                else
                  some (!decide (e12.2.1 = 0))).bind fun c13 =>
              (bif c13 then
                  some true
                else
                  some (!decide (e12.2.2.1 = e9.2.2.1))).bind fun c14 =>
              (bif c14 then
                  some true
                else
                  some (!decide (e12.2.2.2.2.1 = e9.2.2.2.2.1))).bind fun c15 =>
              bif c15 then
                some (.inr (.inr false))
              else
                (bif (decide (0 < st8)) then
                    (idx p_w.2.2.2.1 (w64 (st8 - 1))).bind fun e16 =>
                    (bif (decide (e9.1 < e16.1)) then
                        some true
                      else
                        (idx p_w.2.2.2.1 (w64 (st8 - 1))).bind fun e17 =>
                        (bif (decide (e17.1 = e9.1)) then
                            some (decide (e9.2.1 = 0))
                          else
                            some false).bind fun c18 =>
                        some c18).bind fun c19 =>
                    some c19
                  else
                    some false).bind fun c20 =>
                bif c20 then
                  some (.inr (.inr false))
                else
                  (bif (decide (e9.2.1 < (w64 (e9.2.2.1 - 1)))) then
                      (idx p_w.2.2.2.1 (w64 (st8 + 1))).bind fun e21 =>
                      some (!decide (e21.1 = e9.1))
                    else
                      some false).bind fun c22 =>
                  (bif c22 then
                      some true
                    else
                      (bif (decide (e9.2.1 = (w64 (e9.2.2.1 - 1)))) then
                          some (decide ((w64 (st8 + 1)) < (p_w.2.2.2.1.length : Int)))
                        else
                          some false).bind fun c23 =>
                      (bif c23 then
                          (idx p_w.2.2.2.1 (w64 (st8 + 1))).bind fun e24 =>
                          some (decide (e24.1 ≤ e9.1))
                        else
                          some false).bind fun c25 =>
                      some c25).bind fun c26 =>
                  bif c26 then
                    some (.inr (.inr false))
                  else
                    some (.inl (w64 (st8 + 1)))
        else
          some (.inr (.inl ())) : Option ((Int) ⊕ (Unit ⊕ Bool)))) 0).bind fun o27 =>
    match o27 with
    | .inl _ =>
      some true
    | .inr y29 =>
      some y29
noncomputable def C70 : FnSpec := { ps := [.val TGNetwork], rs := [.val .bool], fn := fun x => s_nwGood x }
noncomputable def E70 : Env := { T := [(3, (.int .i64)), (35, TGNet), (36, (.slice TGLink)), (37, (.slice TGParcel)), (39, TGNetwork), (88, TGParcel)], G := [(80, C80), (119, C119), (120, C120), (121, C121)], ro := [1], loops := [(4, { keep := [1, 32, 33], live := [.tv 34 (.int .i64)], outs := [(.exit 0, []), (.ret, [.tv 2 .bool])] })], joins := [] }
theorem E70_eq : ∀ x, afun E70 Try.f70 C70.ps C70.rs x = C70.fn x := fun x => by kernel_rfl
theorem S70 : Sound Try.prog 70 C70 := fun_sound (E := E70) ⟨good_T (by kernel_rfl), (good_cons S80 ⟨_, Try.func80, by kernel_rfl, by kernel_rfl⟩ (good_cons S119 ⟨_, Try.func119, by kernel_rfl, by kernel_rfl⟩ (good_cons S120 ⟨_, Try.func120, by kernel_rfl, by kernel_rfl⟩ (good_cons S121 ⟨_, Try.func121, by kernel_rfl, by kernel_rfl⟩ good_nil)))), mixedOk, ins_nil⟩ Try.func70 rfl E70_eq
/-- spec.IsNetwork -/
noncomputable def s_IsNetwork (p_w : GNetwork) : Option (Bool) :=
  (s_nwGood p_w).bind fun r1 =>
  some r1
noncomputable def C16 : FnSpec := { ps := [.val TGNetwork], rs := [.val .bool], fn := fun x => s_IsNetwork x }
noncomputable def E16 : Env := { T := [(39, TGNetwork)], G := [(70, C70)], ro := [1], loops := [], joins := [] }
theorem E16_eq : ∀ x, afun E16 Try.f16 C16.ps C16.rs x = C16.fn x := fun x => by kernel_rfl
theorem S16 : Sound Try.prog 16 C16 := fun_sound (E := E16) ⟨good_T (by kernel_rfl), (good_cons S70 ⟨_, Try.func70, by kernel_rfl, by kernel_rfl⟩ good_nil), mixedOk, ins_nil⟩ Try.func16 rfl E16_eq
/-- laws.toTower -/
noncomputable def l_toTower (p_a : GLink) : Option (GLink) :=
  some p_a
noncomputable def C131 : FnSpec := { ps := [.val TGLink], rs := [.val TGLink], fn := fun x => l_toTower x }
noncomputable def E131 : Env := { T := [(3, (.int .i64)), (153, TGLink), (159, TGLink)], G := [], ro := [1], loops := [], joins := [] }
theorem E131_eq : ∀ x, afun E131 Try.f131 C131.ps C131.rs x = C131.fn x := fun x => by kernel_rfl
theorem S131 : Sound Try.prog 131 C131 := fun_sound (E := E131) ⟨good_T (by kernel_rfl), good_nil, mixedOk, ins_nil⟩ Try.func131 rfl E131_eq
/-- laws.toTowerS -/
noncomputable def l_toTowerS (p_a : List GLink) : Option ((List GLink)) :=
  bif decide (0 ≤ (p_a.length : Int)) && decide ((p_a.length : Int) ≤ (p_a.length : Int)) && decide ((p_a.length : Int) ≤ lim) then
    (loopE (fun (st2 : (List GLink) × Int) => (
        bif (decide (st2.2 < (p_a.length : Int))) then
          (idx p_a st2.2).bind fun e3 =>
          (l_toTower e3).bind fun r4 =>
          bif decide (0 ≤ st2.2) && decide (st2.2 < (st2.1.length : Int)) then
            some (.inl ((st2.1.set (Int.toNat st2.2) r4), (w64 (st2.2 + 1))))
          else
            none
        else
          some (.inr st2.1) : Option (((List GLink) × Int) ⊕ ((List GLink))))) ((List.replicate (Int.toNat (p_a.length : Int)) ((0, (0, (0, ()))) : GLink)), 0)).bind fun o5 =>
    some o5
  else
    none
noncomputable def C87 : FnSpec := { ps := [.val (.slice TGLink)], rs := [.own (.slice TGLink)], fn := fun x => l_toTowerS x }
noncomputable def E87 : Env := { T := [(22, (.slice TGLink)), (32, (.slice TGLink)), (153, TGLink), (159, TGLink)], G := [(131, C131)], ro := [], loops := [(3, { keep := [0], live := [.own 3 [] 112 TGLink true, .tv 4 (.int .i64)], outs := [(.exit 0, [.own 3 [] 112 TGLink true])] })], joins := [] }
theorem E87_eq : ∀ x, afun E87 Try.f87 C87.ps C87.rs x = C87.fn x := fun x => by kernel_rfl
theorem S87 : Sound Try.prog 87 C87 := fun_sound (E := E87) ⟨good_T (by kernel_rfl), (good_cons S131 ⟨_, Try.func131, by kernel_rfl, by kernel_rfl⟩ good_nil), mixedOk, ins_nil⟩ Try.func87 rfl E87_eq
/-- laws.toLink -/
noncomputable def l_toLink (p_a : GLink) : Option (GLink) :=
  some p_a
noncomputable def C132 : FnSpec := { ps := [.val TGLink], rs := [.val TGLink], fn := fun x => l_toLink x }
noncomputable def E132 : Env := { T := [(3, (.int .i64)), (109, TGLink), (161, TGLink)], G := [], ro := [1], loops := [], joins := [] }
theorem E132_eq : ∀ x, afun E132 Try.f132 C132.ps C132.rs x = C132.fn x := fun x => by kernel_rfl
theorem S132 : Sound Try.prog 132 C132 := fun_sound (E := E132) ⟨good_T (by kernel_rfl), good_nil, mixedOk, ins_nil⟩ Try.func132 rfl E132_eq
/-- laws.toLinkS -/
noncomputable def l_toLinkS (p_a : List GLink) : Option ((List GLink)) :=
  bif decide (0 ≤ (p_a.length : Int)) && decide ((p_a.length : Int) ≤ (p_a.length : Int)) && decide ((p_a.length : Int) ≤ lim) then
    (loopE (fun (st2 : (List GLink) × Int) => (
        bif (decide (st2.2 < (p_a.length : Int))) then
          (idx p_a st2.2).bind fun e3 =>
          (l_toLink e3).bind fun r4 =>
          bif decide (0 ≤ st2.2) && decide (st2.2 < (st2.1.length : Int)) then
            some (.inl ((st2.1.set (Int.toNat st2.2) r4), (w64 (st2.2 + 1))))
          else
            none
        else
          some (.inr st2.1) : Option (((List GLink) × Int) ⊕ ((List GLink))))) ((List.replicate (Int.toNat (p_a.length : Int)) ((0, (0, (0, ()))) : GLink)), 0)).bind fun o5 =>
    some o5
  else
    none
noncomputable def C88 : FnSpec := { ps := [.val (.slice TGLink)], rs := [.own (.slice TGLink)], fn := fun x => l_toLinkS x }
noncomputable def E88 : Env := { T := [(23, (.slice TGLink)), (33, (.slice TGLink)), (109, TGLink), (161, TGLink)], G := [(132, C132)], ro := [], loops := [(3, { keep := [0], live := [.own 3 [] 112 TGLink true, .tv 4 (.int .i64)], outs := [(.exit 0, [.own 3 [] 112 TGLink true])] })], joins := [] }
theorem E88_eq : ∀ x, afun E88 Try.f88 C88.ps C88.rs x = C88.fn x := fun x => by kernel_rfl
theorem S88 : Sound Try.prog 88 C88 := fun_sound (E := E88) ⟨good_T (by kernel_rfl), (good_cons S132 ⟨_, Try.func132, by kernel_rfl, by kernel_rfl⟩ good_nil), mixedOk, ins_nil⟩ Try.func88 rfl E88_eq
/-- laws.toNet -/
noncomputable def l_toNet (p_a : GNet) : Option (GNet) :=
  (l_toTowerS p_a.1).bind fun r1 =>
  (l_toLinkS p_a.2.1).bind fun r2 =>
  some (r1, r2, ())
noncomputable def C31 : FnSpec := { ps := [.val TGNet], rs := [.own TGNet], fn := fun x => l_toNet x }
noncomputable def E31 : Env := { T := [(22, (.slice TGLink)), (23, (.slice TGLink)), (25, TGNet), (32, (.slice TGLink)), (33, (.slice TGLink)), (35, TGNet)], G := [(87, C87), (88, C88)], ro := [1], loops := [], joins := [] }
theorem E31_eq : ∀ x, afun E31 Try.f31 C31.ps C31.rs x = C31.fn x := fun x => by kernel_rfl
theorem S31 : Sound Try.prog 31 C31 := fun_sound (E := E31) ⟨good_T (by kernel_rfl), (good_cons S87 ⟨_, Try.func87, by kernel_rfl, by kernel_rfl⟩ (good_cons S88 ⟨_, Try.func88, by kernel_rfl, by kernel_rfl⟩ good_nil)), mixedOk, ins_nil⟩ Try.func31 rfl E31_eq
/-- laws.toFog -/
noncomputable def l_toFog (p_a : GLink) : Option (GLink) :=
  some p_a
noncomputable def C89 : FnSpec := { ps := [.val TGLink], rs := [.val TGLink], fn := fun x => l_toFog x }
noncomputable def E89 : Env := { T := [(3, (.int .i64)), (120, TGLink), (122, TGLink)], G := [], ro := [1], loops := [], joins := [] }
theorem E89_eq : ∀ x, afun E89 Try.f89 C89.ps C89.rs x = C89.fn x := fun x => by kernel_rfl
theorem S89 : Sound Try.prog 89 C89 := fun_sound (E := E89) ⟨good_T (by kernel_rfl), good_nil, mixedOk, ins_nil⟩ Try.func89 rfl E89_eq
/-- laws.toFogS -/
noncomputable def l_toFogS (p_a : List GLink) : Option ((List GLink)) :=
  bif decide (0 ≤ (p_a.length : Int)) && decide ((p_a.length : Int) ≤ (p_a.length : Int)) && decide ((p_a.length : Int) ≤ lim) then
    (loopE (fun (st2 : (List GLink) × Int) => (
        bif (decide (st2.2 < (p_a.length : Int))) then
          (idx p_a st2.2).bind fun e3 =>
          (l_toFog e3).bind fun r4 =>
          bif decide (0 ≤ st2.2) && decide (st2.2 < (st2.1.length : Int)) then
            some (.inl ((st2.1.set (Int.toNat st2.2) r4), (w64 (st2.2 + 1))))
          else
            none
        else
          some (.inr st2.1) : Option (((List GLink) × Int) ⊕ ((List GLink))))) ((List.replicate (Int.toNat (p_a.length : Int)) ((0, (0, (0, ()))) : GLink)), 0)).bind fun o5 =>
    some o5
  else
    none
noncomputable def C32 : FnSpec := { ps := [.val (.slice TGLink)], rs := [.own (.slice TGLink)], fn := fun x => l_toFogS x }
noncomputable def E32 : Env := { T := [(26, (.slice TGLink)), (36, (.slice TGLink)), (120, TGLink), (122, TGLink)], G := [(89, C89)], ro := [], loops := [(3, { keep := [0], live := [.own 3 [] 112 TGLink true, .tv 4 (.int .i64)], outs := [(.exit 0, [.own 3 [] 112 TGLink true])] })], joins := [] }
theorem E32_eq : ∀ x, afun E32 Try.f32 C32.ps C32.rs x = C32.fn x := fun x => by kernel_rfl
theorem S32 : Sound Try.prog 32 C32 := fun_sound (E := E32) ⟨good_T (by kernel_rfl), (good_cons S89 ⟨_, Try.func89, by kernel_rfl, by kernel_rfl⟩ good_nil), mixedOk, ins_nil⟩ Try.func32 rfl E32_eq
/-- laws.toParcel -/
noncomputable def l_toParcel (p_a : GParcel) : Option (GParcel) :=
  some p_a
noncomputable def C122 : FnSpec := { ps := [.val TGParcel], rs := [.val TGParcel], fn := fun x => l_toParcel x }
noncomputable def E122 : Env := { T := [(3, (.int .i64)), (88, TGParcel), (151, TGParcel)], G := [], ro := [1], loops := [], joins := [] }
theorem E122_eq : ∀ x, afun E122 Try.f122 C122.ps C122.rs x = C122.fn x := fun x => by kernel_rfl
theorem S122 : Sound Try.prog 122 C122 := fun_sound (E := E122) ⟨good_T (by kernel_rfl), good_nil, mixedOk, ins_nil⟩ Try.func122 rfl E122_eq
/-- laws.toParcelS -/
noncomputable def l_toParcelS (p_a : List GParcel) : Option ((List GParcel)) :=
  bif decide (0 ≤ (p_a.length : Int)) && decide ((p_a.length : Int) ≤ (p_a.length : Int)) && decide ((p_a.length : Int) ≤ lim) then
    (loopE (fun (st2 : (List GParcel) × Int) => (
        bif (decide (st2.2 < (p_a.length : Int))) then
          (idx p_a st2.2).bind fun e3 =>
          (l_toParcel e3).bind fun r4 =>
          bif decide (0 ≤ st2.2) && decide (st2.2 < (st2.1.length : Int)) then
            some (.inl ((st2.1.set (Int.toNat st2.2) r4), (w64 (st2.2 + 1))))
          else
            none
        else
          some (.inr st2.1) : Option (((List GParcel) × Int) ⊕ ((List GParcel))))) ((List.replicate (Int.toNat (p_a.length : Int)) ((0, (0, (0, (0, (0, (0, ())))))) : GParcel)), 0)).bind fun o5 =>
    some o5
  else
    none
noncomputable def C71 : FnSpec := { ps := [.val (.slice TGParcel)], rs := [.own (.slice TGParcel)], fn := fun x => l_toParcelS x }
noncomputable def E71 : Env := { T := [(27, (.slice TGParcel)), (37, (.slice TGParcel)), (88, TGParcel), (151, TGParcel)], G := [(122, C122)], ro := [], loops := [(3, { keep := [0], live := [.own 3 [] 112 TGParcel true, .tv 4 (.int .i64)], outs := [(.exit 0, [.own 3 [] 112 TGParcel true])] })], joins := [] }
theorem E71_eq : ∀ x, afun E71 Try.f71 C71.ps C71.rs x = C71.fn x := fun x => by kernel_rfl
theorem S71 : Sound Try.prog 71 C71 := fun_sound (E := E71) ⟨good_T (by kernel_rfl), (good_cons S122 ⟨_, Try.func122, by kernel_rfl, by kernel_rfl⟩ good_nil), mixedOk, ins_nil⟩ Try.func71 rfl E71_eq
/-- laws.toNetwork -/
noncomputable def l_toNetwork (p_a : GNetwork) : Option (GNetwork) :=
  (l_toNet p_a.1).bind fun r1 =>
  (l_toFogS p_a.2.1).bind fun r2 =>
  (l_toParcelS p_a.2.2.2.1).bind fun r3 =>
  some (r1, r2, p_a.2.2.1, r3, ())
noncomputable def C17 : FnSpec := { ps := [.val TGNetwork], rs := [.own TGNetwork], fn := fun x => l_toNetwork x }
noncomputable def E17 : Env := { T := [(3, (.int .i64)), (25, TGNet), (26, (.slice TGLink)), (27, (.slice TGParcel)), (29, TGNetwork), (35, TGNet), (36, (.slice TGLink)), (37, (.slice TGParcel)), (39, TGNetwork)], G := [(31, C31), (32, C32), (71, C71)], ro := [1], loops := [], joins := [] }
theorem E17_eq : ∀ x, afun E17 Try.f17 C17.ps C17.rs x = C17.fn x := fun x => by kernel_rfl
theorem S17 : Sound Try.prog 17 C17 := fun_sound (E := E17) ⟨good_T (by kernel_rfl), (good_cons S31 ⟨_, Try.func31, by kernel_rfl, by kernel_rfl⟩ (good_cons S32 ⟨_, Try.func32, by kernel_rfl, by kernel_rfl⟩ (good_cons S71 ⟨_, Try.func71, by kernel_rfl, by kernel_rfl⟩ good_nil))), mixedOk, ins_nil⟩ Try.func17 rfl E17_eq
/-- impl.within -/
noncomputable def i_within (p_n : Int) (p_low : Int) (p_high : Int) : Option (Bool) :=
  (bif (decide (p_low ≤ p_n)) then
      some (decide (p_n ≤ p_high))
    else
      some false).bind fun c1 =>
  some c1
noncomputable def C74 : FnSpec := { ps := [.val (.int .i64), .val (.int .i64), .val (.int .i64)], rs := [.val .bool], fn := fun x => i_within x.1 x.2.1 x.2.2 }
noncomputable def E74 : Env := { T := [], G := [], ro := [], loops := [], joins := [] }
theorem E74_eq : ∀ x, afun E74 Try.f74 C74.ps C74.rs x = C74.fn x := fun x => by kernel_rfl
theorem S74 : Sound Try.prog 74 C74 := fun_sound (E := E74) ⟨good_T (by kernel_rfl), good_nil, mixedOk, ins_nil⟩ Try.func74 rfl E74_eq
/-- cmp.Or[int] -/
noncomputable def cmp_Or_int (p_vals : List Int) : Option (Int) :=
  (loopE (fun (st2 : Int) => (
      bif (decide (st2 < (p_vals.length : Int))) then
        (idx p_vals st2).bind fun e3 =>
        bif (!decide (e3 = 0)) then
          some (.inr (.inr e3))
        else
          some (.inl (w64 (st2 + 1)))
      else
        some (.inr (.inl ())) : Option ((Int) ⊕ (Unit ⊕ Int)))) 0).bind fun o4 =>
  match o4 with
  | .inl _ =>
    some 0
  | .inr y6 =>
    some y6
noncomputable def C152 : FnSpec := { ps := [.val (.slice (.int .i64))], rs := [.val (.int .i64)], fn := fun x => cmp_Or_int x }
noncomputable def E152 : Env := { T := [(3, (.int .i64)), (45, (.slice (.int .i64)))], G := [], ro := [], loops := [(3, { keep := [3, 6, 7], live := [.tv 8 (.int .i64)], outs := [(.exit 0, []), (.ret, [.tv 2 (.int .i64)])] })], joins := [] }
theorem E152_eq : ∀ x, afun E152 Try.f152 C152.ps C152.rs x = C152.fn x := fun x => by kernel_rfl
theorem S152 : Sound Try.prog 152 C152 := fun_sound (E := E152) ⟨good_T (by kernel_rfl), good_nil, mixedOk, ins_nil⟩ Try.func152 rfl E152_eq
/-- cmp.isNaN[int] -/
noncomputable def cmp_isNaN_int (p_x : Int) : Option (Bool) :=
  some (!decide (p_x = p_x))
noncomputable def C158 : FnSpec := { ps := [.val (.int .i64)], rs := [.val .bool], fn := fun x => cmp_isNaN_int x }
noncomputable def E158 : Env := { T := [], G := [], ro := [], loops := [], joins := [] }
theorem E158_eq : ∀ x, afun E158 Try.f158 C158.ps C158.rs x = C158.fn x := fun x => by kernel_rfl
theorem S158 : Sound Try.prog 158 C158 := fun_sound (E := E158) ⟨good_T (by kernel_rfl), good_nil, mixedOk, ins_nil⟩ Try.func158 rfl E158_eq
/-- cmp.Compare[int] -/
noncomputable def cmp_Compare_int (p_x : Int) (p_y : Int) : Option (Int) :=
  (cmp_isNaN_int p_x).bind fun r1 =>
  (cmp_isNaN_int p_y).bind fun r2 =>
  bif r1 then
    bif r2 then
      some 0
    else
      some (-1)
  else
    bif r2 then
      some 1
    else
      bif (decide (p_x < p_y)) then
        some (-1)
      else
        bif (decide (p_y < p_x)) then
          some 1
        else
          some 0
noncomputable def C153 : FnSpec := { ps := [.val (.int .i64), .val (.int .i64)], rs := [.val (.int .i64)], fn := fun x => cmp_Compare_int x.1 x.2 }
noncomputable def E153 : Env := { T := [], G := [(158, C158)], ro := [], loops := [], joins := [] }
theorem E153_eq : ∀ x, afun E153 Try.f153 C153.ps C153.rs x = C153.fn x := fun x => by kernel_rfl
theorem S153 : Sound Try.prog 153 C153 := fun_sound (E := E153) ⟨good_T (by kernel_rfl), (good_cons S158 ⟨_, Try.func158, by kernel_rfl, by kernel_rfl⟩ good_nil), mixedOk, ins_nil⟩ Try.func153 rfl E153_eq
/-- impl.compareLinks -/
noncomputable def i_compareLinks (p_a : GLink) (p_b : GLink) : Option (Int) :=
  (cmp_Compare_int p_a.1 p_b.1).bind fun r1 =>
  (cmp_Compare_int p_a.2.1 p_b.2.1).bind fun r2 =>
  (cmp_Or_int [r1, r2]).bind fun r3 =>
  some r3
noncomputable def C123 : FnSpec := { ps := [.val TGLink, .val TGLink], rs := [.val (.int .i64)], fn := fun x => i_compareLinks x.1 x.2 }
noncomputable def E123 : Env := { T := [(3, (.int .i64)), (45, (.slice (.int .i64))), (109, TGLink)], G := [(152, C152), (153, C153)], ro := [2, 3], loops := [], joins := [] }
theorem E123_eq : ∀ x, afun E123 Try.f123 C123.ps C123.rs x = C123.fn x := fun x => by kernel_rfl
theorem S123 : Sound Try.prog 123 C123 := fun_sound (E := E123) ⟨good_T (by kernel_rfl), (good_cons S152 ⟨_, Try.func152, by kernel_rfl, by kernel_rfl⟩ (good_cons S153 ⟨_, Try.func153, by kernel_rfl, by kernel_rfl⟩ good_nil)), mixedOk, ins_nil⟩ Try.func123 rfl E123_eq
/-- impl.IsNet -/
noncomputable def i_IsNet (p_n : GNet) : Option (Bool) :=
  (i_within (p_n.1.length : Int) 1 16).bind fun r1 =>
  (bif (!r1) then
      some true
    else
      some (decide (40 < (p_n.2.1.length : Int)))).bind fun c2 =>
  bif c2 then
    some false
  else
    (loopE (fun (st4 : Int) => (
        bif (decide (st4 < (p_n.1.length : Int))) then
          (idx p_n.1 st4).bind fun e5 =>
          (i_within e5.1 0 999).bind fun r6 =>
          (bif (!r6) then
              some true
            else
              (i_within e5.2.1 0 999).bind fun r7 =>
              some (!r7)).bind fun c8 =>
          (bif c8 then
              some true
            else
              (i_within e5.2.2.1 0 500).bind fun r9 =>
              some (!r9)).bind fun c10 =>
          bif c10 then
            some (.inr (.inr false))
          else
            some (.inl (w64 (st4 + 1)))
        else
          some (.inr (.inl ())) : Option ((Int) ⊕ (Unit ⊕ Bool)))) 0).bind fun o11 =>
    match o11 with
    | .inl _ =>
      (loopE (fun (st15 : Int) => (
          bif (decide (st15 < (p_n.2.1.length : Int))) then
            (idx p_n.2.1 st15).bind fun e16 =>
            (bif (decide (e16.1 < 0)) then
                some true
              else
                some (decide (e16.2.1 ≤ e16.1))).bind fun c17 =>
            (bif c17 then
                some true
              else
                some (decide ((p_n.1.length : Int) ≤ e16.2.1))).bind fun c18 =>
            (bif c18 then
                some true
              else
                (i_within e16.2.2.1 1 60).bind fun r19 =>
                some (!r19)).bind fun c20 =>
            (bif c20 then
                some true
              else
                (bif (decide (0 < st15)) then
                    (idx p_n.2.1 (w64 (st15 - 1))).bind fun e21 =>
                    (i_compareLinks e21 e16).bind fun r22 =>
                    some (decide (0 ≤ r22))
                  else
                    some false).bind fun c23 =>
                some c23).bind fun c24 =>
            bif c24 then
              some (.inr (.inr false))
            else
              some (.inl (w64 (st15 + 1)))
          else
            some (.inr (.inl ())) : Option ((Int) ⊕ (Unit ⊕ Bool)))) 0).bind fun o25 =>
      match o25 with
      | .inl _ =>
        some true
      | .inr y27 =>
        some y27
    | .inr y13 =>
      some y13
noncomputable def C72 : FnSpec := { ps := [.val TGNet], rs := [.val .bool], fn := fun x => i_IsNet x }
noncomputable def E72 : Env := { T := [(3, (.int .i64)), (32, (.slice TGLink)), (33, (.slice TGLink)), (35, TGNet), (109, TGLink), (153, TGLink)], G := [(74, C74), (123, C123)], ro := [1], loops := [(4, { keep := [1, 19, 20, 54, 55, 56, 57, 58, 61, 62, 63, 64, 65, 66, 69, 70, 71, 72, 75, 76, 77, 78, 79, 80, 81, 82, 83, 84, 85, 86, 87], live := [.tv 21 (.int .i64)], outs := [(.exit 0, []), (.ret, [.tv 2 .bool])] }), (10, { keep := [1, 43, 44], live := [.tv 45 (.int .i64)], outs := [(.exit 2, []), (.ret, [.tv 2 .bool])] })], joins := [] }
theorem E72_eq : ∀ x, afun E72 Try.f72 C72.ps C72.rs x = C72.fn x := fun x => by kernel_rfl
theorem S72 : Sound Try.prog 72 C72 := fun_sound (E := E72) ⟨good_T (by kernel_rfl), (good_cons S74 ⟨_, Try.func74, by kernel_rfl, by kernel_rfl⟩ (good_cons S123 ⟨_, Try.func123, by kernel_rfl, by kernel_rfl⟩ good_nil)), mixedOk, ins_nil⟩ Try.func72 rfl E72_eq
/-- impl.isFog -/
noncomputable def i_isFog (p_n : GNet) (p_x : GLink) : Option (Bool) :=
  (i_within p_x.1 0 (w64 ((p_n.2.1.length : Int) - 1))).bind fun r1 =>
  (bif r1 then
      some (decide (0 ≤ p_x.2.1))
    else
      some false).bind fun c2 =>
  (bif c2 then
      some (decide (p_x.2.1 < p_x.2.2.1))
    else
      some false).bind fun c3 =>
  (bif c3 then
      some (decide (p_x.2.2.1 ≤ 10000))
    else
      some false).bind fun c4 =>
  some c4
noncomputable def C124 : FnSpec := { ps := [.val TGNet, .val TGLink], rs := [.val .bool], fn := fun x => i_isFog x.1 x.2 }
noncomputable def E124 : Env := { T := [(3, (.int .i64)), (33, (.slice TGLink)), (35, TGNet), (120, TGLink)], G := [(74, C74)], ro := [2, 3], loops := [], joins := [] }
theorem E124_eq : ∀ x, afun E124 Try.f124 C124.ps C124.rs x = C124.fn x := fun x => by kernel_rfl
theorem S124 : Sound Try.prog 124 C124 := fun_sound (E := E124) ⟨good_T (by kernel_rfl), (good_cons S74 ⟨_, Try.func74, by kernel_rfl, by kernel_rfl⟩ good_nil), mixedOk, ins_nil⟩ Try.func124 rfl E124_eq
/-- impl.compareFogs -/
noncomputable def i_compareFogs (p_a : GLink) (p_b : GLink) : Option (Int) :=
  (cmp_Compare_int p_a.1 p_b.1).bind fun r1 =>
  (cmp_Compare_int p_a.2.1 p_b.2.1).bind fun r2 =>
  (cmp_Or_int [r1, r2]).bind fun r3 =>
  some r3
noncomputable def C125 : FnSpec := { ps := [.val TGLink, .val TGLink], rs := [.val (.int .i64)], fn := fun x => i_compareFogs x.1 x.2 }
noncomputable def E125 : Env := { T := [(3, (.int .i64)), (45, (.slice (.int .i64))), (120, TGLink)], G := [(152, C152), (153, C153)], ro := [2, 3], loops := [], joins := [] }
theorem E125_eq : ∀ x, afun E125 Try.f125 C125.ps C125.rs x = C125.fn x := fun x => by kernel_rfl
theorem S125 : Sound Try.prog 125 C125 := fun_sound (E := E125) ⟨good_T (by kernel_rfl), (good_cons S152 ⟨_, Try.func152, by kernel_rfl, by kernel_rfl⟩ (good_cons S153 ⟨_, Try.func153, by kernel_rfl, by kernel_rfl⟩ good_nil)), mixedOk, ins_nil⟩ Try.func125 rfl E125_eq
/-- impl.areFogs -/
noncomputable def i_areFogs (p_n : GNet) (p_l : List GLink) : Option (Bool) :=
  bif (decide (60 < (p_l.length : Int))) then
    some false
  else
    (loopE (fun (st2 : Int) => (
        bif (decide (st2 < (p_l.length : Int))) then
          (idx p_l st2).bind fun e3 =>
          (i_isFog p_n e3).bind fun r4 =>
          (bif (!r4) then
              some true
            else
              (bif (decide (0 < st2)) then
                  (idx p_l (w64 (st2 - 1))).bind fun e5 =>
                  (i_compareFogs e5 e3).bind fun r6 =>
                  (bif (decide (0 ≤ r6)) then
                      some true
                    else
                      (idx p_l (w64 (st2 - 1))).bind fun e7 =>
                      (bif (decide (e7.1 = e3.1)) then
                          (idx p_l (w64 (st2 - 1))).bind fun e8 =>
                          some (decide (e3.2.1 ≤ e8.2.2.1))
                        else
                          some false).bind fun c9 =>
                      some c9).bind fun c10 =>
                  some c10
                else
                  some false).bind fun c11 =>
              some c11).bind fun c12 =>
          bif c12 then
            some (.inr (.inr false))
          else
            some (.inl (w64 (st2 + 1)))
        else
          some (.inr (.inl ())) : Option ((Int) ⊕ (Unit ⊕ Bool)))) 0).bind fun o13 =>
    match o13 with
    | .inl _ =>
      some true
    | .inr y15 =>
      some y15
noncomputable def C73 : FnSpec := { ps := [.val TGNet, .val (.slice TGLink)], rs := [.val .bool], fn := fun x => i_areFogs x.1 x.2 }
noncomputable def E73 : Env := { T := [(3, (.int .i64)), (35, TGNet), (36, (.slice TGLink)), (120, TGLink)], G := [(124, C124), (125, C125)], ro := [2], loops := [(4, { keep := [1, 2, 10, 11], live := [.tv 12 (.int .i64)], outs := [(.exit 0, []), (.ret, [.tv 4 .bool])] })], joins := [] }
theorem E73_eq : ∀ x, afun E73 Try.f73 C73.ps C73.rs x = C73.fn x := fun x => by kernel_rfl
theorem S73 : Sound Try.prog 73 C73 := fun_sound (E := E73) ⟨good_T (by kernel_rfl), (good_cons S124 ⟨_, Try.func124, by kernel_rfl, by kernel_rfl⟩ (good_cons S125 ⟨_, Try.func125, by kernel_rfl, by kernel_rfl⟩ good_nil)), mixedOk, ins_nil⟩ Try.func73 rfl E73_eq
/-- impl.IsNetwork -/
noncomputable def i_IsNetwork (p_w : GNetwork) : Option (Bool) :=
  (i_IsNet p_w.1).bind fun r1 =>
  (bif (!r1) then
      some true
    else
      (i_areFogs p_w.1 p_w.2.1).bind fun r2 =>
      some (!r2)).bind fun c3 =>
  (bif c3 then
      some true
    else
      (i_within p_w.2.2.1 0 10000).bind fun r4 =>
      some (!r4)).bind fun c5 =>
  (bif c5 then
      some true
    else
      some (decide (40 < (p_w.2.2.2.1.length : Int)))).bind fun c6 =>
  bif c6 then
    some false
  else
    (loopE (fun (st8 : Int × Int) => (
        bif (decide (st8.2 < (p_w.2.2.2.1.length : Int))) then
          (idx p_w.2.2.2.1 st8.2).bind fun e9 =>
          (bif (decide (e9.1 ≤ st8.1)) then
              some true
            else
              some (decide (999 < e9.1))).bind fun c10 =>
          (bif c10 then
              some true
            else
              (i_within e9.2.2.1 1 9).bind fun r11 =>
              some (!r11)).bind fun c12 =>
          (bif c12 then
              some true
            else
              some (decide ((p_w.2.2.2.1.length : Int) < (w64 (st8.2 + e9.2.2.1))))).bind fun c13 =>
          bif c13 then
            some (.inr (.inr false))
          else
            (loopE (fun (st15 : Int × Int × Int × Int × Int × Int × Int) => (
                bif (decide (st15.2.2.2.2.2.2 < e9.2.2.1)) then
                  (idx p_w.2.2.2.1 (w64 (st8.2 + st15.2.2.2.2.2.2))).bind fun e16 =>
                  (bif (!decide (e16.1 = st15.1)) then
                      some true
                    else
                      some (!decide (e16.2.1 = st15.2.2.2.2.2.2))).bind fun c17 =>
                  (bif c17 then
                      some true
                    else
                      some (!decide (e16.2.2.1 = st15.2.2.1))).bind fun c18 =>
                  (bif c18 then
                      some true
                    else
                      some (!decide (e16.2.2.2.2.1 = st15.2.2.2.2.1))).bind fun c19 =>
                  (bif c19 then
                      some true
                    else
                      (i_within e16.2.2.2.2.2.1 0 20000).bind fun r20 =>
                      some (!r20)).bind fun c21 =>
                  bif c21 then
                    some (.inr (.inr false))
                  else
                    (i_within e16.2.2.2.1 0 (w64 ((p_w.1.1.length : Int) - 1))).bind fun r22 =>
                    (bif (!r22) then
                        some true
                      else
                        (i_within e16.2.2.2.2.1 0 (w64 ((p_w.1.1.length : Int) - 1))).bind fun r23 =>
                        some (!r23)).bind fun c24 =>
                    bif c24 then
                      some (.inr (.inr false))
                    else
                      some (.inl (st15.1, st15.2.1, st15.2.2.1, st15.2.2.2.1, st15.2.2.2.2.1, st15.2.2.2.2.2.1, (w64 (st15.2.2.2.2.2.2 + 1))))
                else
                  some (.inr (.inl (st15.1, st15.2.1, st15.2.2.1, st15.2.2.2.1, st15.2.2.2.2.1, st15.2.2.2.2.2.1))) : Option ((Int × Int × Int × Int × Int × Int × Int) ⊕ ((Int × Int × Int × Int × Int × Int) ⊕ Bool)))) (e9.1, e9.2.1, e9.2.2.1, e9.2.2.2.1, e9.2.2.2.2.1, e9.2.2.2.2.2.1, 0)).bind fun o25 =>
            match o25 with
            | .inl x26 =>
              some (.inl (x26.1, (w64 (st8.2 + x26.2.2.1))))
            | .inr y27 =>
              some (.inr (.inr y27))
        else
          some (.inr (.inl ())) : Option ((Int × Int) ⊕ (Unit ⊕ Bool)))) (0, 0)).bind fun o28 =>
    match o28 with
    | .inl _ =>
      some true
    | .inr y30 =>
      some y30
noncomputable def C18 : FnSpec := { ps := [.val TGNetwork], rs := [.val .bool], fn := fun x => i_IsNetwork x }
noncomputable def E18 : Env := { T := [(3, (.int .i64)), (32, (.slice TGLink)), (35, TGNet), (36, (.slice TGLink)), (37, (.slice TGParcel)), (39, TGNetwork), (88, TGParcel)], G := [(72, C72), (73, C73), (74, C74)], ro := [1], loops := [(5, { keep := [1], live := [.tv 3 (.int .i64), .tv 4 (.int .i64)], outs := [(.exit 0, []), (.ret, [.tv 2 .bool])] }), (10, { keep := [1, 4, 47, 48, 49, 52, 53, 54, 55, 58, 59, 60, 61, 62, 63, 64, 65, 68], live := [.bx 5 80 [.pv (.int .i64), .pv (.int .i64), .pv (.int .i64), .pv (.int .i64), .pv (.int .i64), .pv (.int .i64)], .tv 69 (.int .i64)], outs := [(.exit 2, [.bx 5 80 [.pv (.int .i64), .pv (.int .i64), .pv (.int .i64), .pv (.int .i64), .pv (.int .i64), .pv (.int .i64)]]), (.ret, [.tv 2 .bool])] })], joins := [] }
theorem E18_eq : ∀ x, afun E18 Try.f18 C18.ps C18.rs x = C18.fn x := fun x => by kernel_rfl
theorem S18 : Sound Try.prog 18 C18 := fun_sound (E := E18) ⟨good_T (by kernel_rfl), (good_cons S72 ⟨_, Try.func72, by kernel_rfl, by kernel_rfl⟩ (good_cons S73 ⟨_, Try.func73, by kernel_rfl, by kernel_rfl⟩ (good_cons S74 ⟨_, Try.func74, by kernel_rfl, by kernel_rfl⟩ good_nil))), mixedOk, ins_nil⟩ Try.func18 rfl E18_eq
/-- laws.eqTower -/
noncomputable def l_eqTower (p_a : GLink) (p_b : GLink) : Option (Bool) :=
  bif (!decide (p_a.1 = p_b.1)) then
    some false
  else
    bif (!decide (p_a.2.1 = p_b.2.1)) then
      some false
    else
      bif (!decide (p_a.2.2.1 = p_b.2.2.1)) then
        some false
      else
        some true
noncomputable def C135 : FnSpec := { ps := [.val TGLink, .val TGLink], rs := [.val .bool], fn := fun x => l_eqTower x.1 x.2 }
noncomputable def E135 : Env := { T := [(3, (.int .i64)), (153, TGLink)], G := [], ro := [2, 3], loops := [], joins := [] }
theorem E135_eq : ∀ x, afun E135 Try.f135 C135.ps C135.rs x = C135.fn x := fun x => by kernel_rfl
theorem S135 : Sound Try.prog 135 C135 := fun_sound (E := E135) ⟨good_T (by kernel_rfl), good_nil, mixedOk, ins_nil⟩ Try.func135 rfl E135_eq
/-- laws.eqTowerS -/
noncomputable def l_eqTowerS (p_a : List GLink) (p_b : List GLink) : Option (Bool) :=
  bif (!decide ((p_a.length : Int) = (p_b.length : Int))) then
    some false
  else
    (loopE (fun (st2 : Int) => (
        bif (decide (st2 < (p_a.length : Int))) then
          (idx p_a st2).bind fun e3 =>
          (idx p_b st2).bind fun e4 =>
          (l_eqTower e3 e4).bind fun r5 =>
          bif (!r5) then
            some (.inr (.inr false))
          else
            some (.inl (w64 (st2 + 1)))
        else
          some (.inr (.inl ())) : Option ((Int) ⊕ (Unit ⊕ Bool)))) 0).bind fun o6 =>
    match o6 with
    | .inl _ =>
      some true
    | .inr y8 =>
      some y8
noncomputable def C92 : FnSpec := { ps := [.val (.slice TGLink), .val (.slice TGLink)], rs := [.val .bool], fn := fun x => l_eqTowerS x.1 x.2 }
noncomputable def E92 : Env := { T := [(32, (.slice TGLink)), (153, TGLink)], G := [(135, C135)], ro := [], loops := [(4, { keep := [0, 1], live := [.tv 5 (.int .i64)], outs := [(.exit 0, []), (.ret, [.tv 4 .bool])] })], joins := [] }
theorem E92_eq : ∀ x, afun E92 Try.f92 C92.ps C92.rs x = C92.fn x := fun x => by kernel_rfl
theorem S92 : Sound Try.prog 92 C92 := fun_sound (E := E92) ⟨good_T (by kernel_rfl), (good_cons S135 ⟨_, Try.func135, by kernel_rfl, by kernel_rfl⟩ good_nil), mixedOk, ins_nil⟩ Try.func92 rfl E92_eq
/-- laws.eqLink -/
noncomputable def l_eqLink (p_a : GLink) (p_b : GLink) : Option (Bool) :=
  bif (!decide (p_a.1 = p_b.1)) then
    some false
  else
    bif (!decide (p_a.2.1 = p_b.2.1)) then
      some false
    else
      bif (!decide (p_a.2.2.1 = p_b.2.2.1)) then
        some false
      else
        some true
noncomputable def C136 : FnSpec := { ps := [.val TGLink, .val TGLink], rs := [.val .bool], fn := fun x => l_eqLink x.1 x.2 }
noncomputable def E136 : Env := { T := [(3, (.int .i64)), (109, TGLink)], G := [], ro := [2, 3], loops := [], joins := [] }
theorem E136_eq : ∀ x, afun E136 Try.f136 C136.ps C136.rs x = C136.fn x := fun x => by kernel_rfl
theorem S136 : Sound Try.prog 136 C136 := fun_sound (E := E136) ⟨good_T (by kernel_rfl), good_nil, mixedOk, ins_nil⟩ Try.func136 rfl E136_eq
/-- laws.eqLinkS -/
noncomputable def l_eqLinkS (p_a : List GLink) (p_b : List GLink) : Option (Bool) :=
  bif (!decide ((p_a.length : Int) = (p_b.length : Int))) then
    some false
  else
    (loopE (fun (st2 : Int) => (
        bif (decide (st2 < (p_a.length : Int))) then
          (idx p_a st2).bind fun e3 =>
          (idx p_b st2).bind fun e4 =>
          (l_eqLink e3 e4).bind fun r5 =>
          bif (!r5) then
            some (.inr (.inr false))
          else
            some (.inl (w64 (st2 + 1)))
        else
          some (.inr (.inl ())) : Option ((Int) ⊕ (Unit ⊕ Bool)))) 0).bind fun o6 =>
    match o6 with
    | .inl _ =>
      some true
    | .inr y8 =>
      some y8
noncomputable def C93 : FnSpec := { ps := [.val (.slice TGLink), .val (.slice TGLink)], rs := [.val .bool], fn := fun x => l_eqLinkS x.1 x.2 }
noncomputable def E93 : Env := { T := [(33, (.slice TGLink)), (109, TGLink)], G := [(136, C136)], ro := [], loops := [(4, { keep := [0, 1], live := [.tv 5 (.int .i64)], outs := [(.exit 0, []), (.ret, [.tv 4 .bool])] })], joins := [] }
theorem E93_eq : ∀ x, afun E93 Try.f93 C93.ps C93.rs x = C93.fn x := fun x => by kernel_rfl
theorem S93 : Sound Try.prog 93 C93 := fun_sound (E := E93) ⟨good_T (by kernel_rfl), (good_cons S136 ⟨_, Try.func136, by kernel_rfl, by kernel_rfl⟩ good_nil), mixedOk, ins_nil⟩ Try.func93 rfl E93_eq
/-- laws.eqNet -/
noncomputable def l_eqNet (p_a : GNet) (p_b : GNet) : Option (Bool) :=
  (l_eqTowerS p_a.1 p_b.1).bind fun r1 =>
  bif (!r1) then
    some false
  else
    (l_eqLinkS p_a.2.1 p_b.2.1).bind fun r2 =>
    bif (!r2) then
      some false
    else
      some true
noncomputable def C34 : FnSpec := { ps := [.val TGNet, .val TGNet], rs := [.val .bool], fn := fun x => l_eqNet x.1 x.2 }
noncomputable def E34 : Env := { T := [(32, (.slice TGLink)), (33, (.slice TGLink)), (35, TGNet)], G := [(92, C92), (93, C93)], ro := [2, 3], loops := [], joins := [] }
theorem E34_eq : ∀ x, afun E34 Try.f34 C34.ps C34.rs x = C34.fn x := fun x => by kernel_rfl
theorem S34 : Sound Try.prog 34 C34 := fun_sound (E := E34) ⟨good_T (by kernel_rfl), (good_cons S92 ⟨_, Try.func92, by kernel_rfl, by kernel_rfl⟩ (good_cons S93 ⟨_, Try.func93, by kernel_rfl, by kernel_rfl⟩ good_nil)), mixedOk, ins_nil⟩ Try.func34 rfl E34_eq
/-- laws.eqFog -/
noncomputable def l_eqFog (p_a : GLink) (p_b : GLink) : Option (Bool) :=
  bif (!decide (p_a.1 = p_b.1)) then
    some false
  else
    bif (!decide (p_a.2.1 = p_b.2.1)) then
      some false
    else
      bif (!decide (p_a.2.2.1 = p_b.2.2.1)) then
        some false
      else
        some true
noncomputable def C94 : FnSpec := { ps := [.val TGLink, .val TGLink], rs := [.val .bool], fn := fun x => l_eqFog x.1 x.2 }
noncomputable def E94 : Env := { T := [(3, (.int .i64)), (120, TGLink)], G := [], ro := [2, 3], loops := [], joins := [] }
theorem E94_eq : ∀ x, afun E94 Try.f94 C94.ps C94.rs x = C94.fn x := fun x => by kernel_rfl
theorem S94 : Sound Try.prog 94 C94 := fun_sound (E := E94) ⟨good_T (by kernel_rfl), good_nil, mixedOk, ins_nil⟩ Try.func94 rfl E94_eq
/-- laws.eqFogS -/
noncomputable def l_eqFogS (p_a : List GLink) (p_b : List GLink) : Option (Bool) :=
  bif (!decide ((p_a.length : Int) = (p_b.length : Int))) then
    some false
  else
    (loopE (fun (st2 : Int) => (
        bif (decide (st2 < (p_a.length : Int))) then
          (idx p_a st2).bind fun e3 =>
          (idx p_b st2).bind fun e4 =>
          (l_eqFog e3 e4).bind fun r5 =>
          bif (!r5) then
            some (.inr (.inr false))
          else
            some (.inl (w64 (st2 + 1)))
        else
          some (.inr (.inl ())) : Option ((Int) ⊕ (Unit ⊕ Bool)))) 0).bind fun o6 =>
    match o6 with
    | .inl _ =>
      some true
    | .inr y8 =>
      some y8
noncomputable def C35 : FnSpec := { ps := [.val (.slice TGLink), .val (.slice TGLink)], rs := [.val .bool], fn := fun x => l_eqFogS x.1 x.2 }
noncomputable def E35 : Env := { T := [(36, (.slice TGLink)), (120, TGLink)], G := [(94, C94)], ro := [], loops := [(4, { keep := [0, 1], live := [.tv 5 (.int .i64)], outs := [(.exit 0, []), (.ret, [.tv 4 .bool])] })], joins := [] }
theorem E35_eq : ∀ x, afun E35 Try.f35 C35.ps C35.rs x = C35.fn x := fun x => by kernel_rfl
theorem S35 : Sound Try.prog 35 C35 := fun_sound (E := E35) ⟨good_T (by kernel_rfl), (good_cons S94 ⟨_, Try.func94, by kernel_rfl, by kernel_rfl⟩ good_nil), mixedOk, ins_nil⟩ Try.func35 rfl E35_eq
/-- laws.eqParcel -/
noncomputable def l_eqParcel (p_a : GParcel) (p_b : GParcel) : Option (Bool) :=
  bif (!decide (p_a.1 = p_b.1)) then
    some false
  else
    bif (!decide (p_a.2.1 = p_b.2.1)) then
      some false
    else
      bif (!decide (p_a.2.2.1 = p_b.2.2.1)) then
        some false
      else
        bif (!decide (p_a.2.2.2.1 = p_b.2.2.2.1)) then
          some false
        else
          bif (!decide (p_a.2.2.2.2.1 = p_b.2.2.2.2.1)) then
            some false
          else
            bif (!decide (p_a.2.2.2.2.2.1 = p_b.2.2.2.2.2.1)) then
              some false
            else
              some true
noncomputable def C126 : FnSpec := { ps := [.val TGParcel, .val TGParcel], rs := [.val .bool], fn := fun x => l_eqParcel x.1 x.2 }
noncomputable def E126 : Env := { T := [(3, (.int .i64)), (88, TGParcel)], G := [], ro := [2, 3], loops := [], joins := [] }
theorem E126_eq : ∀ x, afun E126 Try.f126 C126.ps C126.rs x = C126.fn x := fun x => by kernel_rfl
theorem S126 : Sound Try.prog 126 C126 := fun_sound (E := E126) ⟨good_T (by kernel_rfl), good_nil, mixedOk, ins_nil⟩ Try.func126 rfl E126_eq
/-- laws.eqParcelS -/
noncomputable def l_eqParcelS (p_a : List GParcel) (p_b : List GParcel) : Option (Bool) :=
  bif (!decide ((p_a.length : Int) = (p_b.length : Int))) then
    some false
  else
    (loopE (fun (st2 : Int) => (
        bif (decide (st2 < (p_a.length : Int))) then
          (idx p_a st2).bind fun e3 =>
          (idx p_b st2).bind fun e4 =>
          (l_eqParcel e3 e4).bind fun r5 =>
          bif (!r5) then
            some (.inr (.inr false))
          else
            some (.inl (w64 (st2 + 1)))
        else
          some (.inr (.inl ())) : Option ((Int) ⊕ (Unit ⊕ Bool)))) 0).bind fun o6 =>
    match o6 with
    | .inl _ =>
      some true
    | .inr y8 =>
      some y8
noncomputable def C75 : FnSpec := { ps := [.val (.slice TGParcel), .val (.slice TGParcel)], rs := [.val .bool], fn := fun x => l_eqParcelS x.1 x.2 }
noncomputable def E75 : Env := { T := [(37, (.slice TGParcel)), (88, TGParcel)], G := [(126, C126)], ro := [], loops := [(4, { keep := [0, 1], live := [.tv 5 (.int .i64)], outs := [(.exit 0, []), (.ret, [.tv 4 .bool])] })], joins := [] }
theorem E75_eq : ∀ x, afun E75 Try.f75 C75.ps C75.rs x = C75.fn x := fun x => by kernel_rfl
theorem S75 : Sound Try.prog 75 C75 := fun_sound (E := E75) ⟨good_T (by kernel_rfl), (good_cons S126 ⟨_, Try.func126, by kernel_rfl, by kernel_rfl⟩ good_nil), mixedOk, ins_nil⟩ Try.func75 rfl E75_eq
/-- laws.eqNetwork -/
noncomputable def l_eqNetwork (p_a : GNetwork) (p_b : GNetwork) : Option (Bool) :=
  (l_eqNet p_a.1 p_b.1).bind fun r1 =>
  bif (!r1) then
    some false
  else
    (l_eqFogS p_a.2.1 p_b.2.1).bind fun r2 =>
    bif (!r2) then
      some false
    else
      bif (!decide (p_a.2.2.1 = p_b.2.2.1)) then
        some false
      else
        (l_eqParcelS p_a.2.2.2.1 p_b.2.2.2.1).bind fun r3 =>
        bif (!r3) then
          some false
        else
          some true
noncomputable def C19 : FnSpec := { ps := [.val TGNetwork, .val TGNetwork], rs := [.val .bool], fn := fun x => l_eqNetwork x.1 x.2 }
noncomputable def E19 : Env := { T := [(3, (.int .i64)), (35, TGNet), (36, (.slice TGLink)), (37, (.slice TGParcel)), (39, TGNetwork)], G := [(34, C34), (35, C35), (75, C75)], ro := [2, 3], loops := [], joins := [] }
theorem E19_eq : ∀ x, afun E19 Try.f19 C19.ps C19.rs x = C19.fn x := fun x => by kernel_rfl
theorem S19 : Sound Try.prog 19 C19 := fun_sound (E := E19) ⟨good_T (by kernel_rfl), (good_cons S34 ⟨_, Try.func34, by kernel_rfl, by kernel_rfl⟩ (good_cons S35 ⟨_, Try.func35, by kernel_rfl, by kernel_rfl⟩ (good_cons S75 ⟨_, Try.func75, by kernel_rfl, by kernel_rfl⟩ good_nil))), mixedOk, ins_nil⟩ Try.func19 rfl E19_eq
/-- laws.FnExactIsNetwork -/
noncomputable def l_FnExactIsNetwork (p_aW : GNetwork) : Option (Bool) :=
  (l_szNetwork p_aW 1048576).bind fun r1 =>
  bif (decide (r1 < 0)) then
    some true
  else
    (l_toNetwork p_aW).bind fun r2 =>
    (s_IsNetwork r2).bind fun r3 =>
    (l_toNetwork p_aW).bind fun r4 =>
    (i_IsNetwork r4).bind fun r5 =>
    bif (r5 != r3) then
      some false
    else
      (l_toNetwork p_aW).bind fun r6 =>
      (l_eqNetwork r4 r6).bind fun r7 =>
      bif (!r7) then
        some false
      else
        some true
noncomputable def C3 : FnSpec := { ps := [.val TGNetwork], rs := [.val .bool], fn := fun x => l_FnExactIsNetwork x }
noncomputable def E3 : Env := { T := [(4, .bool), (29, TGNetwork), (39, TGNetwork)], G := [(15, C15), (16, C16), (17, C17), (18, C18), (19, C19)], ro := [1], loops := [], joins := [] }
theorem E3_eq : ∀ x, afun E3 Try.f3 C3.ps C3.rs x = C3.fn x := fun x => by kernel_rfl
theorem S3 : Sound Try.prog 3 C3 := fun_sound (E := E3) ⟨good_T (by kernel_rfl), (good_cons S15 ⟨_, Try.func15, by kernel_rfl, by kernel_rfl⟩ (good_cons S16 ⟨_, Try.func16, by kernel_rfl, by kernel_rfl⟩ (good_cons S17 ⟨_, Try.func17, by kernel_rfl, by kernel_rfl⟩ (good_cons S18 ⟨_, Try.func18, by kernel_rfl, by kernel_rfl⟩ (good_cons S19 ⟨_, Try.func19, by kernel_rfl, by kernel_rfl⟩ good_nil))))), mixedOk, ins_nil⟩ Try.func3 rfl E3_eq
/-- spec.neLink -/
noncomputable def s_neLink (p_n : GNet) (p_a : Int) (p_b : Int) : Option (Int) :=
  (loopE (fun (st2 : Int) => (
      bif (decide (st2 < (p_n.2.1.length : Int))) then
        (idx p_n.2.1 st2).bind fun e3 =>
        (bif (decide (e3.1 = p_a)) then
            some (decide (e3.2.1 = p_b))
          else
            some false).bind fun c4 =>
        (bif c4 then
            some true
          else
            (bif (decide (e3.1 = p_b)) then
                some (decide (e3.2.1 = p_a))
              else
                some false).bind fun c5 =>
            some c5).bind fun c6 =>
        bif c6 then
          some (.inr (.inr st2))
        else
          some (.inl (w64 (st2 + 1)))
      else
        some (.inr (.inl ())) : Option ((Int) ⊕ (Unit ⊕ Int)))) 0).bind fun o7 =>
  match o7 with
  | .inl _ =>
    some (-1)
  | .inr y9 =>
    some y9
noncomputable def C77 : FnSpec := { ps := [.val TGNet, .val (.int .i64), .val (.int .i64)], rs := [.val (.int .i64)], fn := fun x => s_neLink x.1 x.2.1 x.2.2 }
noncomputable def E77 : Env := { T := [(3, (.int .i64)), (33, (.slice TGLink)), (35, TGNet), (109, TGLink)], G := [], ro := [3], loops := [(2, { keep := [1, 2, 10, 11], live := [.tv 12 (.int .i64)], outs := [(.exit 0, []), (.ret, [.tv 6 (.int .i64)])] })], joins := [] }
theorem E77_eq : ∀ x, afun E77 Try.f77 C77.ps C77.rs x = C77.fn x := fun x => by kernel_rfl
theorem S77 : Sound Try.prog 77 C77 := fun_sound (E := E77) ⟨good_T (by kernel_rfl), good_nil, mixedOk, ins_nil⟩ Try.func77 rfl E77_eq
/-- spec.neNext -/
noncomputable def s_neNext (p_n : GNet) (p_i : Int) : Option ((List Int)) :=
  (loopE (fun (st2 : (List Int) × Int) => (
      bif (decide (st2.2 < (p_n.1.length : Int))) then
        (s_neLink p_n p_i st2.2).bind fun r3 =>
        bif (decide (0 ≤ r3)) then
          bif decide (List.length st2.1 + List.length [st2.2] ≤ lim) then
            some (.inl ((st2.1 ++ [st2.2]), (w64 (st2.2 + 1))))
          else
            none
        else
          some (.inl (st2.1, (w64 (st2.2 + 1))))
      else
        some (.inr st2.1) : Option (((List Int) × Int) ⊕ ((List Int))))) ([], 0)).bind fun o4 =>
  some o4
noncomputable def C76 : FnSpec := { ps := [.val TGNet, .val (.int .i64)], rs := [.own (.slice (.int .i64))], fn := fun x => s_neNext x.1 x.2 }
noncomputable def E76 : Env := { T := [(32, (.slice TGLink)), (35, TGNet), (45, (.slice (.int .i64)))], G := [(77, C77)], ro := [2], loops := [(3, { keep := [1, 2, 9], live := [.own 5 [] 200005 (.int .i64) true, .tv 10 (.int .i64)], outs := [(.exit 0, [.own 5 [] 200005 (.int .i64) true])] })], joins := [] }
theorem E76_eq : ∀ x, afun E76 Try.f76 C76.ps C76.rs x = C76.fn x := fun x => by kernel_rfl
theorem S76 : Sound Try.prog 76 C76 := fun_sound (E := E76) ⟨good_T (by kernel_rfl), (good_cons S77 ⟨_, Try.func77, by kernel_rfl, by kernel_rfl⟩ good_nil), mixedOk, ins_nil⟩ Try.func76 rfl E76_eq
/-- spec.fgStart -/
noncomputable def s_fgStart (p_l : List GLink) (p_link : Int) (p_t : Int) (p_seconds : Int) : Option (Int) :=
  (loopE (fun (st2 : Int × Int) => (
      bif (decide (st2.2 < (p_l.length : Int))) then
        (idx p_l st2.2).bind fun e3 =>
        (bif (decide (e3.1 = p_link)) then
            some (decide (st2.1 < e3.2.2.1))
          else
            some false).bind fun c4 =>
        (bif c4 then
            some (decide (e3.2.1 < (w64 (st2.1 + p_seconds))))
          else
            some false).bind fun c5 =>
        bif c5 then
          some (.inl (e3.2.2.1, (w64 (st2.2 + 1))))
        else
          some (.inl (st2.1, (w64 (st2.2 + 1))))
      else
        some (.inr st2.1) : Option ((Int × Int) ⊕ (Int)))) (p_t, 0)).bind fun o6 =>
  some o6
noncomputable def C78 : FnSpec := { ps := [.val (.slice TGLink), .val (.int .i64), .val (.int .i64), .val (.int .i64)], rs := [.val (.int .i64)], fn := fun x => s_fgStart x.1 x.2.1 x.2.2.1 x.2.2.2 }
noncomputable def E78 : Env := { T := [(3, (.int .i64)), (36, (.slice TGLink)), (120, TGLink)], G := [], ro := [], loops := [(2, { keep := [1, 3, 11, 12], live := [.tv 2 (.int .i64), .tv 13 (.int .i64)], outs := [(.exit 0, [.tv 2 (.int .i64)])] })], joins := [] }
theorem E78_eq : ∀ x, afun E78 Try.f78 C78.ps C78.rs x = C78.fn x := fun x => by kernel_rfl
theorem S78 : Sound Try.prog 78 C78 := fun_sound (E := E78) ⟨good_T (by kernel_rfl), good_nil, mixedOk, ins_nil⟩ Try.func78 rfl E78_eq
/-- spec.l1Most -/
noncomputable def s_l1Most (p_a : Int) (p_b : Int) : Option (Int) :=
  bif (decide (p_b < p_a)) then
    some p_a
  else
    some p_b
noncomputable def C79 : FnSpec := { ps := [.val (.int .i64), .val (.int .i64)], rs := [.val (.int .i64)], fn := fun x => s_l1Most x.1 x.2 }
noncomputable def E79 : Env := { T := [], G := [], ro := [], loops := [], joins := [] }
theorem E79_eq : ∀ x, afun E79 Try.f79 C79.ps C79.rs x = C79.fn x := fun x => by kernel_rfl
theorem S79 : Sound Try.prog 79 C79 := fun_sound (E := E79) ⟨good_T (by kernel_rfl), good_nil, mixedOk, ins_nil⟩ Try.func79 rfl E79_eq
/-- spec.NextMoment -/
noncomputable def s_NextMoment (p_w : GNetwork) : Option (Int × Bool) :=
  (s_nwGood p_w).bind fun r1 =>
  bif (!r1) then
    some (0, false)
  else
    (loopE (fun (st3 : Int × Int) => (
        bif (decide (st3.2 < (p_w.2.2.2.1.length : Int))) then
          (idx p_w.2.2.2.1 st3.2).bind fun e4 =>
          (s_neNext p_w.1 e4.2.2.2.1).bind fun r5 =>
          (loopE (fun (st7 : Int × Int × Int × Int × Int × Int × Int × (List Int) × Int) => (
              bif (decide (st7.2.2.2.2.2.2.2.2 < (r5.length : Int))) then
                bif decide (0 ≤ st7.2.2.2.2.2.2.2.2) && decide (st7.2.2.2.2.2.2.2.2 < (st7.2.2.2.2.2.2.2.1.length : Int)) then
                  (st7.2.2.2.2.2.2.2.1[(Int.toNat st7.2.2.2.2.2.2.2.2)]?).bind fun e8 =>
                  (s_neLink p_w.1 st7.2.2.2.2.1 e8).bind fun r9 =>
                  (s_l1Most p_w.2.2.1 st7.2.2.2.2.2.2.1).bind fun r10 =>
                  (idx p_w.1.2.1 r9).bind fun e11 =>
                  (s_fgStart p_w.2.1 r9 r10 e11.2.2.1).bind fun r12 =>
                  (bif (!decide (st7.2.2.2.2.1 = st7.2.2.2.2.2.1)) then
                      (s_fgTime r12).bind fun r13 =>
                      some r13
                    else
                      some false).bind fun c14 =>
                  (bif c14 then
                      (bif (decide (st7.1 < 0)) then
                          some true
                        else
                          some (decide (r12 < st7.1))).bind fun c15 =>
                      some c15
                    else
                      some false).bind fun c16 =>
                  bif c16 then
                    some (.inl (r12, st7.2.1, st7.2.2.1, st7.2.2.2.1, st7.2.2.2.2.1, st7.2.2.2.2.2.1, st7.2.2.2.2.2.2.1, st7.2.2.2.2.2.2.2.1, (w64 (st7.2.2.2.2.2.2.2.2 + 1))))
                  else
                    some (.inl (st7.1, st7.2.1, st7.2.2.1, st7.2.2.2.1, st7.2.2.2.2.1, st7.2.2.2.2.2.1, st7.2.2.2.2.2.2.1, st7.2.2.2.2.2.2.2.1, (w64 (st7.2.2.2.2.2.2.2.2 + 1))))
                else
                  none
              else
                some (.inr st7.1) : Option ((Int × Int × Int × Int × Int × Int × Int × (List Int) × Int) ⊕ (Int)))) (st3.1, e4.1, e4.2.1, e4.2.2.1, e4.2.2.2.1, e4.2.2.2.2.1, e4.2.2.2.2.2.1, r5, 0)).bind fun o17 =>
          some (.inl (o17, (w64 (st3.2 + 1))))
        else
          some (.inr st3.1) : Option ((Int × Int) ⊕ (Int)))) ((-1), 0)).bind fun o18 =>
    bif (decide (o18 < 0)) then
      some (0, false)
    else
      some (o18, true)
noncomputable def C20 : FnSpec := { ps := [.val TGNetwork], rs := [.val (.int .i64), .val .bool], fn := fun x => s_NextMoment x }
noncomputable def E20 : Env := { T := [(3, (.int .i64)), (33, (.slice TGLink)), (35, TGNet), (36, (.slice TGLink)), (37, (.slice TGParcel)), (39, TGNetwork), (45, (.slice (.int .i64))), (88, TGParcel), (109, TGLink)], G := [(70, C70), (76, C76), (77, C77), (78, C78), (79, C79), (80, C80)], ro := [1], loops := [(5, { keep := [1, 15, 16], live := [.tv 4 (.int .i64), .tv 17 (.int .i64)], outs := [(.exit 0, [.tv 4 (.int .i64)])] }), (8, { keep := [1, 15, 16, 17, 26], live := [.tv 4 (.int .i64), .bx 6 96 [.pv (.int .i64), .pv (.int .i64), .pv (.int .i64), .pv (.int .i64), .pv (.int .i64), .pv (.int .i64)], .own 25 [] 400 (.int .i64) true, .tv 27 (.int .i64)], outs := [(.exit 2, [.tv 4 (.int .i64)])] })], joins := [] }
theorem E20_eq : ∀ x, afun E20 Try.f20 C20.ps C20.rs x = C20.fn x := fun x => by kernel_rfl
theorem S20 : Sound Try.prog 20 C20 := fun_sound (E := E20) ⟨good_T (by kernel_rfl), (good_cons S70 ⟨_, Try.func70, by kernel_rfl, by kernel_rfl⟩ (good_cons S76 ⟨_, Try.func76, by kernel_rfl, by kernel_rfl⟩ (good_cons S77 ⟨_, Try.func77, by kernel_rfl, by kernel_rfl⟩ (good_cons S78 ⟨_, Try.func78, by kernel_rfl, by kernel_rfl⟩ (good_cons S79 ⟨_, Try.func79, by kernel_rfl, by kernel_rfl⟩ (good_cons S80 ⟨_, Try.func80, by kernel_rfl, by kernel_rfl⟩ good_nil)))))), mixedOk, ins_nil⟩ Try.func20 rfl E20_eq
/-- impl.linkIndex$1 -/
noncomputable def i_linkIndex_1 (p_x : GLink) (p_a1 : Int) (p_a2 : Int) : Option (Bool) :=
  (bif (decide (p_x.1 = (bif decide (p_a2 < p_a1) then p_a2 else p_a1))) then
      some (decide (p_x.2.1 = (bif decide (p_a1 < p_a2) then p_a2 else p_a1)))
    else
      some false).bind fun c1 =>
  some c1
noncomputable def C155 : FnSpec := { ps := [.val TGLink, .rp (.int .i64), .rp (.int .i64)], rs := [.val .bool], fn := fun x => i_linkIndex_1 x.1 x.2.1 x.2.2 }
noncomputable def E155 : Env := { T := [(3, (.int .i64)), (109, TGLink)], G := [], ro := [3], loops := [], joins := [] }
theorem E155_eq : ∀ x, afun E155 Try.f155 C155.ps C155.rs x = C155.fn x := fun x => by kernel_rfl
theorem S155 : Sound Try.prog 155 C155 := fun_sound (E := E155) ⟨good_T (by kernel_rfl), good_nil, mixedOk, ins_nil⟩ Try.func155 rfl E155_eq
/-- slices.IndexFunc[[]impl.Link,impl.Link] -/
noncomputable def slices_IndexFunc_Link_155 (p_s : List GLink) (p_f : Int × Int × Unit) : Option (Int) :=
  (loopE (fun (st2 : Int) => (
      bif (decide (st2 < (p_s.length : Int))) then
        (idx p_s st2).bind fun e3 =>
        (i_linkIndex_1 e3 p_f.1 p_f.2.1).bind fun r4 =>
        bif r4 then
          some (.inr (.inr st2))
        else
          some (.inl (w64 (st2 + 1)))
      else
        some (.inr (.inl ())) : Option ((Int) ⊕ (Unit ⊕ Int)))) 0).bind fun o5 =>
  match o5 with
  | .inl _ =>
    some (-1)
  | .inr y7 =>
    some y7
noncomputable def C154_155 : FnSpec := { ps := [.val (.slice TGLink), .fn 155 [(.int .i64), (.int .i64)]], rs := [.val (.int .i64)], fn := fun x => slices_IndexFunc_Link_155 x.1 x.2 }
noncomputable def E154_155 : Env := { T := [(33, (.slice TGLink)), (109, TGLink)], G := [(155, C155)], ro := [], loops := [(2, { keep := [0, 1, 7], live := [.tv 8 (.int .i64)], outs := [(.exit 0, []), (.ret, [.tv 4 (.int .i64)])] })], joins := [] }
theorem E154_155_eq : ∀ x, afun E154_155 Try.f154 C154_155.ps C154_155.rs x = C154_155.fn x := fun x => by kernel_rfl
theorem S154_155 : Sound Try.prog 154 C154_155 := fun_sound (E := E154_155) ⟨good_T (by kernel_rfl), (good_cons S155 ⟨_, Try.func155, by kernel_rfl, by kernel_rfl⟩ good_nil), mixedOk, ins_nil⟩ Try.func154 rfl E154_155_eq
/-- impl.linkIndex -/
noncomputable def i_linkIndex (p_n : GNet) (p_a : Int) (p_b : Int) : Option (Int) :=
  (slices_IndexFunc_Link_155 p_n.2.1 (p_a, p_b, ())).bind fun r1 =>
  some r1
noncomputable def C128 : FnSpec := { ps := [.val TGNet, .val (.int .i64), .val (.int .i64)], rs := [.val (.int .i64)], fn := fun x => i_linkIndex x.1 x.2.1 x.2.2 }
noncomputable def E128 : Env := { T := [(3, (.int .i64)), (33, (.slice TGLink)), (35, TGNet)], G := [(154, C154_155)], ro := [3, 4, 5], loops := [], joins := [] }
theorem E128_eq : ∀ x, afun E128 Try.f128 C128.ps C128.rs x = C128.fn x := fun x => by kernel_rfl
theorem S128 : Sound Try.prog 128 C128 := fun_sound (E := E128) ⟨good_T (by kernel_rfl), (good_cons S154_155 ⟨_, Try.func154, by kernel_rfl, by kernel_rfl⟩ good_nil), mixedOk, ins_nil⟩ Try.func128 rfl E128_eq
/-- impl.startAfter -/
noncomputable def i_startAfter (p_l : List GLink) (p_link : Int) (p_t : Int) (p_seconds : Int) : Option (Int) :=
  (loopE (fun (st2 : Int × Int) => (
      bif (decide (st2.2 < (p_l.length : Int))) then
        (idx p_l st2.2).bind fun e3 =>
        (bif (decide (e3.1 = p_link)) then
            some (decide (st2.1 < e3.2.2.1))
          else
            some false).bind fun c4 =>
        (bif c4 then
            some (decide (e3.2.1 < (w64 (st2.1 + p_seconds))))
          else
            some false).bind fun c5 =>
        bif c5 then
          some (.inl (e3.2.2.1, (w64 (st2.2 + 1))))
        else
          some (.inl (st2.1, (w64 (st2.2 + 1))))
      else
        some (.inr st2.1) : Option ((Int × Int) ⊕ (Int)))) (p_t, 0)).bind fun o6 =>
  some o6
noncomputable def C129 : FnSpec := { ps := [.val (.slice TGLink), .val (.int .i64), .val (.int .i64), .val (.int .i64)], rs := [.val (.int .i64)], fn := fun x => i_startAfter x.1 x.2.1 x.2.2.1 x.2.2.2 }
noncomputable def E129 : Env := { T := [(3, (.int .i64)), (36, (.slice TGLink)), (120, TGLink)], G := [], ro := [], loops := [(2, { keep := [1, 3, 11, 12], live := [.tv 2 (.int .i64), .tv 13 (.int .i64)], outs := [(.exit 0, [.tv 2 (.int .i64)])] })], joins := [] }
theorem E129_eq : ∀ x, afun E129 Try.f129 C129.ps C129.rs x = C129.fn x := fun x => by kernel_rfl
theorem S129 : Sound Try.prog 129 C129 := fun_sound (E := E129) ⟨good_T (by kernel_rfl), good_nil, mixedOk, ins_nil⟩ Try.func129 rfl E129_eq
/-- impl.passStart -/
noncomputable def i_passStart (p_w : GNetwork) (p_x : GParcel) (p_tower : Int) : Option (Int × Bool) :=
  (i_linkIndex p_w.1 p_x.2.2.2.1 p_tower).bind fun r1 =>
  (bif (decide (r1 < 0)) then
      some true
    else
      some (decide (p_x.2.2.2.1 = p_x.2.2.2.2.1))).bind fun c2 =>
  bif c2 then
    some (0, false)
  else
    (idx p_w.1.2.1 r1).bind fun e3 =>
    (i_startAfter p_w.2.1 r1 (bif decide (p_w.2.2.1 < p_x.2.2.2.2.2.1) then p_x.2.2.2.2.2.1 else p_w.2.2.1) e3.2.2.1).bind fun r4 =>
    some (r4, true)
noncomputable def C81 : FnSpec := { ps := [.val TGNetwork, .val TGParcel, .val (.int .i64)], rs := [.val (.int .i64), .val .bool], fn := fun x => i_passStart x.1 x.2.1 x.2.2 }
noncomputable def E81 : Env := { T := [(3, (.int .i64)), (33, (.slice TGLink)), (35, TGNet), (36, (.slice TGLink)), (39, TGNetwork), (88, TGParcel), (109, TGLink)], G := [(128, C128), (129, C129)], ro := [3, 4], loops := [], joins := [] }
theorem E81_eq : ∀ x, afun E81 Try.f81 C81.ps C81.rs x = C81.fn x := fun x => by kernel_rfl
theorem S81 : Sound Try.prog 81 C81 := fun_sound (E := E81) ⟨good_T (by kernel_rfl), (good_cons S128 ⟨_, Try.func128, by kernel_rfl, by kernel_rfl⟩ (good_cons S129 ⟨_, Try.func129, by kernel_rfl, by kernel_rfl⟩ good_nil)), mixedOk, ins_nil⟩ Try.func81 rfl E81_eq
/-- impl.NextMoment -/
noncomputable def i_NextMoment (p_w : GNetwork) : Option (Int × Bool) :=
  (i_IsNetwork p_w).bind fun r1 =>
  bif (!r1) then
    some (0, false)
  else
    (loopE (fun (st3 : Int × Int) => (
        bif (decide (st3.2 < (p_w.2.2.2.1.length : Int))) then
          (idx p_w.2.2.2.1 st3.2).bind fun e4 =>
          (loopE (fun (st6 : Int × Int × Int × Int × Int × Int × Int × Int) => (
              bif (decide (st6.2.2.2.2.2.2.2 < (p_w.1.1.length : Int))) then
                (i_passStart p_w (st6.2.1, st6.2.2.1, st6.2.2.2.1, st6.2.2.2.2.1, st6.2.2.2.2.2.1, st6.2.2.2.2.2.2.1, ()) st6.2.2.2.2.2.2.2).bind fun r7 =>
                bif r7.2 then
                  some (.inl ((bif decide (r7.1 < st6.1) then r7.1 else st6.1), st6.2.1, st6.2.2.1, st6.2.2.2.1, st6.2.2.2.2.1, st6.2.2.2.2.2.1, st6.2.2.2.2.2.2.1, (w64 (st6.2.2.2.2.2.2.2 + 1))))
                else
                  some (.inl (st6.1, st6.2.1, st6.2.2.1, st6.2.2.2.1, st6.2.2.2.2.1, st6.2.2.2.2.2.1, st6.2.2.2.2.2.2.1, (w64 (st6.2.2.2.2.2.2.2 + 1))))
              else
                some (.inr st6.1) : Option ((Int × Int × Int × Int × Int × Int × Int × Int) ⊕ (Int)))) (st3.1, e4.1, e4.2.1, e4.2.2.1, e4.2.2.2.1, e4.2.2.2.2.1, e4.2.2.2.2.2.1, 0)).bind fun o8 =>
          some (.inl (o8, (w64 (st3.2 + 1))))
        else
          some (.inr st3.1) : Option ((Int × Int) ⊕ (Int)))) (10001, 0)).bind fun o9 =>
    bif (decide (10000 < o9)) then
      some (0, false)
    else
      some (o9, true)
noncomputable def C21 : FnSpec := { ps := [.val TGNetwork], rs := [.val (.int .i64), .val .bool], fn := fun x => i_NextMoment x }
noncomputable def E21 : Env := { T := [(32, (.slice TGLink)), (35, TGNet), (37, (.slice TGParcel)), (39, TGNetwork), (88, TGParcel)], G := [(18, C18), (81, C81)], ro := [1], loops := [(5, { keep := [1, 14, 15], live := [.tv 4 (.int .i64), .tv 16 (.int .i64)], outs := [(.exit 0, [.tv 4 (.int .i64)])] }), (8, { keep := [1, 14, 15, 16, 23], live := [.tv 4 (.int .i64), .bx 6 96 [.pv (.int .i64), .pv (.int .i64), .pv (.int .i64), .pv (.int .i64), .pv (.int .i64), .pv (.int .i64)], .tv 24 (.int .i64)], outs := [(.exit 2, [.tv 4 (.int .i64)])] })], joins := [] }
theorem E21_eq : ∀ x, afun E21 Try.f21 C21.ps C21.rs x = C21.fn x := fun x => by kernel_rfl
theorem S21 : Sound Try.prog 21 C21 := fun_sound (E := E21) ⟨good_T (by kernel_rfl), (good_cons S18 ⟨_, Try.func18, by kernel_rfl, by kernel_rfl⟩ (good_cons S81 ⟨_, Try.func81, by kernel_rfl, by kernel_rfl⟩ good_nil)), mixedOk, ins_nil⟩ Try.func21 rfl E21_eq
/-- laws.FnExactNextMoment -/
noncomputable def l_FnExactNextMoment (p_aW : GNetwork) : Option (Bool) :=
  (l_szNetwork p_aW 1048576).bind fun r1 =>
  bif (decide (r1 < 0)) then
    some true
  else
    (l_toNetwork p_aW).bind fun r2 =>
    (s_NextMoment r2).bind fun r3 =>
    (l_toNetwork p_aW).bind fun r4 =>
    (i_NextMoment r4).bind fun r5 =>
    (bif (!decide (r5.1 = r3.1)) then
        some true
      else
        some (r5.2 != r3.2)).bind fun c6 =>
    bif c6 then
      some false
    else
      (l_toNetwork p_aW).bind fun r7 =>
      (l_eqNetwork r4 r7).bind fun r8 =>
      bif (!r8) then
        some false
      else
        some true
noncomputable def C4 : FnSpec := { ps := [.val TGNetwork], rs := [.val .bool], fn := fun x => l_FnExactNextMoment x }
noncomputable def E4 : Env := { T := [(4, .bool), (29, TGNetwork), (39, TGNetwork)], G := [(15, C15), (17, C17), (19, C19), (20, C20), (21, C21)], ro := [1], loops := [], joins := [] }
theorem E4_eq : ∀ x, afun E4 Try.f4 C4.ps C4.rs x = C4.fn x := fun x => by kernel_rfl
theorem S4 : Sound Try.prog 4 C4 := fun_sound (E := E4) ⟨good_T (by kernel_rfl), (good_cons S15 ⟨_, Try.func15, by kernel_rfl, by kernel_rfl⟩ (good_cons S17 ⟨_, Try.func17, by kernel_rfl, by kernel_rfl⟩ (good_cons S19 ⟨_, Try.func19, by kernel_rfl, by kernel_rfl⟩ (good_cons S20 ⟨_, Try.func20, by kernel_rfl, by kernel_rfl⟩ (good_cons S21 ⟨_, Try.func21, by kernel_rfl, by kernel_rfl⟩ good_nil))))), mixedOk, ins_nil⟩ Try.func4 rfl E4_eq
/-- spec.nwFind -/
noncomputable def s_nwFind (p_w : GNetwork) (p_message : Int) (p_part : Int) : Option (Int) :=
  (loopE (fun (st2 : Int) => (
      bif (decide (st2 < (p_w.2.2.2.1.length : Int))) then
        (idx p_w.2.2.2.1 st2).bind fun e3 =>
        (bif (decide (e3.1 = p_message)) then
            some (decide (e3.2.1 = p_part))
          else
            some false).bind fun c4 =>
        bif c4 then
          some (.inr (.inr st2))
        else
          some (.inl (w64 (st2 + 1)))
      else
        some (.inr (.inl ())) : Option ((Int) ⊕ (Unit ⊕ Int)))) 0).bind fun o5 =>
  match o5 with
  | .inl _ =>
    some (-1)
  | .inr y7 =>
    some y7
noncomputable def C82 : FnSpec := { ps := [.val TGNetwork, .val (.int .i64), .val (.int .i64)], rs := [.val (.int .i64)], fn := fun x => s_nwFind x.1 x.2.1 x.2.2 }
noncomputable def E82 : Env := { T := [(3, (.int .i64)), (37, (.slice TGParcel)), (39, TGNetwork), (88, TGParcel)], G := [], ro := [3], loops := [(2, { keep := [1, 2, 10, 11], live := [.tv 12 (.int .i64)], outs := [(.exit 0, []), (.ret, [.tv 6 (.int .i64)])] })], joins := [] }
theorem E82_eq : ∀ x, afun E82 Try.f82 C82.ps C82.rs x = C82.fn x := fun x => by kernel_rfl
theorem S82 : Sound Try.prog 82 C82 := fun_sound (E := E82) ⟨good_T (by kernel_rfl), good_nil, mixedOk, ins_nil⟩ Try.func82 rfl E82_eq
/-- spec.WhereIs -/
noncomputable def s_WhereIs (p_w : GNetwork) (p_message : Int) : Option ((List Int) × Bool) :=
  (s_nwGood p_w).bind fun r1 =>
  (bif (!r1) then
      some true
    else
      (s_nwFind p_w p_message 0).bind fun r2 =>
      some (decide (r2 < 0))).bind fun c3 =>
  bif c3 then
    some ([], false)
  else
    (loopE (fun (st5 : (List Int) × Int) => (
        bif (decide (st5.2 < (p_w.2.2.2.1.length : Int))) then
          (idx p_w.2.2.2.1 st5.2).bind fun e6 =>
          bif (decide (e6.1 = p_message)) then
            bif decide (List.length st5.1 + List.length [e6.2.2.2.1] ≤ lim) then
              some (.inl ((st5.1 ++ [e6.2.2.2.1]), (w64 (st5.2 + 1))))
            else
              none
          else
            some (.inl (st5.1, (w64 (st5.2 + 1))))
        else
          some (.inr st5.1) : Option (((List Int) × Int) ⊕ ((List Int))))) ([], 0)).bind fun o7 =>
    some (o7, true)
noncomputable def C22 : FnSpec := { ps := [.val TGNetwork, .val (.int .i64)], rs := [.own (.slice (.int .i64)), .val .bool], fn := fun x => s_WhereIs x.1 x.2 }
noncomputable def E22 : Env := { T := [(3, (.int .i64)), (37, (.slice TGParcel)), (39, TGNetwork), (45, (.slice (.int .i64))), (88, TGParcel)], G := [(70, C70), (82, C82)], ro := [2], loops := [(5, { keep := [1, 19, 20], live := [.own 6 [] 200006 (.int .i64) true, .tv 21 (.int .i64)], outs := [(.exit 0, [.own 6 [] 200006 (.int .i64) true])] })], joins := [] }
theorem E22_eq : ∀ x, afun E22 Try.f22 C22.ps C22.rs x = C22.fn x := fun x => by kernel_rfl
theorem S22 : Sound Try.prog 22 C22 := fun_sound (E := E22) ⟨good_T (by kernel_rfl), (good_cons S70 ⟨_, Try.func70, by kernel_rfl, by kernel_rfl⟩ (good_cons S82 ⟨_, Try.func82, by kernel_rfl, by kernel_rfl⟩ good_nil)), mixedOk, ins_nil⟩ Try.func22 rfl E22_eq
/-- impl.WhereIs -/
noncomputable def i_WhereIs (p_w : GNetwork) (p_message : Int) : Option ((List Int) × Bool) :=
  (i_IsNetwork p_w).bind fun r1 =>
  bif (!r1) then
    some ([], false)
  else
    (loopE (fun (st3 : (List Int) × Int) => (
        bif (decide (st3.2 < (p_w.2.2.2.1.length : Int))) then
          (idx p_w.2.2.2.1 st3.2).bind fun e4 =>
          bif (decide (e4.1 = p_message)) then
            bif decide (List.length st3.1 + List.length [e4.2.2.2.1] ≤ lim) then
              some (.inl ((st3.1 ++ [e4.2.2.2.1]), (w64 (st3.2 + 1))))
            else
              none
          else
            some (.inl (st3.1, (w64 (st3.2 + 1))))
        else
          some (.inr st3.1) : Option (((List Int) × Int) ⊕ ((List Int))))) ([], 0)).bind fun o5 =>
    some (o5, (decide (0 < (o5.length : Int))))
noncomputable def C23 : FnSpec := { ps := [.val TGNetwork, .val (.int .i64)], rs := [.own (.slice (.int .i64)), .val .bool], fn := fun x => i_WhereIs x.1 x.2 }
noncomputable def E23 : Env := { T := [(3, (.int .i64)), (37, (.slice TGParcel)), (39, TGNetwork), (45, (.slice (.int .i64))), (88, TGParcel)], G := [(18, C18)], ro := [2], loops := [(5, { keep := [1, 13, 14], live := [.own 6 [] 200006 (.int .i64) true, .tv 15 (.int .i64)], outs := [(.exit 0, [.own 6 [] 200006 (.int .i64) true])] })], joins := [] }
theorem E23_eq : ∀ x, afun E23 Try.f23 C23.ps C23.rs x = C23.fn x := fun x => by kernel_rfl
theorem S23 : Sound Try.prog 23 C23 := fun_sound (E := E23) ⟨good_T (by kernel_rfl), (good_cons S18 ⟨_, Try.func18, by kernel_rfl, by kernel_rfl⟩ good_nil), mixedOk, ins_nil⟩ Try.func23 rfl E23_eq
/-- laws.eqIntS -/
noncomputable def l_eqIntS (p_a : List Int) (p_b : List Int) : Option (Bool) :=
  bif (!decide ((p_a.length : Int) = (p_b.length : Int))) then
    some false
  else
    (loopE (fun (st2 : Int) => (
        bif (decide (st2 < (p_a.length : Int))) then
          (idx p_a st2).bind fun e3 =>
          (idx p_b st2).bind fun e4 =>
          bif (!decide (e3 = e4)) then
            some (.inr (.inr false))
          else
            some (.inl (w64 (st2 + 1)))
        else
          some (.inr (.inl ())) : Option ((Int) ⊕ (Unit ⊕ Bool)))) 0).bind fun o5 =>
    match o5 with
    | .inl _ =>
      some true
    | .inr y7 =>
      some y7
noncomputable def C24 : FnSpec := { ps := [.val (.slice (.int .i64)), .val (.slice (.int .i64))], rs := [.val .bool], fn := fun x => l_eqIntS x.1 x.2 }
noncomputable def E24 : Env := { T := [(3, (.int .i64)), (45, (.slice (.int .i64)))], G := [], ro := [], loops := [(4, { keep := [0, 1], live := [.tv 5 (.int .i64)], outs := [(.exit 0, []), (.ret, [.tv 4 .bool])] })], joins := [] }
theorem E24_eq : ∀ x, afun E24 Try.f24 C24.ps C24.rs x = C24.fn x := fun x => by kernel_rfl
theorem S24 : Sound Try.prog 24 C24 := fun_sound (E := E24) ⟨good_T (by kernel_rfl), good_nil, mixedOk, ins_nil⟩ Try.func24 rfl E24_eq
/-- laws.markTowerS -/
noncomputable def l_markTowerS (p_a : List GLink) (p_k : Int) : Option ((List GLink) × Int) :=
  (loopE (fun (st2 : (List GLink) × Int × Int) => (
      bif (decide (st2.2.2 < (st2.1.length : Int))) then
        bif decide (0 ≤ st2.2.2) && decide (st2.2.2 < (st2.1.length : Int)) then
          (st2.1[(Int.toNat st2.2.2)]?).bind fun e3 =>
          bif decide (0 ≤ st2.2.2) && decide (st2.2.2 < ((st2.1.set (Int.toNat st2.2.2) (st2.2.1, e3.2)).length : Int)) then
            ((st2.1.set (Int.toNat st2.2.2) (st2.2.1, e3.2))[(Int.toNat st2.2.2)]?).bind fun e4 =>
            bif decide (0 ≤ st2.2.2) && decide (st2.2.2 < (((st2.1.set (Int.toNat st2.2.2) (st2.2.1, e3.2)).set (Int.toNat st2.2.2) (e4.1, (w64 (st2.2.1 + 1)), e4.2.2)).length : Int)) then
              (((st2.1.set (Int.toNat st2.2.2) (st2.2.1, e3.2)).set (Int.toNat st2.2.2) (e4.1, (w64 (st2.2.1 + 1)), e4.2.2))[(Int.toNat st2.2.2)]?).bind fun e5 =>
              some (.inl ((((st2.1.set (Int.toNat st2.2.2) (st2.2.1, e3.2)).set (Int.toNat st2.2.2) (e4.1, (w64 (st2.2.1 + 1)), e4.2.2)).set (Int.toNat st2.2.2) (e5.1, e5.2.1, (w64 ((w64 (st2.2.1 + 1)) + 1)), ())), (w64 ((w64 ((w64 (st2.2.1 + 1)) + 1)) + 1)), (w64 (st2.2.2 + 1))))
            else
              none
          else
            none
        else
          none
      else
        some (.inr (st2.1, st2.2.1)) : Option (((List GLink) × Int × Int) ⊕ (((List GLink) × Int))))) (p_a, p_k, 0)).bind fun o6 =>
  some (o6.1, o6.2)
noncomputable def C95 : FnSpec := { ps := [.own (.slice TGLink), .val (.int .i64)], rs := [.val (.int .i64)], fn := fun x => l_markTowerS x.1 x.2 }
noncomputable def E95 : Env := { T := [(3, (.int .i64)), (32, (.slice TGLink)), (153, TGLink)], G := [], ro := [], loops := [(2, { keep := [], live := [.own 0 [] 100000 TGLink true, .tv 1 (.int .i64), .tv 5 (.int .i64)], outs := [(.exit 0, [.own 0 [] 100000 TGLink true, .tv 1 (.int .i64)])] })], joins := [] }
theorem E95_eq : ∀ x, afun E95 Try.f95 C95.ps C95.rs x = C95.fn x := fun x => by kernel_rfl
theorem S95 : Sound Try.prog 95 C95 := fun_sound_own (E := E95) ⟨good_T (by kernel_rfl), good_nil, mixedOk, ins_nil⟩ Try.func95 rfl rfl E95_eq
/-- laws.markLinkS -/
noncomputable def l_markLinkS (p_a : List GLink) (p_k : Int) : Option ((List GLink) × Int) :=
  (loopE (fun (st2 : (List GLink) × Int × Int) => (
      bif (decide (st2.2.2 < (st2.1.length : Int))) then
        bif decide (0 ≤ st2.2.2) && decide (st2.2.2 < (st2.1.length : Int)) then
          (st2.1[(Int.toNat st2.2.2)]?).bind fun e3 =>
          bif decide (0 ≤ st2.2.2) && decide (st2.2.2 < ((st2.1.set (Int.toNat st2.2.2) (st2.2.1, e3.2)).length : Int)) then
            ((st2.1.set (Int.toNat st2.2.2) (st2.2.1, e3.2))[(Int.toNat st2.2.2)]?).bind fun e4 =>
            bif decide (0 ≤ st2.2.2) && decide (st2.2.2 < (((st2.1.set (Int.toNat st2.2.2) (st2.2.1, e3.2)).set (Int.toNat st2.2.2) (e4.1, (w64 (st2.2.1 + 1)), e4.2.2)).length : Int)) then
              (((st2.1.set (Int.toNat st2.2.2) (st2.2.1, e3.2)).set (Int.toNat st2.2.2) (e4.1, (w64 (st2.2.1 + 1)), e4.2.2))[(Int.toNat st2.2.2)]?).bind fun e5 =>
              some (.inl ((((st2.1.set (Int.toNat st2.2.2) (st2.2.1, e3.2)).set (Int.toNat st2.2.2) (e4.1, (w64 (st2.2.1 + 1)), e4.2.2)).set (Int.toNat st2.2.2) (e5.1, e5.2.1, (w64 ((w64 (st2.2.1 + 1)) + 1)), ())), (w64 ((w64 ((w64 (st2.2.1 + 1)) + 1)) + 1)), (w64 (st2.2.2 + 1))))
            else
              none
          else
            none
        else
          none
      else
        some (.inr (st2.1, st2.2.1)) : Option (((List GLink) × Int × Int) ⊕ (((List GLink) × Int))))) (p_a, p_k, 0)).bind fun o6 =>
  some (o6.1, o6.2)
noncomputable def C96 : FnSpec := { ps := [.own (.slice TGLink), .val (.int .i64)], rs := [.val (.int .i64)], fn := fun x => l_markLinkS x.1 x.2 }
noncomputable def E96 : Env := { T := [(3, (.int .i64)), (33, (.slice TGLink)), (109, TGLink)], G := [], ro := [], loops := [(2, { keep := [], live := [.own 0 [] 100000 TGLink true, .tv 1 (.int .i64), .tv 5 (.int .i64)], outs := [(.exit 0, [.own 0 [] 100000 TGLink true, .tv 1 (.int .i64)])] })], joins := [] }
theorem E96_eq : ∀ x, afun E96 Try.f96 C96.ps C96.rs x = C96.fn x := fun x => by kernel_rfl
theorem S96 : Sound Try.prog 96 C96 := fun_sound_own (E := E96) ⟨good_T (by kernel_rfl), good_nil, mixedOk, ins_nil⟩ Try.func96 rfl rfl E96_eq
/-- laws.markNet -/
noncomputable def l_markNet (p_a : GNet) (p_k : Int) : Option (GNet × Int) :=
  (l_markTowerS p_a.1 p_k).bind fun r1 =>
  (l_markLinkS p_a.2.1 r1.2).bind fun r2 =>
  some ((r1.1, r2.1, ()), r2.2)
noncomputable def C36 : FnSpec := { ps := [.own TGNet, .val (.int .i64)], rs := [.val (.int .i64)], fn := fun x => l_markNet x.1 x.2 }
noncomputable def E36 : Env := { T := [(32, (.slice TGLink)), (33, (.slice TGLink)), (35, TGNet)], G := [(95, C95), (96, C96)], ro := [], loops := [], joins := [] }
theorem E36_eq : ∀ x, afun E36 Try.f36 C36.ps C36.rs x = C36.fn x := fun x => by kernel_rfl
theorem S36 : Sound Try.prog 36 C36 := fun_sound_own (E := E36) ⟨good_T (by kernel_rfl), (good_cons S95 ⟨_, Try.func95, by kernel_rfl, by kernel_rfl⟩ (good_cons S96 ⟨_, Try.func96, by kernel_rfl, by kernel_rfl⟩ good_nil)), mixedOk, ins_nil⟩ Try.func36 rfl rfl E36_eq
/-- laws.markFogS -/
noncomputable def l_markFogS (p_a : List GLink) (p_k : Int) : Option ((List GLink) × Int) :=
  (loopE (fun (st2 : (List GLink) × Int × Int) => (
      bif (decide (st2.2.2 < (st2.1.length : Int))) then
        bif decide (0 ≤ st2.2.2) && decide (st2.2.2 < (st2.1.length : Int)) then
          (st2.1[(Int.toNat st2.2.2)]?).bind fun e3 =>
          bif decide (0 ≤ st2.2.2) && decide (st2.2.2 < ((st2.1.set (Int.toNat st2.2.2) (st2.2.1, e3.2)).length : Int)) then
            ((st2.1.set (Int.toNat st2.2.2) (st2.2.1, e3.2))[(Int.toNat st2.2.2)]?).bind fun e4 =>
            bif decide (0 ≤ st2.2.2) && decide (st2.2.2 < (((st2.1.set (Int.toNat st2.2.2) (st2.2.1, e3.2)).set (Int.toNat st2.2.2) (e4.1, (w64 (st2.2.1 + 1)), e4.2.2)).length : Int)) then
              (((st2.1.set (Int.toNat st2.2.2) (st2.2.1, e3.2)).set (Int.toNat st2.2.2) (e4.1, (w64 (st2.2.1 + 1)), e4.2.2))[(Int.toNat st2.2.2)]?).bind fun e5 =>
              some (.inl ((((st2.1.set (Int.toNat st2.2.2) (st2.2.1, e3.2)).set (Int.toNat st2.2.2) (e4.1, (w64 (st2.2.1 + 1)), e4.2.2)).set (Int.toNat st2.2.2) (e5.1, e5.2.1, (w64 ((w64 (st2.2.1 + 1)) + 1)), ())), (w64 ((w64 ((w64 (st2.2.1 + 1)) + 1)) + 1)), (w64 (st2.2.2 + 1))))
            else
              none
          else
            none
        else
          none
      else
        some (.inr (st2.1, st2.2.1)) : Option (((List GLink) × Int × Int) ⊕ (((List GLink) × Int))))) (p_a, p_k, 0)).bind fun o6 =>
  some (o6.1, o6.2)
noncomputable def C37 : FnSpec := { ps := [.own (.slice TGLink), .val (.int .i64)], rs := [.val (.int .i64)], fn := fun x => l_markFogS x.1 x.2 }
noncomputable def E37 : Env := { T := [(3, (.int .i64)), (36, (.slice TGLink)), (120, TGLink)], G := [], ro := [], loops := [(2, { keep := [], live := [.own 0 [] 100000 TGLink true, .tv 1 (.int .i64), .tv 5 (.int .i64)], outs := [(.exit 0, [.own 0 [] 100000 TGLink true, .tv 1 (.int .i64)])] })], joins := [] }
theorem E37_eq : ∀ x, afun E37 Try.f37 C37.ps C37.rs x = C37.fn x := fun x => by kernel_rfl
theorem S37 : Sound Try.prog 37 C37 := fun_sound_own (E := E37) ⟨good_T (by kernel_rfl), good_nil, mixedOk, ins_nil⟩ Try.func37 rfl rfl E37_eq
/-- laws.markParcelS -/
noncomputable def l_markParcelS (p_a : List GParcel) (p_k : Int) : Option ((List GParcel) × Int) :=
  (loopE (fun (st2 : (List GParcel) × Int × Int) => (
      bif (decide (st2.2.2 < (st2.1.length : Int))) then
        bif decide (0 ≤ st2.2.2) && decide (st2.2.2 < (st2.1.length : Int)) then
          (st2.1[(Int.toNat st2.2.2)]?).bind fun e3 =>
          bif decide (0 ≤ st2.2.2) && decide (st2.2.2 < ((st2.1.set (Int.toNat st2.2.2) (st2.2.1, e3.2)).length : Int)) then
            ((st2.1.set (Int.toNat st2.2.2) (st2.2.1, e3.2))[(Int.toNat st2.2.2)]?).bind fun e4 =>
            bif decide (0 ≤ st2.2.2) && decide (st2.2.2 < (((st2.1.set (Int.toNat st2.2.2) (st2.2.1, e3.2)).set (Int.toNat st2.2.2) (e4.1, (w64 (st2.2.1 + 1)), e4.2.2)).length : Int)) then
              (((st2.1.set (Int.toNat st2.2.2) (st2.2.1, e3.2)).set (Int.toNat st2.2.2) (e4.1, (w64 (st2.2.1 + 1)), e4.2.2))[(Int.toNat st2.2.2)]?).bind fun e5 =>
              bif decide (0 ≤ st2.2.2) && decide (st2.2.2 < ((((st2.1.set (Int.toNat st2.2.2) (st2.2.1, e3.2)).set (Int.toNat st2.2.2) (e4.1, (w64 (st2.2.1 + 1)), e4.2.2)).set (Int.toNat st2.2.2) (e5.1, e5.2.1, (w64 ((w64 (st2.2.1 + 1)) + 1)), e5.2.2.2)).length : Int)) then
                ((((st2.1.set (Int.toNat st2.2.2) (st2.2.1, e3.2)).set (Int.toNat st2.2.2) (e4.1, (w64 (st2.2.1 + 1)), e4.2.2)).set (Int.toNat st2.2.2) (e5.1, e5.2.1, (w64 ((w64 (st2.2.1 + 1)) + 1)), e5.2.2.2))[(Int.toNat st2.2.2)]?).bind fun e6 =>
                bif decide (0 ≤ st2.2.2) && decide (st2.2.2 < (((((st2.1.set (Int.toNat st2.2.2) (st2.2.1, e3.2)).set (Int.toNat st2.2.2) (e4.1, (w64 (st2.2.1 + 1)), e4.2.2)).set (Int.toNat st2.2.2) (e5.1, e5.2.1, (w64 ((w64 (st2.2.1 + 1)) + 1)), e5.2.2.2)).set (Int.toNat st2.2.2) (e6.1, e6.2.1, e6.2.2.1, (w64 ((w64 ((w64 (st2.2.1 + 1)) + 1)) + 1)), e6.2.2.2.2)).length : Int)) then
                  (((((st2.1.set (Int.toNat st2.2.2) (st2.2.1, e3.2)).set (Int.toNat st2.2.2) (e4.1, (w64 (st2.2.1 + 1)), e4.2.2)).set (Int.toNat st2.2.2) (e5.1, e5.2.1, (w64 ((w64 (st2.2.1 + 1)) + 1)), e5.2.2.2)).set (Int.toNat st2.2.2) (e6.1, e6.2.1, e6.2.2.1, (w64 ((w64 ((w64 (st2.2.1 + 1)) + 1)) + 1)), e6.2.2.2.2))[(Int.toNat st2.2.2)]?).bind fun e7 =>
                  bif decide (0 ≤ st2.2.2) && decide (st2.2.2 < ((((((st2.1.set (Int.toNat st2.2.2) (st2.2.1, e3.2)).set (Int.toNat st2.2.2) (e4.1, (w64 (st2.2.1 + 1)), e4.2.2)).set (Int.toNat st2.2.2) (e5.1, e5.2.1, (w64 ((w64 (st2.2.1 + 1)) + 1)), e5.2.2.2)).set (Int.toNat st2.2.2) (e6.1, e6.2.1, e6.2.2.1, (w64 ((w64 ((w64 (st2.2.1 + 1)) + 1)) + 1)), e6.2.2.2.2)).set (Int.toNat st2.2.2) (e7.1, e7.2.1, e7.2.2.1, e7.2.2.2.1, (w64 ((w64 ((w64 ((w64 (st2.2.1 + 1)) + 1)) + 1)) + 1)), e7.2.2.2.2.2)).length : Int)) then
                    ((((((st2.1.set (Int.toNat st2.2.2) (st2.2.1, e3.2)).set (Int.toNat st2.2.2) (e4.1, (w64 (st2.2.1 + 1)), e4.2.2)).set (Int.toNat st2.2.2) (e5.1, e5.2.1, (w64 ((w64 (st2.2.1 + 1)) + 1)), e5.2.2.2)).set (Int.toNat st2.2.2) (e6.1, e6.2.1, e6.2.2.1, (w64 ((w64 ((w64 (st2.2.1 + 1)) + 1)) + 1)), e6.2.2.2.2)).set (Int.toNat st2.2.2) (e7.1, e7.2.1, e7.2.2.1, e7.2.2.2.1, (w64 ((w64 ((w64 ((w64 (st2.2.1 + 1)) + 1)) + 1)) + 1)), e7.2.2.2.2.2))[(Int.toNat st2.2.2)]?).bind fun e8 =>
                    some (.inl (((((((st2.1.set (Int.toNat st2.2.2) (st2.2.1, e3.2)).set (Int.toNat st2.2.2) (e4.1, (w64 (st2.2.1 + 1)), e4.2.2)).set (Int.toNat st2.2.2) (e5.1, e5.2.1, (w64 ((w64 (st2.2.1 + 1)) + 1)), e5.2.2.2)).set (Int.toNat st2.2.2) (e6.1, e6.2.1, e6.2.2.1, (w64 ((w64 ((w64 (st2.2.1 + 1)) + 1)) + 1)), e6.2.2.2.2)).set (Int.toNat st2.2.2) (e7.1, e7.2.1, e7.2.2.1, e7.2.2.2.1, (w64 ((w64 ((w64 ((w64 (st2.2.1 + 1)) + 1)) + 1)) + 1)), e7.2.2.2.2.2)).set (Int.toNat st2.2.2) (e8.1, e8.2.1, e8.2.2.1, e8.2.2.2.1, e8.2.2.2.2.1, (w64 ((w64 ((w64 ((w64 ((w64 (st2.2.1 + 1)) + 1)) + 1)) + 1)) + 1)), ())), (w64 ((w64 ((w64 ((w64 ((w64 ((w64 (st2.2.1 + 1)) + 1)) + 1)) + 1)) + 1)) + 1)), (w64 (st2.2.2 + 1))))
                  else
                    none
                else
                  none
              else
                none
            else
              none
          else
            none
        else
          none
      else
        some (.inr (st2.1, st2.2.1)) : Option (((List GParcel) × Int × Int) ⊕ (((List GParcel) × Int))))) (p_a, p_k, 0)).bind fun o9 =>
  some (o9.1, o9.2)
noncomputable def C83 : FnSpec := { ps := [.own (.slice TGParcel), .val (.int .i64)], rs := [.val (.int .i64)], fn := fun x => l_markParcelS x.1 x.2 }
noncomputable def E83 : Env := { T := [(3, (.int .i64)), (37, (.slice TGParcel)), (88, TGParcel)], G := [], ro := [], loops := [(2, { keep := [], live := [.own 0 [] 100000 TGParcel true, .tv 1 (.int .i64), .tv 5 (.int .i64)], outs := [(.exit 0, [.own 0 [] 100000 TGParcel true, .tv 1 (.int .i64)])] })], joins := [] }
theorem E83_eq : ∀ x, afun E83 Try.f83 C83.ps C83.rs x = C83.fn x := fun x => by kernel_rfl
theorem S83 : Sound Try.prog 83 C83 := fun_sound_own (E := E83) ⟨good_T (by kernel_rfl), good_nil, mixedOk, ins_nil⟩ Try.func83 rfl rfl E83_eq
/-- laws.markNetwork -/
noncomputable def l_markNetwork (p_a : GNetwork) (p_k : Int) : Option (GNetwork × Int) :=
  (l_markNet p_a.1 p_k).bind fun r1 =>
  (l_markFogS p_a.2.1 r1.2).bind fun r2 =>
  (l_markParcelS p_a.2.2.2.1 r2.2).bind fun r3 =>
  some ((r1.1, r2.1, p_a.2.2.1, r3.1, ()), r3.2)
noncomputable def C25 : FnSpec := { ps := [.own TGNetwork, .val (.int .i64)], rs := [.val (.int .i64)], fn := fun x => l_markNetwork x.1 x.2 }
noncomputable def E25 : Env := { T := [(35, TGNet), (36, (.slice TGLink)), (37, (.slice TGParcel)), (39, TGNetwork)], G := [(36, C36), (37, C37), (83, C83)], ro := [], loops := [], joins := [] }
theorem E25_eq : ∀ x, afun E25 Try.f25 C25.ps C25.rs x = C25.fn x := fun x => by kernel_rfl
theorem S25 : Sound Try.prog 25 C25 := fun_sound_own (E := E25) ⟨good_T (by kernel_rfl), (good_cons S36 ⟨_, Try.func36, by kernel_rfl, by kernel_rfl⟩ (good_cons S37 ⟨_, Try.func37, by kernel_rfl, by kernel_rfl⟩ (good_cons S83 ⟨_, Try.func83, by kernel_rfl, by kernel_rfl⟩ good_nil))), mixedOk, ins_nil⟩ Try.func25 rfl rfl E25_eq
/-- laws.markIntS -/
noncomputable def l_markIntS (p_a : List Int) (p_k : Int) : Option ((List Int) × Int) :=
  (loopE (fun (st2 : (List Int) × Int × Int) => (
      bif (decide (st2.2.2 < (st2.1.length : Int))) then
        bif decide (0 ≤ st2.2.2) && decide (st2.2.2 < (st2.1.length : Int)) then
          some (.inl ((st2.1.set (Int.toNat st2.2.2) st2.2.1), (w64 (st2.2.1 + 1)), (w64 (st2.2.2 + 1))))
        else
          none
      else
        some (.inr (st2.1, st2.2.1)) : Option (((List Int) × Int × Int) ⊕ (((List Int) × Int))))) (p_a, p_k, 0)).bind fun o3 =>
  some (o3.1, o3.2)
noncomputable def C26 : FnSpec := { ps := [.own (.slice (.int .i64)), .val (.int .i64)], rs := [.val (.int .i64)], fn := fun x => l_markIntS x.1 x.2 }
noncomputable def E26 : Env := { T := [(3, (.int .i64)), (45, (.slice (.int .i64)))], G := [], ro := [], loops := [(2, { keep := [], live := [.own 0 [] 100000 (.int .i64) true, .tv 1 (.int .i64), .tv 5 (.int .i64)], outs := [(.exit 0, [.own 0 [] 100000 (.int .i64) true, .tv 1 (.int .i64)])] })], joins := [] }
theorem E26_eq : ∀ x, afun E26 Try.f26 C26.ps C26.rs x = C26.fn x := fun x => by kernel_rfl
theorem S26 : Sound Try.prog 26 C26 := fun_sound_own (E := E26) ⟨good_T (by kernel_rfl), good_nil, mixedOk, ins_nil⟩ Try.func26 rfl rfl E26_eq
/-- laws.heldIntS -/
noncomputable def l_heldIntS (p_a : List Int) (p_k : Int) : Option (Int) :=
  (loopE (fun (st2 : Int × Int) => (
      bif (decide (st2.2 < (p_a.length : Int))) then
        (idx p_a st2.2).bind fun e3 =>
        bif (!decide (e3 = st2.1)) then
          some (.inr (.inr (-1)))
        else
          some (.inl ((w64 (st2.1 + 1)), (w64 (st2.2 + 1))))
      else
        some (.inr (.inl st2.1)) : Option ((Int × Int) ⊕ (Int ⊕ Int)))) (p_k, 0)).bind fun o4 =>
  match o4 with
  | .inl x5 =>
    some x5
  | .inr y6 =>
    some y6
noncomputable def C27 : FnSpec := { ps := [.val (.slice (.int .i64)), .val (.int .i64)], rs := [.val (.int .i64)], fn := fun x => l_heldIntS x.1 x.2 }
noncomputable def E27 : Env := { T := [(3, (.int .i64)), (45, (.slice (.int .i64)))], G := [], ro := [], loops := [(2, { keep := [0], live := [.tv 1 (.int .i64), .tv 5 (.int .i64)], outs := [(.exit 0, [.tv 1 (.int .i64)]), (.ret, [.tv 4 (.int .i64)])] })], joins := [] }
theorem E27_eq : ∀ x, afun E27 Try.f27 C27.ps C27.rs x = C27.fn x := fun x => by kernel_rfl
theorem S27 : Sound Try.prog 27 C27 := fun_sound (E := E27) ⟨good_T (by kernel_rfl), good_nil, mixedOk, ins_nil⟩ Try.func27 rfl E27_eq
/-- laws.FnExactWhereIs -/
noncomputable def l_FnExactWhereIs (p_aW : GNetwork) (p_aMessage : Int) : Option (Bool) :=
  (l_szNetwork p_aW 1048576).bind fun r1 =>
  bif (decide (r1 < 0)) then
    some true
  else
    (l_toNetwork p_aW).bind fun r2 =>
    (s_WhereIs r2 p_aMessage).bind fun r3 =>
    (l_toNetwork p_aW).bind fun r4 =>
    (i_WhereIs r4 p_aMessage).bind fun r5 =>
    (l_eqIntS r5.1 r3.1).bind fun r6 =>
    (bif (!r6) then
        some true
      else
        some (r5.2 != r3.2)).bind fun c7 =>
    bif c7 then
      some false
    else
      (l_toNetwork p_aW).bind fun r8 =>
      (l_eqNetwork r4 r8).bind fun r9 =>
      bif (!r9) then
        some false
      else
        (l_markNetwork r4 1).bind fun r10 =>
        (bif (decide (r10.2 < 0)) then
            some true
          else
            (l_eqIntS r5.1 r3.1).bind fun r11 =>
            some (!r11)).bind fun c12 =>
        (bif c12 then
            some true
          else
            some (r5.2 != r3.2)).bind fun c13 =>
        bif c13 then
          some false
        else
          (l_markIntS r5.1 1).bind fun r14 =>
          (l_heldIntS r14.1 1).bind fun r15 =>
          bif (decide (r15 < 0)) then
            some false
          else
            bif (!decide (r15 = r14.2)) then
              some false
            else
              (l_toNetwork p_aW).bind fun r16 =>
              (i_WhereIs r16 p_aMessage).bind fun r17 =>
              (l_eqIntS r17.1 r3.1).bind fun r18 =>
              (bif (!r18) then
                  some true
                else
                  some (r17.2 != r3.2)).bind fun c19 =>
              bif c19 then
                some false
              else
                (l_heldIntS r14.1 1).bind fun r20 =>
                bif (decide (r20 < 0)) then
                  some false
                else
                  bif (!decide (r20 = r14.2)) then
                    some false
                  else
                    some true
noncomputable def C5 : FnSpec := { ps := [.val TGNetwork, .val (.int .i64)], rs := [.val .bool], fn := fun x => l_FnExactWhereIs x.1 x.2 }
noncomputable def E5 : Env := { T := [(4, .bool), (29, TGNetwork), (39, TGNetwork)], G := [(15, C15), (17, C17), (19, C19), (22, C22), (23, C23), (24, C24), (25, C25), (26, C26), (27, C27)], ro := [2], loops := [], joins := [] }
theorem E5_eq : ∀ x, afun E5 Try.f5 C5.ps C5.rs x = C5.fn x := fun x => by kernel_rfl
theorem S5 : Sound Try.prog 5 C5 := fun_sound (E := E5) ⟨good_T (by kernel_rfl), (good_cons S15 ⟨_, Try.func15, by kernel_rfl, by kernel_rfl⟩ (good_cons S17 ⟨_, Try.func17, by kernel_rfl, by kernel_rfl⟩ (good_cons S19 ⟨_, Try.func19, by kernel_rfl, by kernel_rfl⟩ (good_cons S22 ⟨_, Try.func22, by kernel_rfl, by kernel_rfl⟩ (good_cons S23 ⟨_, Try.func23, by kernel_rfl, by kernel_rfl⟩ (good_cons S24 ⟨_, Try.func24, by kernel_rfl, by kernel_rfl⟩ (good_cons S25 ⟨_, Try.func25, by kernel_rfl, by kernel_rfl⟩ (good_cons S26 ⟨_, Try.func26, by kernel_rfl, by kernel_rfl⟩ (good_cons S27 ⟨_, Try.func27, by kernel_rfl, by kernel_rfl⟩ good_nil))))))))), mixedOk, ins_nil⟩ Try.func5 rfl E5_eq
/-- spec.neOwn -/
noncomputable def s_neOwn (p_n : GNet) : Option (GNet) :=
  bif decide (List.length p_n.1 ≤ lim) then
    bif decide (List.length p_n.2.1 ≤ lim) then
      some p_n
    else
      none
  else
    none
noncomputable def C130 : FnSpec := { ps := [.val TGNet], rs := [.own TGNet], fn := fun x => s_neOwn x }
noncomputable def E130 : Env := { T := [(32, (.slice TGLink)), (33, (.slice TGLink)), (35, TGNet)], G := [], ro := [1], loops := [], joins := [] }
theorem E130_eq : ∀ x, afun E130 Try.f130 C130.ps C130.rs x = C130.fn x := fun x => by kernel_rfl
theorem S130 : Sound Try.prog 130 C130 := fun_sound (E := E130) ⟨good_T (by kernel_rfl), good_nil, mixedOk, ins_nil⟩ Try.func130 rfl E130_eq
/-- spec.nwOwn -/
noncomputable def s_nwOwn (p_w : GNetwork) : Option (GNetwork) :=
  (s_neOwn p_w.1).bind fun r1 =>
  bif decide (List.length p_w.2.1 ≤ lim) then
    bif decide (List.length p_w.2.2.2.1 ≤ lim) then
      some (r1, p_w.2)
    else
      none
  else
    none
noncomputable def C86 : FnSpec := { ps := [.val TGNetwork], rs := [.own TGNetwork], fn := fun x => s_nwOwn x }
noncomputable def E86 : Env := { T := [(3, (.int .i64)), (35, TGNet), (36, (.slice TGLink)), (37, (.slice TGParcel)), (39, TGNetwork)], G := [(130, C130)], ro := [1], loops := [], joins := [] }
theorem E86_eq : ∀ x, afun E86 Try.f86 C86.ps C86.rs x = C86.fn x := fun x => by kernel_rfl
theorem S86 : Sound Try.prog 86 C86 := fun_sound (E := E86) ⟨good_T (by kernel_rfl), (good_cons S130 ⟨_, Try.func130, by kernel_rfl, by kernel_rfl⟩ good_nil), mixedOk, ins_nil⟩ Try.func86 rfl E86_eq
/-- spec.NewNetwork -/
noncomputable def s_NewNetwork (p_n : GNet) (p_f : List GLink) : Option (GNetwork × Bool) :=
  (s_nwGood (p_n, p_f, 0, [], ())).bind fun r1 =>
  bif (!r1) then
    some ((([], [], ()), [], 0, [], ()), false)
  else
    (s_nwOwn (p_n, p_f, 0, [], ())).bind fun r2 =>
    some (r2, true)
noncomputable def C30 : FnSpec := { ps := [.val TGNet, .val (.slice TGLink)], rs := [.own TGNetwork, .val .bool], fn := fun x => s_NewNetwork x.1 x.2 }
noncomputable def E30 : Env := { T := [(35, TGNet), (39, TGNetwork)], G := [(70, C70), (86, C86)], ro := [2], loops := [], joins := [] }
theorem E30_eq : ∀ x, afun E30 Try.f30 C30.ps C30.rs x = C30.fn x := fun x => by kernel_rfl
theorem S30 : Sound Try.prog 30 C30 := fun_sound (E := E30) ⟨good_T (by kernel_rfl), (good_cons S70 ⟨_, Try.func70, by kernel_rfl, by kernel_rfl⟩ (good_cons S86 ⟨_, Try.func86, by kernel_rfl, by kernel_rfl⟩ good_nil)), mixedOk, ins_nil⟩ Try.func30 rfl E30_eq
/-- slices.Clone[[]impl.Tower,impl.Tower] -/
noncomputable def slices_Clone_Tower (p_s : List GLink) : Option ((List GLink)) :=
  bif List.isEmpty p_s then
    bothSame (
      bif true then
        some []
      else
        bif decide (List.length p_s ≤ lim) then
          some p_s
        else
          none)
    (
      bif false then
        some []
      else
        bif decide (List.length p_s ≤ lim) then
          some p_s
        else
          none)
  else
    bif false then
      some []
    else
      bif decide (List.length p_s ≤ lim) then
        some p_s
      else
        none
noncomputable def C133 : FnSpec := { ps := [.val (.slice TGLink)], rs := [.own (.slice TGLink)], fn := fun x => slices_Clone_Tower x }
noncomputable def E133 : Env := { T := [(32, (.slice TGLink))], G := [], ro := [], loops := [], joins := [] }
theorem E133_eq : ∀ x, afun E133 Try.f133 C133.ps C133.rs x = C133.fn x := fun x => by kernel_rfl
theorem S133 : Sound Try.prog 133 C133 := fun_sound (E := E133) ⟨good_T (by kernel_rfl), good_nil, mixedOk, ins_nil⟩ Try.func133 rfl E133_eq
/-- slices.Clone[[]impl.Link,impl.Link] -/
noncomputable def slices_Clone_Link (p_s : List GLink) : Option ((List GLink)) :=
  bif List.isEmpty p_s then
    bothSame (
      bif true then
        some []
      else
        bif decide (List.length p_s ≤ lim) then
          some p_s
        else
          none)
    (
      bif false then
        some []
      else
        bif decide (List.length p_s ≤ lim) then
          some p_s
        else
          none)
  else
    bif false then
      some []
    else
      bif decide (List.length p_s ≤ lim) then
        some p_s
      else
        none
noncomputable def C134 : FnSpec := { ps := [.val (.slice TGLink)], rs := [.own (.slice TGLink)], fn := fun x => slices_Clone_Link x }
noncomputable def E134 : Env := { T := [(33, (.slice TGLink))], G := [], ro := [], loops := [], joins := [] }
theorem E134_eq : ∀ x, afun E134 Try.f134 C134.ps C134.rs x = C134.fn x := fun x => by kernel_rfl
theorem S134 : Sound Try.prog 134 C134 := fun_sound (E := E134) ⟨good_T (by kernel_rfl), good_nil, mixedOk, ins_nil⟩ Try.func134 rfl E134_eq
/-- impl.cloneNet -/
noncomputable def i_cloneNet (p_n : GNet) : Option (GNet) :=
  (slices_Clone_Tower p_n.1).bind fun r1 =>
  (slices_Clone_Link p_n.2.1).bind fun r2 =>
  some (r1, r2, ())
noncomputable def C90 : FnSpec := { ps := [.val TGNet], rs := [.own TGNet], fn := fun x => i_cloneNet x }
noncomputable def E90 : Env := { T := [(32, (.slice TGLink)), (33, (.slice TGLink)), (35, TGNet)], G := [(133, C133), (134, C134)], ro := [1], loops := [], joins := [] }
theorem E90_eq : ∀ x, afun E90 Try.f90 C90.ps C90.rs x = C90.fn x := fun x => by kernel_rfl
theorem S90 : Sound Try.prog 90 C90 := fun_sound (E := E90) ⟨good_T (by kernel_rfl), (good_cons S133 ⟨_, Try.func133, by kernel_rfl, by kernel_rfl⟩ (good_cons S134 ⟨_, Try.func134, by kernel_rfl, by kernel_rfl⟩ good_nil)), mixedOk, ins_nil⟩ Try.func90 rfl E90_eq
/-- slices.Clone[[]impl.Fog,impl.Fog] -/
noncomputable def slices_Clone_Fog (p_s : List GLink) : Option ((List GLink)) :=
  bif List.isEmpty p_s then
    bothSame (
      bif true then
        some []
      else
        bif decide (List.length p_s ≤ lim) then
          some p_s
        else
          none)
    (
      bif false then
        some []
      else
        bif decide (List.length p_s ≤ lim) then
          some p_s
        else
          none)
  else
    bif false then
      some []
    else
      bif decide (List.length p_s ≤ lim) then
        some p_s
      else
        none
noncomputable def C91 : FnSpec := { ps := [.val (.slice TGLink)], rs := [.own (.slice TGLink)], fn := fun x => slices_Clone_Fog x }
noncomputable def E91 : Env := { T := [(36, (.slice TGLink))], G := [], ro := [], loops := [], joins := [] }
theorem E91_eq : ∀ x, afun E91 Try.f91 C91.ps C91.rs x = C91.fn x := fun x => by kernel_rfl
theorem S91 : Sound Try.prog 91 C91 := fun_sound (E := E91) ⟨good_T (by kernel_rfl), good_nil, mixedOk, ins_nil⟩ Try.func91 rfl E91_eq
/-- impl.NewNetwork -/
noncomputable def i_NewNetwork (p_n : GNet) (p_f : List GLink) : Option (GNetwork × Bool) :=
  (i_IsNet p_n).bind fun r1 =>
  (bif (!r1) then
      some true
    else
      (i_areFogs p_n p_f).bind fun r2 =>
      some (!r2)).bind fun c3 =>
  bif c3 then
    some ((([], [], ()), [], 0, [], ()), false)
  else
    (i_cloneNet p_n).bind fun r4 =>
    (slices_Clone_Fog p_f).bind fun r5 =>
    some ((r4, r5, 0, [], ()), true)
noncomputable def C33 : FnSpec := { ps := [.val TGNet, .val (.slice TGLink)], rs := [.own TGNetwork, .val .bool], fn := fun x => i_NewNetwork x.1 x.2 }
noncomputable def E33 : Env := { T := [(35, TGNet), (39, TGNetwork)], G := [(72, C72), (73, C73), (90, C90), (91, C91)], ro := [2], loops := [], joins := [] }
theorem E33_eq : ∀ x, afun E33 Try.f33 C33.ps C33.rs x = C33.fn x := fun x => by kernel_rfl
theorem S33 : Sound Try.prog 33 C33 := fun_sound (E := E33) ⟨good_T (by kernel_rfl), (good_cons S72 ⟨_, Try.func72, by kernel_rfl, by kernel_rfl⟩ (good_cons S73 ⟨_, Try.func73, by kernel_rfl, by kernel_rfl⟩ (good_cons S90 ⟨_, Try.func90, by kernel_rfl, by kernel_rfl⟩ (good_cons S91 ⟨_, Try.func91, by kernel_rfl, by kernel_rfl⟩ good_nil)))), mixedOk, ins_nil⟩ Try.func33 rfl E33_eq
/-- laws.heldTowerS -/
noncomputable def l_heldTowerS (p_a : List GLink) (p_k : Int) : Option (Int) :=
  (loopE (fun (st2 : Int × Int) => (
      bif (decide (st2.2 < (p_a.length : Int))) then
        (idx p_a st2.2).bind fun e3 =>
        bif (!decide (e3.1 = st2.1)) then
          some (.inr (.inr (-1)))
        else
          (idx p_a st2.2).bind fun e4 =>
          bif (!decide (e4.2.1 = (w64 (st2.1 + 1)))) then
            some (.inr (.inr (-1)))
          else
            (idx p_a st2.2).bind fun e5 =>
            bif (!decide (e5.2.2.1 = (w64 ((w64 (st2.1 + 1)) + 1)))) then
              some (.inr (.inr (-1)))
            else
              some (.inl ((w64 ((w64 ((w64 (st2.1 + 1)) + 1)) + 1)), (w64 (st2.2 + 1))))
      else
        some (.inr (.inl st2.1)) : Option ((Int × Int) ⊕ (Int ⊕ Int)))) (p_k, 0)).bind fun o6 =>
  match o6 with
  | .inl x7 =>
    some x7
  | .inr y8 =>
    some y8
noncomputable def C137 : FnSpec := { ps := [.val (.slice TGLink), .val (.int .i64)], rs := [.val (.int .i64)], fn := fun x => l_heldTowerS x.1 x.2 }
noncomputable def E137 : Env := { T := [(3, (.int .i64)), (32, (.slice TGLink)), (153, TGLink)], G := [], ro := [], loops := [(2, { keep := [0], live := [.tv 1 (.int .i64), .tv 5 (.int .i64)], outs := [(.exit 0, [.tv 1 (.int .i64)]), (.ret, [.tv 4 (.int .i64)])] })], joins := [] }
theorem E137_eq : ∀ x, afun E137 Try.f137 C137.ps C137.rs x = C137.fn x := fun x => by kernel_rfl
theorem S137 : Sound Try.prog 137 C137 := fun_sound (E := E137) ⟨good_T (by kernel_rfl), good_nil, mixedOk, ins_nil⟩ Try.func137 rfl E137_eq
/-- laws.heldLinkS -/
noncomputable def l_heldLinkS (p_a : List GLink) (p_k : Int) : Option (Int) :=
  (loopE (fun (st2 : Int × Int) => (
      bif (decide (st2.2 < (p_a.length : Int))) then
        (idx p_a st2.2).bind fun e3 =>
        bif (!decide (e3.1 = st2.1)) then
          some (.inr (.inr (-1)))
        else
          (idx p_a st2.2).bind fun e4 =>
          bif (!decide (e4.2.1 = (w64 (st2.1 + 1)))) then
            some (.inr (.inr (-1)))
          else
            (idx p_a st2.2).bind fun e5 =>
            bif (!decide (e5.2.2.1 = (w64 ((w64 (st2.1 + 1)) + 1)))) then
              some (.inr (.inr (-1)))
            else
              some (.inl ((w64 ((w64 ((w64 (st2.1 + 1)) + 1)) + 1)), (w64 (st2.2 + 1))))
      else
        some (.inr (.inl st2.1)) : Option ((Int × Int) ⊕ (Int ⊕ Int)))) (p_k, 0)).bind fun o6 =>
  match o6 with
  | .inl x7 =>
    some x7
  | .inr y8 =>
    some y8
noncomputable def C138 : FnSpec := { ps := [.val (.slice TGLink), .val (.int .i64)], rs := [.val (.int .i64)], fn := fun x => l_heldLinkS x.1 x.2 }
noncomputable def E138 : Env := { T := [(3, (.int .i64)), (33, (.slice TGLink)), (109, TGLink)], G := [], ro := [], loops := [(2, { keep := [0], live := [.tv 1 (.int .i64), .tv 5 (.int .i64)], outs := [(.exit 0, [.tv 1 (.int .i64)]), (.ret, [.tv 4 (.int .i64)])] })], joins := [] }
theorem E138_eq : ∀ x, afun E138 Try.f138 C138.ps C138.rs x = C138.fn x := fun x => by kernel_rfl
theorem S138 : Sound Try.prog 138 C138 := fun_sound (E := E138) ⟨good_T (by kernel_rfl), good_nil, mixedOk, ins_nil⟩ Try.func138 rfl E138_eq
/-- laws.heldNet -/
noncomputable def l_heldNet (p_a : GNet) (p_k : Int) : Option (Int) :=
  (l_heldTowerS p_a.1 p_k).bind fun r1 =>
  bif (decide (r1 < 0)) then
    some (-1)
  else
    (l_heldLinkS p_a.2.1 r1).bind fun r2 =>
    bif (decide (r2 < 0)) then
      some (-1)
    else
      some r2
noncomputable def C97 : FnSpec := { ps := [.val TGNet, .val (.int .i64)], rs := [.val (.int .i64)], fn := fun x => l_heldNet x.1 x.2 }
noncomputable def E97 : Env := { T := [(32, (.slice TGLink)), (33, (.slice TGLink)), (35, TGNet)], G := [(137, C137), (138, C138)], ro := [2], loops := [], joins := [] }
theorem E97_eq : ∀ x, afun E97 Try.f97 C97.ps C97.rs x = C97.fn x := fun x => by kernel_rfl
theorem S97 : Sound Try.prog 97 C97 := fun_sound (E := E97) ⟨good_T (by kernel_rfl), (good_cons S137 ⟨_, Try.func137, by kernel_rfl, by kernel_rfl⟩ (good_cons S138 ⟨_, Try.func138, by kernel_rfl, by kernel_rfl⟩ good_nil)), mixedOk, ins_nil⟩ Try.func97 rfl E97_eq
/-- laws.heldFogS -/
noncomputable def l_heldFogS (p_a : List GLink) (p_k : Int) : Option (Int) :=
  (loopE (fun (st2 : Int × Int) => (
      bif (decide (st2.2 < (p_a.length : Int))) then
        (idx p_a st2.2).bind fun e3 =>
        bif (!decide (e3.1 = st2.1)) then
          some (.inr (.inr (-1)))
        else
          (idx p_a st2.2).bind fun e4 =>
          bif (!decide (e4.2.1 = (w64 (st2.1 + 1)))) then
            some (.inr (.inr (-1)))
          else
            (idx p_a st2.2).bind fun e5 =>
            bif (!decide (e5.2.2.1 = (w64 ((w64 (st2.1 + 1)) + 1)))) then
              some (.inr (.inr (-1)))
            else
              some (.inl ((w64 ((w64 ((w64 (st2.1 + 1)) + 1)) + 1)), (w64 (st2.2 + 1))))
      else
        some (.inr (.inl st2.1)) : Option ((Int × Int) ⊕ (Int ⊕ Int)))) (p_k, 0)).bind fun o6 =>
  match o6 with
  | .inl x7 =>
    some x7
  | .inr y8 =>
    some y8
noncomputable def C98 : FnSpec := { ps := [.val (.slice TGLink), .val (.int .i64)], rs := [.val (.int .i64)], fn := fun x => l_heldFogS x.1 x.2 }
noncomputable def E98 : Env := { T := [(3, (.int .i64)), (36, (.slice TGLink)), (120, TGLink)], G := [], ro := [], loops := [(2, { keep := [0], live := [.tv 1 (.int .i64), .tv 5 (.int .i64)], outs := [(.exit 0, [.tv 1 (.int .i64)]), (.ret, [.tv 4 (.int .i64)])] })], joins := [] }
theorem E98_eq : ∀ x, afun E98 Try.f98 C98.ps C98.rs x = C98.fn x := fun x => by kernel_rfl
theorem S98 : Sound Try.prog 98 C98 := fun_sound (E := E98) ⟨good_T (by kernel_rfl), good_nil, mixedOk, ins_nil⟩ Try.func98 rfl E98_eq
/-- laws.heldParcelS -/
noncomputable def l_heldParcelS (p_a : List GParcel) (p_k : Int) : Option (Int) :=
  (loopE (fun (st2 : Int × Int) => (
      bif (decide (st2.2 < (p_a.length : Int))) then
        (idx p_a st2.2).bind fun e3 =>
        bif (!decide (e3.1 = st2.1)) then
          some (.inr (.inr (-1)))
        else
          (idx p_a st2.2).bind fun e4 =>
          bif (!decide (e4.2.1 = (w64 (st2.1 + 1)))) then
            some (.inr (.inr (-1)))
          else
            (idx p_a st2.2).bind fun e5 =>
            bif (!decide (e5.2.2.1 = (w64 ((w64 (st2.1 + 1)) + 1)))) then
              some (.inr (.inr (-1)))
            else
              (idx p_a st2.2).bind fun e6 =>
              bif (!decide (e6.2.2.2.1 = (w64 ((w64 ((w64 (st2.1 + 1)) + 1)) + 1)))) then
                some (.inr (.inr (-1)))
              else
                (idx p_a st2.2).bind fun e7 =>
                bif (!decide (e7.2.2.2.2.1 = (w64 ((w64 ((w64 ((w64 (st2.1 + 1)) + 1)) + 1)) + 1)))) then
                  some (.inr (.inr (-1)))
                else
                  (idx p_a st2.2).bind fun e8 =>
                  bif (!decide (e8.2.2.2.2.2.1 = (w64 ((w64 ((w64 ((w64 ((w64 (st2.1 + 1)) + 1)) + 1)) + 1)) + 1)))) then
                    some (.inr (.inr (-1)))
                  else
                    some (.inl ((w64 ((w64 ((w64 ((w64 ((w64 ((w64 (st2.1 + 1)) + 1)) + 1)) + 1)) + 1)) + 1)), (w64 (st2.2 + 1))))
      else
        some (.inr (.inl st2.1)) : Option ((Int × Int) ⊕ (Int ⊕ Int)))) (p_k, 0)).bind fun o9 =>
  match o9 with
  | .inl x10 =>
    some x10
  | .inr y11 =>
    some y11
noncomputable def C99 : FnSpec := { ps := [.val (.slice TGParcel), .val (.int .i64)], rs := [.val (.int .i64)], fn := fun x => l_heldParcelS x.1 x.2 }
noncomputable def E99 : Env := { T := [(3, (.int .i64)), (37, (.slice TGParcel)), (88, TGParcel)], G := [], ro := [], loops := [(2, { keep := [0], live := [.tv 1 (.int .i64), .tv 5 (.int .i64)], outs := [(.exit 0, [.tv 1 (.int .i64)]), (.ret, [.tv 4 (.int .i64)])] })], joins := [] }
theorem E99_eq : ∀ x, afun E99 Try.f99 C99.ps C99.rs x = C99.fn x := fun x => by kernel_rfl
theorem S99 : Sound Try.prog 99 C99 := fun_sound (E := E99) ⟨good_T (by kernel_rfl), good_nil, mixedOk, ins_nil⟩ Try.func99 rfl E99_eq
/-- laws.heldNetwork -/
noncomputable def l_heldNetwork (p_a : GNetwork) (p_k : Int) : Option (Int) :=
  (l_heldNet p_a.1 p_k).bind fun r1 =>
  bif (decide (r1 < 0)) then
    some (-1)
  else
    (l_heldFogS p_a.2.1 r1).bind fun r2 =>
    bif (decide (r2 < 0)) then
      some (-1)
    else
      (l_heldParcelS p_a.2.2.2.1 r2).bind fun r3 =>
      bif (decide (r3 < 0)) then
        some (-1)
      else
        some r3
noncomputable def C38 : FnSpec := { ps := [.val TGNetwork, .val (.int .i64)], rs := [.val (.int .i64)], fn := fun x => l_heldNetwork x.1 x.2 }
noncomputable def E38 : Env := { T := [(35, TGNet), (36, (.slice TGLink)), (37, (.slice TGParcel)), (39, TGNetwork)], G := [(97, C97), (98, C98), (99, C99)], ro := [2], loops := [], joins := [] }
theorem E38_eq : ∀ x, afun E38 Try.f38 C38.ps C38.rs x = C38.fn x := fun x => by kernel_rfl
theorem S38 : Sound Try.prog 38 C38 := fun_sound (E := E38) ⟨good_T (by kernel_rfl), (good_cons S97 ⟨_, Try.func97, by kernel_rfl, by kernel_rfl⟩ (good_cons S98 ⟨_, Try.func98, by kernel_rfl, by kernel_rfl⟩ (good_cons S99 ⟨_, Try.func99, by kernel_rfl, by kernel_rfl⟩ good_nil))), mixedOk, ins_nil⟩ Try.func38 rfl E38_eq
/-- laws.FnExactNewNetwork -/
noncomputable def l_FnExactNewNetwork (p_aN : GNet) (p_aF : List GLink) : Option (Bool) :=
  (l_szNet p_aN 1048576).bind fun r1 =>
  bif (decide (r1 < 0)) then
    some true
  else
    (l_szFogS p_aF r1).bind fun r2 =>
    bif (decide (r2 < 0)) then
      some true
    else
      (l_toNet p_aN).bind fun r3 =>
      (l_toFogS p_aF).bind fun r4 =>
      (s_NewNetwork r3 r4).bind fun r5 =>
      (l_toNet p_aN).bind fun r6 =>
      (l_toFogS p_aF).bind fun r7 =>
      (i_NewNetwork r6 r7).bind fun r8 =>
      (l_eqNetwork r8.1 r5.1).bind fun r9 =>
      (bif (!r9) then
          some true
        else
          some (r8.2 != r5.2)).bind fun c10 =>
      bif c10 then
        some false
      else
        (l_toNet p_aN).bind fun r11 =>
        (l_eqNet r6 r11).bind fun r12 =>
        bif (!r12) then
          some false
        else
          (l_toFogS p_aF).bind fun r13 =>
          (l_eqFogS r7 r13).bind fun r14 =>
          bif (!r14) then
            some false
          else
            (l_markNet r6 1).bind fun r15 =>
            (l_markFogS r7 r15.2).bind fun r16 =>
            (bif (decide (r16.2 < 0)) then
                some true
              else
                (l_eqNetwork r8.1 r5.1).bind fun r17 =>
                some (!r17)).bind fun c18 =>
            (bif c18 then
                some true
              else
                some (r8.2 != r5.2)).bind fun c19 =>
            bif c19 then
              some false
            else
              (l_markNetwork r8.1 1).bind fun r20 =>
              (l_heldNetwork (r20.1.1, r20.1.2.1, r8.1.2.2.1, r20.1.2.2.2) 1).bind fun r21 =>
              bif (decide (r21 < 0)) then
                some false
              else
                bif (!decide (r21 = r20.2)) then
                  some false
                else
                  (l_toNet p_aN).bind fun r22 =>
                  (l_toFogS p_aF).bind fun r23 =>
                  (i_NewNetwork r22 r23).bind fun r24 =>
                  (l_eqNetwork r24.1 r5.1).bind fun r25 =>
                  (bif (!r25) then
                      some true
                    else
                      some (r24.2 != r5.2)).bind fun c26 =>
                  bif c26 then
                    some false
                  else
                    (l_heldNetwork (r20.1.1, r20.1.2.1, r8.1.2.2.1, r20.1.2.2.2) 1).bind fun r27 =>
                    bif (decide (r27 < 0)) then
                      some false
                    else
                      bif (!decide (r27 = r20.2)) then
                        some false
                      else
                        some true
noncomputable def C6 : FnSpec := { ps := [.val TGNet, .val (.slice TGLink)], rs := [.val .bool], fn := fun x => l_FnExactNewNetwork x.1 x.2 }
noncomputable def E6 : Env := { T := [(4, .bool), (25, TGNet), (35, TGNet), (39, TGNetwork)], G := [(19, C19), (25, C25), (28, C28), (29, C29), (30, C30), (31, C31), (32, C32), (33, C33), (34, C34), (35, C35), (36, C36), (37, C37), (38, C38)], ro := [2], loops := [], joins := [] }
theorem E6_eq : ∀ x, afun E6 Try.f6 C6.ps C6.rs x = C6.fn x := fun x => by kernel_rfl
theorem S6 : Sound Try.prog 6 C6 := fun_sound (E := E6) ⟨good_T (by kernel_rfl), (good_cons S19 ⟨_, Try.func19, by kernel_rfl, by kernel_rfl⟩ (good_cons S25 ⟨_, Try.func25, by kernel_rfl, by kernel_rfl⟩ (good_cons S28 ⟨_, Try.func28, by kernel_rfl, by kernel_rfl⟩ (good_cons S29 ⟨_, Try.func29, by kernel_rfl, by kernel_rfl⟩ (good_cons S30 ⟨_, Try.func30, by kernel_rfl, by kernel_rfl⟩ (good_cons S31 ⟨_, Try.func31, by kernel_rfl, by kernel_rfl⟩ (good_cons S32 ⟨_, Try.func32, by kernel_rfl, by kernel_rfl⟩ (good_cons S33 ⟨_, Try.func33, by kernel_rfl, by kernel_rfl⟩ (good_cons S34 ⟨_, Try.func34, by kernel_rfl, by kernel_rfl⟩ (good_cons S35 ⟨_, Try.func35, by kernel_rfl, by kernel_rfl⟩ (good_cons S36 ⟨_, Try.func36, by kernel_rfl, by kernel_rfl⟩ (good_cons S37 ⟨_, Try.func37, by kernel_rfl, by kernel_rfl⟩ (good_cons S38 ⟨_, Try.func38, by kernel_rfl, by kernel_rfl⟩ good_nil))))))))))))), mixedOk, ins_nil⟩ Try.func6 rfl E6_eq
/-- spec.ArrivedMessages -/
noncomputable def s_ArrivedMessages (p_w : GNetwork) : Option ((List Int) × Bool) :=
  (s_nwGood p_w).bind fun r1 =>
  bif (!r1) then
    some ([], false)
  else
    (loopE (fun (st3 : (List Int) × Int × Int) => (
        bif (decide (st3.2.2 < (p_w.2.2.2.1.length : Int))) then
          (idx p_w.2.2.2.1 st3.2.2).bind fun e4 =>
          (bif (decide (e4.2.1 = 0)) then
              some (st3.1, 0, e4.1, e4.2.1, e4.2.2.1, e4.2.2.2.1, e4.2.2.2.2.1, e4.2.2.2.2.2.1)
            else
              some (st3.1, st3.2.1, e4.1, e4.2.1, e4.2.2.1, e4.2.2.2.1, e4.2.2.2.2.1, e4.2.2.2.2.2.1)).bind fun j5 =>
          (bif (decide (j5.2.2.2.2.2.1 = j5.2.2.2.2.2.2.1)) then
              some (decide (j5.2.2.2.2.2.2.2 ≤ p_w.2.2.1))
            else
              some false).bind fun c6 =>
          bif c6 then
            bif (decide ((w64 (j5.2.1 + 1)) = j5.2.2.2.2.1)) then
              bif decide (List.length j5.1 + List.length [j5.2.2.1] ≤ lim) then
                some (.inl ((j5.1 ++ [j5.2.2.1]), (w64 (j5.2.1 + 1)), (w64 (st3.2.2 + 1))))
              else
                none
            else
              some (.inl (j5.1, (w64 (j5.2.1 + 1)), (w64 (st3.2.2 + 1))))
          else
            bif (decide (j5.2.1 = j5.2.2.2.2.1)) then
              bif decide (List.length j5.1 + List.length [j5.2.2.1] ≤ lim) then
                some (.inl ((j5.1 ++ [j5.2.2.1]), j5.2.1, (w64 (st3.2.2 + 1))))
              else
                none
            else
              some (.inl (j5.1, j5.2.1, (w64 (st3.2.2 + 1))))
        else
          some (.inr st3.1) : Option (((List Int) × Int × Int) ⊕ ((List Int))))) ([], 0, 0)).bind fun o7 =>
    some (o7, true)
noncomputable def C39 : FnSpec := { ps := [.val TGNetwork], rs := [.own (.slice (.int .i64)), .val .bool], fn := fun x => s_ArrivedMessages x }
noncomputable def E39 : Env := { T := [(3, (.int .i64)), (37, (.slice TGParcel)), (39, TGNetwork), (45, (.slice (.int .i64))), (88, TGParcel)], G := [(70, C70)], ro := [1], loops := [(6, { keep := [1, 12, 13], live := [.own 4 [] 200004 (.int .i64) true, .tv 5 (.int .i64), .tv 14 (.int .i64)], outs := [(.exit 0, [.own 4 [] 200004 (.int .i64) true])] })], joins := [(10, { keep := [1, 12, 13, 14], live := [], outs := [(.normal, [.own 4 [] 200004 (.int .i64) true, .tv 5 (.int .i64), .bx 7 112 [.pv (.int .i64), .pv (.int .i64), .pv (.int .i64), .pv (.int .i64), .pv (.int .i64), .pv (.int .i64)]])] })] }
theorem E39_eq : ∀ x, afun E39 Try.f39 C39.ps C39.rs x = C39.fn x := fun x => by kernel_rfl
theorem S39 : Sound Try.prog 39 C39 := fun_sound (E := E39) ⟨good_T (by kernel_rfl), (good_cons S70 ⟨_, Try.func70, by kernel_rfl, by kernel_rfl⟩ good_nil), mixedOk, ins_nil⟩ Try.func39 rfl E39_eq
/-- impl.ArrivedMessages$1 -/
noncomputable def i_ArrivedMessages_1 (p_x : GParcel) (p_a1 : GNetwork) : Option (Bool) :=
  (bif (!decide (p_x.2.2.2.1 = p_x.2.2.2.2.1)) then
      some true
    else
      some (decide (p_a1.2.2.1 < p_x.2.2.2.2.2.1))).bind fun c1 =>
  some c1
noncomputable def C101 : FnSpec := { ps := [.val TGParcel, .rp TGNetwork], rs := [.val .bool], fn := fun x => i_ArrivedMessages_1 x.1 x.2 }
noncomputable def E101 : Env := { T := [(3, (.int .i64)), (39, TGNetwork), (88, TGParcel)], G := [], ro := [2], loops := [], joins := [] }
theorem E101_eq : ∀ x, afun E101 Try.f101 C101.ps C101.rs x = C101.fn x := fun x => by kernel_rfl
theorem S101 : Sound Try.prog 101 C101 := fun_sound (E := E101) ⟨good_T (by kernel_rfl), good_nil, mixedOk, ins_nil⟩ Try.func101 rfl E101_eq
/-- slices.IndexFunc[[]impl.Parcel,impl.Parcel] -/
noncomputable def slices_IndexFunc_Parcel_101 (p_s : List GParcel) (p_f : GNetwork × Unit) : Option (Int) :=
  (loopE (fun (st2 : Int) => (
      bif (decide (st2 < (p_s.length : Int))) then
        (idx p_s st2).bind fun e3 =>
        (i_ArrivedMessages_1 e3 p_f.1).bind fun r4 =>
        bif r4 then
          some (.inr (.inr st2))
        else
          some (.inl (w64 (st2 + 1)))
      else
        some (.inr (.inl ())) : Option ((Int) ⊕ (Unit ⊕ Int)))) 0).bind fun o5 =>
  match o5 with
  | .inl _ =>
    some (-1)
  | .inr y7 =>
    some y7
noncomputable def C139_101 : FnSpec := { ps := [.val (.slice TGParcel), .fn 101 [TGNetwork]], rs := [.val (.int .i64)], fn := fun x => slices_IndexFunc_Parcel_101 x.1 x.2 }
noncomputable def E139_101 : Env := { T := [(37, (.slice TGParcel)), (88, TGParcel)], G := [(101, C101)], ro := [], loops := [(2, { keep := [0, 1, 7], live := [.tv 8 (.int .i64)], outs := [(.exit 0, []), (.ret, [.tv 4 (.int .i64)])] })], joins := [] }
theorem E139_101_eq : ∀ x, afun E139_101 Try.f139 C139_101.ps C139_101.rs x = C139_101.fn x := fun x => by kernel_rfl
theorem S139_101 : Sound Try.prog 139 C139_101 := fun_sound (E := E139_101) ⟨good_T (by kernel_rfl), (good_cons S101 ⟨_, Try.func101, by kernel_rfl, by kernel_rfl⟩ good_nil), mixedOk, ins_nil⟩ Try.func139 rfl E139_101_eq
/-- slices.ContainsFunc[[]impl.Parcel,impl.Parcel] -/
noncomputable def slices_ContainsFunc_Parcel_101 (p_s : List GParcel) (p_f : GNetwork × Unit) : Option (Bool) :=
  (slices_IndexFunc_Parcel_101 p_s p_f).bind fun r1 =>
  some (decide (0 ≤ r1))
noncomputable def C100_101 : FnSpec := { ps := [.val (.slice TGParcel), .fn 101 [TGNetwork]], rs := [.val .bool], fn := fun x => slices_ContainsFunc_Parcel_101 x.1 x.2 }
noncomputable def E100_101 : Env := { T := [], G := [(139, C139_101)], ro := [], loops := [], joins := [] }
theorem E100_101_eq : ∀ x, afun E100_101 Try.f100 C100_101.ps C100_101.rs x = C100_101.fn x := fun x => by kernel_rfl
theorem S100_101 : Sound Try.prog 100 C100_101 := fun_sound (E := E100_101) ⟨good_T (by kernel_rfl), (good_cons S139_101 ⟨_, Try.func139, by kernel_rfl, by kernel_rfl⟩ good_nil), mixedOk, ins_nil⟩ Try.func100 rfl E100_101_eq
/-- impl.ArrivedMessages -/
noncomputable def i_ArrivedMessages (p_w : GNetwork) : Option ((List Int) × Bool) :=
  (i_IsNetwork p_w).bind fun r1 =>
  bif (!r1) then
    some ([], false)
  else
    (loopE (fun (st3 : (List Int) × Int) => (
        bif (decide (st3.2 < (p_w.2.2.2.1.length : Int))) then
          (idx p_w.2.2.2.1 st3.2).bind fun e4 =>
          (sub p_w.2.2.2.1 st3.2 (w64 (st3.2 + e4.2.2.1))).bind fun l5 =>
          (slices_ContainsFunc_Parcel_101 l5 (p_w, ())).bind fun r6 =>
          bif (!r6) then
            (idx l5 0).bind fun e7 =>
            bif decide (List.length st3.1 + List.length [e7.1] ≤ lim) then
              (idx p_w.2.2.2.1 st3.2).bind fun e8 =>
              some (.inl ((st3.1 ++ [e7.1]), (w64 (st3.2 + e8.2.2.1))))
            else
              none
          else
            (idx p_w.2.2.2.1 st3.2).bind fun e9 =>
            some (.inl (st3.1, (w64 (st3.2 + e9.2.2.1))))
        else
          some (.inr st3.1) : Option (((List Int) × Int) ⊕ ((List Int))))) ([], 0)).bind fun o10 =>
    some (o10, true)
noncomputable def C40 : FnSpec := { ps := [.val TGNetwork], rs := [.own (.slice (.int .i64)), .val .bool], fn := fun x => i_ArrivedMessages x }
noncomputable def E40 : Env := { T := [(3, (.int .i64)), (37, (.slice TGParcel)), (39, TGNetwork), (45, (.slice (.int .i64))), (88, TGParcel)], G := [(18, C18), (100, C100_101)], ro := [1], loops := [(5, { keep := [1], live := [.own 4 [] 200004 (.int .i64) true, .tv 5 (.int .i64)], outs := [(.exit 0, [.own 4 [] 200004 (.int .i64) true])] })], joins := [] }
theorem E40_eq : ∀ x, afun E40 Try.f40 C40.ps C40.rs x = C40.fn x := fun x => by kernel_rfl
theorem S40 : Sound Try.prog 40 C40 := fun_sound (E := E40) ⟨good_T (by kernel_rfl), (good_cons S18 ⟨_, Try.func18, by kernel_rfl, by kernel_rfl⟩ (good_cons S100_101 ⟨_, Try.func100, by kernel_rfl, by kernel_rfl⟩ good_nil)), mixedOk, ins_nil⟩ Try.func40 rfl E40_eq
/-- laws.FnExactArrivedMessages -/
noncomputable def l_FnExactArrivedMessages (p_aW : GNetwork) : Option (Bool) :=
  (l_szNetwork p_aW 1048576).bind fun r1 =>
  bif (decide (r1 < 0)) then
    some true
  else
    (l_toNetwork p_aW).bind fun r2 =>
    (s_ArrivedMessages r2).bind fun r3 =>
    (l_toNetwork p_aW).bind fun r4 =>
    (i_ArrivedMessages r4).bind fun r5 =>
    (l_eqIntS r5.1 r3.1).bind fun r6 =>
    (bif (!r6) then
        some true
      else
        some (r5.2 != r3.2)).bind fun c7 =>
    bif c7 then
      some false
    else
      (l_toNetwork p_aW).bind fun r8 =>
      (l_eqNetwork r4 r8).bind fun r9 =>
      bif (!r9) then
        some false
      else
        (l_markNetwork r4 1).bind fun r10 =>
        (bif (decide (r10.2 < 0)) then
            some true
          else
            (l_eqIntS r5.1 r3.1).bind fun r11 =>
            some (!r11)).bind fun c12 =>
        (bif c12 then
            some true
          else
            some (r5.2 != r3.2)).bind fun c13 =>
        bif c13 then
          some false
        else
          (l_markIntS r5.1 1).bind fun r14 =>
          (l_heldIntS r14.1 1).bind fun r15 =>
          bif (decide (r15 < 0)) then
            some false
          else
            bif (!decide (r15 = r14.2)) then
              some false
            else
              (l_toNetwork p_aW).bind fun r16 =>
              (i_ArrivedMessages r16).bind fun r17 =>
              (l_eqIntS r17.1 r3.1).bind fun r18 =>
              (bif (!r18) then
                  some true
                else
                  some (r17.2 != r3.2)).bind fun c19 =>
              bif c19 then
                some false
              else
                (l_heldIntS r14.1 1).bind fun r20 =>
                bif (decide (r20 < 0)) then
                  some false
                else
                  bif (!decide (r20 = r14.2)) then
                    some false
                  else
                    some true
noncomputable def C7 : FnSpec := { ps := [.val TGNetwork], rs := [.val .bool], fn := fun x => l_FnExactArrivedMessages x }
noncomputable def E7 : Env := { T := [(4, .bool), (29, TGNetwork), (39, TGNetwork)], G := [(15, C15), (17, C17), (19, C19), (24, C24), (25, C25), (26, C26), (27, C27), (39, C39), (40, C40)], ro := [1], loops := [], joins := [] }
theorem E7_eq : ∀ x, afun E7 Try.f7 C7.ps C7.rs x = C7.fn x := fun x => by kernel_rfl
theorem S7 : Sound Try.prog 7 C7 := fun_sound (E := E7) ⟨good_T (by kernel_rfl), (good_cons S15 ⟨_, Try.func15, by kernel_rfl, by kernel_rfl⟩ (good_cons S17 ⟨_, Try.func17, by kernel_rfl, by kernel_rfl⟩ (good_cons S19 ⟨_, Try.func19, by kernel_rfl, by kernel_rfl⟩ (good_cons S24 ⟨_, Try.func24, by kernel_rfl, by kernel_rfl⟩ (good_cons S25 ⟨_, Try.func25, by kernel_rfl, by kernel_rfl⟩ (good_cons S26 ⟨_, Try.func26, by kernel_rfl, by kernel_rfl⟩ (good_cons S27 ⟨_, Try.func27, by kernel_rfl, by kernel_rfl⟩ (good_cons S39 ⟨_, Try.func39, by kernel_rfl, by kernel_rfl⟩ (good_cons S40 ⟨_, Try.func40, by kernel_rfl, by kernel_rfl⟩ good_nil))))))))), mixedOk, ins_nil⟩ Try.func7 rfl E7_eq
/-- spec.nwCan -/
noncomputable def s_nwCan (p_w : GNetwork) (p_p : GParcel) (p_tower : Int) (p_time : Int) : Option (Bool) :=
  (s_neLink p_w.1 p_p.2.2.2.1 p_tower).bind fun r1 =>
  (bif (decide (0 ≤ r1)) then
      some (decide (p_p.2.2.2.2.2.1 ≤ p_time))
    else
      some false).bind fun c2 =>
  (bif c2 then
      some (!decide (p_p.2.2.2.1 = p_p.2.2.2.2.1))
    else
      some false).bind fun c3 =>
  (bif c3 then
      (idx p_w.1.2.1 r1).bind fun e4 =>
      (s_fgStart p_w.2.1 r1 p_time e4.2.2.1).bind fun r5 =>
      some (decide (r5 = p_time))
    else
      some false).bind fun c6 =>
  some c6
noncomputable def C102 : FnSpec := { ps := [.val TGNetwork, .val TGParcel, .val (.int .i64), .val (.int .i64)], rs := [.val .bool], fn := fun x => s_nwCan x.1 x.2.1 x.2.2.1 x.2.2.2 }
noncomputable def E102 : Env := { T := [(3, (.int .i64)), (33, (.slice TGLink)), (35, TGNet), (36, (.slice TGLink)), (39, TGNetwork), (88, TGParcel), (109, TGLink)], G := [(77, C77), (78, C78)], ro := [4, 5], loops := [], joins := [] }
theorem E102_eq : ∀ x, afun E102 Try.f102 C102.ps C102.rs x = C102.fn x := fun x => by kernel_rfl
theorem S102 : Sound Try.prog 102 C102 := fun_sound (E := E102) ⟨good_T (by kernel_rfl), (good_cons S77 ⟨_, Try.func77, by kernel_rfl, by kernel_rfl⟩ (good_cons S78 ⟨_, Try.func78, by kernel_rfl, by kernel_rfl⟩ good_nil)), mixedOk, ins_nil⟩ Try.func102 rfl E102_eq
/-- spec.AllowedPasses -/
noncomputable def s_AllowedPasses (p_w : GNetwork) : Option ((List (List Int)) × Bool) :=
  (s_nwGood p_w).bind fun r1 =>
  bif (!r1) then
    some ([], false)
  else
    (loopE (fun (st3 : (List (List Int)) × Int) => (
        bif (decide (st3.2 < (p_w.2.2.2.1.length : Int))) then
          (idx p_w.2.2.2.1 st3.2).bind fun e4 =>
          (loopE (fun (st6 : (List (List Int)) × Int × Int × Int × Int × Int × Int × Int) => (
              bif (decide (st6.2.2.2.2.2.2.2 < (p_w.1.1.length : Int))) then
                (s_nwCan p_w (st6.2.1, st6.2.2.1, st6.2.2.2.1, st6.2.2.2.2.1, st6.2.2.2.2.2.1, st6.2.2.2.2.2.2.1, ()) st6.2.2.2.2.2.2.2 p_w.2.2.1).bind fun r7 =>
                bif r7 then
                  bif decide (List.length st6.1 + List.length [[st6.2.1, st6.2.2.1, st6.2.2.2.2.2.2.2]] ≤ lim) then
                    some (.inl ((st6.1 ++ [[st6.2.1, st6.2.2.1, st6.2.2.2.2.2.2.2]]), st6.2.1, st6.2.2.1, st6.2.2.2.1, st6.2.2.2.2.1, st6.2.2.2.2.2.1, st6.2.2.2.2.2.2.1, (w64 (st6.2.2.2.2.2.2.2 + 1))))
                  else
                    none
                else
                  some (.inl (st6.1, st6.2.1, st6.2.2.1, st6.2.2.2.1, st6.2.2.2.2.1, st6.2.2.2.2.2.1, st6.2.2.2.2.2.2.1, (w64 (st6.2.2.2.2.2.2.2 + 1))))
              else
                some (.inr st6.1) : Option (((List (List Int)) × Int × Int × Int × Int × Int × Int × Int) ⊕ ((List (List Int)))))) (st3.1, e4.1, e4.2.1, e4.2.2.1, e4.2.2.2.1, e4.2.2.2.2.1, e4.2.2.2.2.2.1, 0)).bind fun o8 =>
          some (.inl (o8, (w64 (st3.2 + 1))))
        else
          some (.inr st3.1) : Option (((List (List Int)) × Int) ⊕ ((List (List Int)))))) ([], 0)).bind fun o9 =>
    some (o9, true)
noncomputable def C41 : FnSpec := { ps := [.val TGNetwork], rs := [.own (.slice (.slice (.int .i64))), .val .bool], fn := fun x => s_AllowedPasses x }
noncomputable def E41 : Env := { T := [(3, (.int .i64)), (32, (.slice TGLink)), (35, TGNet), (37, (.slice TGParcel)), (39, TGNetwork), (45, (.slice (.int .i64))), (64, (.slice (.slice (.int .i64)))), (88, TGParcel)], G := [(70, C70), (102, C102)], ro := [1], loops := [(5, { keep := [1, 12, 13], live := [.own 4 [] 200004 (.slice (.int .i64)) true, .tv 14 (.int .i64)], outs := [(.exit 0, [.own 4 [] 200004 (.slice (.int .i64)) true])] }), (8, { keep := [1, 12, 13, 14, 21], live := [.own 4 [] 200004 (.slice (.int .i64)) true, .bx 6 96 [.pv (.int .i64), .pv (.int .i64), .pv (.int .i64), .pv (.int .i64), .pv (.int .i64), .pv (.int .i64)], .tv 22 (.int .i64)], outs := [(.exit 2, [.own 4 [] 200004 (.slice (.int .i64)) true])] })], joins := [], mv := true }
theorem E41_eq : ∀ x, afun E41 Try.f41 C41.ps C41.rs x = C41.fn x := fun x => by kernel_rfl
theorem S41 : Sound Try.prog 41 C41 := fun_sound (E := E41) ⟨good_T (by kernel_rfl), (good_cons S70 ⟨_, Try.func70, by kernel_rfl, by kernel_rfl⟩ (good_cons S102 ⟨_, Try.func102, by kernel_rfl, by kernel_rfl⟩ good_nil)), mixedOk, ins_nil⟩ Try.func41 rfl E41_eq
/-- impl.AllowedPasses -/
noncomputable def i_AllowedPasses (p_w : GNetwork) : Option ((List (List Int)) × Bool) :=
  (i_IsNetwork p_w).bind fun r1 =>
  bif (!r1) then
    some ([], false)
  else
    (loopE (fun (st3 : (List (List Int)) × Int) => (
        bif (decide (st3.2 < (p_w.2.2.2.1.length : Int))) then
          (idx p_w.2.2.2.1 st3.2).bind fun e4 =>
          (loopE (fun (st6 : (List (List Int)) × Int × Int × Int × Int × Int × Int × Int) => (
              bif (decide (st6.2.2.2.2.2.2.2 < (p_w.1.1.length : Int))) then
                (i_passStart p_w (st6.2.1, st6.2.2.1, st6.2.2.2.1, st6.2.2.2.2.1, st6.2.2.2.2.2.1, st6.2.2.2.2.2.2.1, ()) st6.2.2.2.2.2.2.2).bind fun r7 =>
                (bif r7.2 then
                    some (decide (r7.1 = p_w.2.2.1))
                  else
                    some false).bind fun c8 =>
                bif c8 then
                  bif decide (List.length st6.1 + List.length [[st6.2.1, st6.2.2.1, st6.2.2.2.2.2.2.2]] ≤ lim) then
                    some (.inl ((st6.1 ++ [[st6.2.1, st6.2.2.1, st6.2.2.2.2.2.2.2]]), st6.2.1, st6.2.2.1, st6.2.2.2.1, st6.2.2.2.2.1, st6.2.2.2.2.2.1, st6.2.2.2.2.2.2.1, (w64 (st6.2.2.2.2.2.2.2 + 1))))
                  else
                    none
                else
                  some (.inl (st6.1, st6.2.1, st6.2.2.1, st6.2.2.2.1, st6.2.2.2.2.1, st6.2.2.2.2.2.1, st6.2.2.2.2.2.2.1, (w64 (st6.2.2.2.2.2.2.2 + 1))))
              else
                some (.inr st6.1) : Option (((List (List Int)) × Int × Int × Int × Int × Int × Int × Int) ⊕ ((List (List Int)))))) (st3.1, e4.1, e4.2.1, e4.2.2.1, e4.2.2.2.1, e4.2.2.2.2.1, e4.2.2.2.2.2.1, 0)).bind fun o9 =>
          some (.inl (o9, (w64 (st3.2 + 1))))
        else
          some (.inr st3.1) : Option (((List (List Int)) × Int) ⊕ ((List (List Int)))))) ([], 0)).bind fun o10 =>
    some (o10, true)
noncomputable def C42 : FnSpec := { ps := [.val TGNetwork], rs := [.own (.slice (.slice (.int .i64))), .val .bool], fn := fun x => i_AllowedPasses x }
noncomputable def E42 : Env := { T := [(3, (.int .i64)), (32, (.slice TGLink)), (35, TGNet), (37, (.slice TGParcel)), (39, TGNetwork), (45, (.slice (.int .i64))), (64, (.slice (.slice (.int .i64)))), (88, TGParcel)], G := [(18, C18), (81, C81)], ro := [1], loops := [(5, { keep := [1, 14, 15], live := [.own 4 [] 200004 (.slice (.int .i64)) true, .tv 16 (.int .i64)], outs := [(.exit 0, [.own 4 [] 200004 (.slice (.int .i64)) true])] }), (8, { keep := [1, 14, 15, 16, 23], live := [.own 4 [] 200004 (.slice (.int .i64)) true, .bx 6 96 [.pv (.int .i64), .pv (.int .i64), .pv (.int .i64), .pv (.int .i64), .pv (.int .i64), .pv (.int .i64)], .tv 24 (.int .i64)], outs := [(.exit 2, [.own 4 [] 200004 (.slice (.int .i64)) true])] })], joins := [], mv := true }
theorem E42_eq : ∀ x, afun E42 Try.f42 C42.ps C42.rs x = C42.fn x := fun x => by kernel_rfl
theorem S42 : Sound Try.prog 42 C42 := fun_sound (E := E42) ⟨good_T (by kernel_rfl), (good_cons S18 ⟨_, Try.func18, by kernel_rfl, by kernel_rfl⟩ (good_cons S81 ⟨_, Try.func81, by kernel_rfl, by kernel_rfl⟩ good_nil)), mixedOk, ins_nil⟩ Try.func42 rfl E42_eq
/-- laws.eqIntSS -/
noncomputable def l_eqIntSS (p_a : List (List Int)) (p_b : List (List Int)) : Option (Bool) :=
  bif (!decide ((p_a.length : Int) = (p_b.length : Int))) then
    some false
  else
    (loopE (fun (st2 : Int) => (
        bif (decide (st2 < (p_a.length : Int))) then
          (idx p_a st2).bind fun e3 =>
          (idx p_b st2).bind fun e4 =>
          (l_eqIntS e3 e4).bind fun r5 =>
          bif (!r5) then
            some (.inr (.inr false))
          else
            some (.inl (w64 (st2 + 1)))
        else
          some (.inr (.inl ())) : Option ((Int) ⊕ (Unit ⊕ Bool)))) 0).bind fun o6 =>
    match o6 with
    | .inl _ =>
      some true
    | .inr y8 =>
      some y8
noncomputable def C43 : FnSpec := { ps := [.val (.slice (.slice (.int .i64))), .val (.slice (.slice (.int .i64)))], rs := [.val .bool], fn := fun x => l_eqIntSS x.1 x.2 }
noncomputable def E43 : Env := { T := [(45, (.slice (.int .i64))), (64, (.slice (.slice (.int .i64))))], G := [(24, C24)], ro := [], loops := [(4, { keep := [0, 1], live := [.tv 5 (.int .i64)], outs := [(.exit 0, []), (.ret, [.tv 4 .bool])] })], joins := [] }
theorem E43_eq : ∀ x, afun E43 Try.f43 C43.ps C43.rs x = C43.fn x := fun x => by kernel_rfl
theorem S43 : Sound Try.prog 43 C43 := fun_sound (E := E43) ⟨good_T (by kernel_rfl), (good_cons S24 ⟨_, Try.func24, by kernel_rfl, by kernel_rfl⟩ good_nil), mixedOk, ins_nil⟩ Try.func43 rfl E43_eq
/-- laws.markIntSS -/
noncomputable def l_markIntSS (p_a : List (List Int)) (p_k : Int) : Option ((List (List Int)) × Int) :=
  (loopE (fun (st2 : (List (List Int)) × Int × Int) => (
      bif (decide (st2.2.2 < (st2.1.length : Int))) then
        bif decide (0 ≤ st2.2.2) && decide (st2.2.2 < (st2.1.length : Int)) then
          (st2.1[(Int.toNat st2.2.2)]?).bind fun e3 =>
          (l_markIntS e3 st2.2.1).bind fun r4 =>
          some (.inl ((st2.1.set (Int.toNat st2.2.2) r4.1), r4.2, (w64 (st2.2.2 + 1))))
        else
          none
      else
        some (.inr (st2.1, st2.2.1)) : Option (((List (List Int)) × Int × Int) ⊕ (((List (List Int)) × Int))))) (p_a, p_k, 0)).bind fun o5 =>
  some (o5.1, o5.2)
noncomputable def C44 : FnSpec := { ps := [.own (.slice (.slice (.int .i64))), .val (.int .i64)], rs := [.val (.int .i64)], fn := fun x => l_markIntSS x.1 x.2 }
noncomputable def E44 : Env := { T := [(45, (.slice (.int .i64))), (64, (.slice (.slice (.int .i64))))], G := [(26, C26)], ro := [], loops := [(2, { keep := [], live := [.own 0 [] 100000 (.slice (.int .i64)) true, .tv 1 (.int .i64), .tv 5 (.int .i64)], outs := [(.exit 0, [.own 0 [] 100000 (.slice (.int .i64)) true, .tv 1 (.int .i64)])] })], joins := [] }
theorem E44_eq : ∀ x, afun E44 Try.f44 C44.ps C44.rs x = C44.fn x := fun x => by kernel_rfl
theorem S44 : Sound Try.prog 44 C44 := fun_sound_own (E := E44) ⟨good_T (by kernel_rfl), (good_cons S26 ⟨_, Try.func26, by kernel_rfl, by kernel_rfl⟩ good_nil), mixedOk, ins_nil⟩ Try.func44 rfl rfl E44_eq
/-- laws.heldIntSS -/
noncomputable def l_heldIntSS (p_a : List (List Int)) (p_k : Int) : Option (Int) :=
  (loopE (fun (st2 : Int × Int) => (
      bif (decide (st2.2 < (p_a.length : Int))) then
        (idx p_a st2.2).bind fun e3 =>
        (l_heldIntS e3 st2.1).bind fun r4 =>
        bif (decide (r4 < 0)) then
          some (.inr (.inr (-1)))
        else
          some (.inl (r4, (w64 (st2.2 + 1))))
      else
        some (.inr (.inl st2.1)) : Option ((Int × Int) ⊕ (Int ⊕ Int)))) (p_k, 0)).bind fun o5 =>
  match o5 with
  | .inl x6 =>
    some x6
  | .inr y7 =>
    some y7
noncomputable def C45 : FnSpec := { ps := [.val (.slice (.slice (.int .i64))), .val (.int .i64)], rs := [.val (.int .i64)], fn := fun x => l_heldIntSS x.1 x.2 }
noncomputable def E45 : Env := { T := [(45, (.slice (.int .i64))), (64, (.slice (.slice (.int .i64))))], G := [(27, C27)], ro := [], loops := [(2, { keep := [0], live := [.tv 1 (.int .i64), .tv 5 (.int .i64)], outs := [(.exit 0, [.tv 1 (.int .i64)]), (.ret, [.tv 4 (.int .i64)])] })], joins := [] }
theorem E45_eq : ∀ x, afun E45 Try.f45 C45.ps C45.rs x = C45.fn x := fun x => by kernel_rfl
theorem S45 : Sound Try.prog 45 C45 := fun_sound (E := E45) ⟨good_T (by kernel_rfl), (good_cons S27 ⟨_, Try.func27, by kernel_rfl, by kernel_rfl⟩ good_nil), mixedOk, ins_nil⟩ Try.func45 rfl E45_eq
/-- laws.FnExactAllowedPasses -/
noncomputable def l_FnExactAllowedPasses (p_aW : GNetwork) : Option (Bool) :=
  (l_szNetwork p_aW 1048576).bind fun r1 =>
  bif (decide (r1 < 0)) then
    some true
  else
    (l_toNetwork p_aW).bind fun r2 =>
    (s_AllowedPasses r2).bind fun r3 =>
    (l_toNetwork p_aW).bind fun r4 =>
    (i_AllowedPasses r4).bind fun r5 =>
    (l_eqIntSS r5.1 r3.1).bind fun r6 =>
    (bif (!r6) then
        some true
      else
        some (r5.2 != r3.2)).bind fun c7 =>
    bif c7 then
      some false
    else
      (l_toNetwork p_aW).bind fun r8 =>
      (l_eqNetwork r4 r8).bind fun r9 =>
      bif (!r9) then
        some false
      else
        (l_markNetwork r4 1).bind fun r10 =>
        (bif (decide (r10.2 < 0)) then
            some true
          else
            (l_eqIntSS r5.1 r3.1).bind fun r11 =>
            some (!r11)).bind fun c12 =>
        (bif c12 then
            some true
          else
            some (r5.2 != r3.2)).bind fun c13 =>
        bif c13 then
          some false
        else
          (l_markIntSS r5.1 1).bind fun r14 =>
          (l_heldIntSS r14.1 1).bind fun r15 =>
          bif (decide (r15 < 0)) then
            some false
          else
            bif (!decide (r15 = r14.2)) then
              some false
            else
              (l_toNetwork p_aW).bind fun r16 =>
              (i_AllowedPasses r16).bind fun r17 =>
              (l_eqIntSS r17.1 r3.1).bind fun r18 =>
              (bif (!r18) then
                  some true
                else
                  some (r17.2 != r3.2)).bind fun c19 =>
              bif c19 then
                some false
              else
                (l_heldIntSS r14.1 1).bind fun r20 =>
                bif (decide (r20 < 0)) then
                  some false
                else
                  bif (!decide (r20 = r14.2)) then
                    some false
                  else
                    some true
noncomputable def C8 : FnSpec := { ps := [.val TGNetwork], rs := [.val .bool], fn := fun x => l_FnExactAllowedPasses x }
noncomputable def E8 : Env := { T := [(4, .bool), (29, TGNetwork), (39, TGNetwork)], G := [(15, C15), (17, C17), (19, C19), (25, C25), (41, C41), (42, C42), (43, C43), (44, C44), (45, C45)], ro := [1], loops := [], joins := [] }
theorem E8_eq : ∀ x, afun E8 Try.f8 C8.ps C8.rs x = C8.fn x := fun x => by kernel_rfl
theorem S8 : Sound Try.prog 8 C8 := fun_sound (E := E8) ⟨good_T (by kernel_rfl), (good_cons S15 ⟨_, Try.func15, by kernel_rfl, by kernel_rfl⟩ (good_cons S17 ⟨_, Try.func17, by kernel_rfl, by kernel_rfl⟩ (good_cons S19 ⟨_, Try.func19, by kernel_rfl, by kernel_rfl⟩ (good_cons S25 ⟨_, Try.func25, by kernel_rfl, by kernel_rfl⟩ (good_cons S41 ⟨_, Try.func41, by kernel_rfl, by kernel_rfl⟩ (good_cons S42 ⟨_, Try.func42, by kernel_rfl, by kernel_rfl⟩ (good_cons S43 ⟨_, Try.func43, by kernel_rfl, by kernel_rfl⟩ (good_cons S44 ⟨_, Try.func44, by kernel_rfl, by kernel_rfl⟩ (good_cons S45 ⟨_, Try.func45, by kernel_rfl, by kernel_rfl⟩ good_nil))))))))), mixedOk, ins_nil⟩ Try.func8 rfl E8_eq
/-- spec.nwAccept -/
noncomputable def s_nwAccept (p_w : GNetwork) (p_message : Int) (p_from : Int) (p_to : Int) (p_parts : Int) : Option (GNetwork × Bool) :=
  (s_l1In p_message 1 999).bind fun r1 =>
  (bif (!r1) then
      some true
    else
      (s_l1In p_from 0 (w64 ((p_w.1.1.length : Int) - 1))).bind fun r2 =>
      some (!r2)).bind fun c3 =>
  (bif c3 then
      some true
    else
      (s_l1In p_to 0 (w64 ((p_w.1.1.length : Int) - 1))).bind fun r4 =>
      some (!r4)).bind fun c5 =>
  (bif c5 then
      some true
    else
      (s_l1In p_parts 1 9).bind fun r6 =>
      some (!r6)).bind fun c7 =>
  (bif c7 then
      some true
    else
      (s_nwFind p_w p_message 0).bind fun r8 =>
      some (decide (0 ≤ r8))).bind fun c9 =>
  (bif c9 then
      some true
    else
      some (decide (40 < (w64 ((p_w.2.2.2.1.length : Int) + p_parts))))).bind fun c10 =>
  bif c10 then
    some ((([], [], ()), [], 0, [], ()), false)
  else
    (s_nwOwn p_w).bind fun r11 =>
    (loopE (fun (st13 : (List GLink) × (List GLink) × (List GLink) × Int × (List GParcel) × (List GLink) × (List GLink) × (List GLink) × Int × (List GParcel) × Int) => (
        bif (decide (st13.2.2.2.2.2.2.2.2.2.2 < (p_w.2.2.2.1.length : Int))) then
          (idx p_w.2.2.2.1 st13.2.2.2.2.2.2.2.2.2.2).bind fun e14 =>
          bif (decide (e14.1 < p_message)) then
            bif decide (List.length st13.2.2.2.2.2.2.2.2.2.1 + List.length [e14] ≤ lim) then
              some (.inl (st13.1, st13.2.1, st13.2.2.1, st13.2.2.2.1, st13.2.2.2.2.1, st13.2.2.2.2.2.1, st13.2.2.2.2.2.2.1, st13.2.2.2.2.2.2.2.1, st13.2.2.2.2.2.2.2.2.1, (st13.2.2.2.2.2.2.2.2.2.1 ++ [e14]), (w64 (st13.2.2.2.2.2.2.2.2.2.2 + 1))))
            else
              none
          else
            some (.inl (st13.1, st13.2.1, st13.2.2.1, st13.2.2.2.1, st13.2.2.2.2.1, st13.2.2.2.2.2.1, st13.2.2.2.2.2.2.1, st13.2.2.2.2.2.2.2.1, st13.2.2.2.2.2.2.2.2.1, st13.2.2.2.2.2.2.2.2.2.1, (w64 (st13.2.2.2.2.2.2.2.2.2.2 + 1))))
        else
          some (.inr (st13.1, st13.2.1, st13.2.2.1, st13.2.2.2.1, st13.2.2.2.2.1, st13.2.2.2.2.2.1, st13.2.2.2.2.2.2.1, st13.2.2.2.2.2.2.2.1, st13.2.2.2.2.2.2.2.2.1, st13.2.2.2.2.2.2.2.2.2.1)) : Option (((List GLink) × (List GLink) × (List GLink) × Int × (List GParcel) × (List GLink) × (List GLink) × (List GLink) × Int × (List GParcel) × Int) ⊕ (((List GLink) × (List GLink) × (List GLink) × Int × (List GParcel) × (List GLink) × (List GLink) × (List GLink) × Int × (List GParcel)))))) ([], [], [], 0, [], r11.1.1, r11.1.2.1, r11.2.1, r11.2.2.1, [], 0)).bind fun o15 =>
    (loopE (fun (st17 : (List GLink) × (List GLink) × (List GLink) × Int × (List GParcel) × (List GLink) × (List GLink) × (List GLink) × Int × (List GParcel) × Int) => (
        bif (decide (st17.2.2.2.2.2.2.2.2.2.2 < p_parts)) then
          bif decide (List.length st17.2.2.2.2.2.2.2.2.2.1 + List.length [(p_message, st17.2.2.2.2.2.2.2.2.2.2, p_parts, p_from, p_to, p_w.2.2.1, ())] ≤ lim) then
            some (.inl (st17.1, st17.2.1, st17.2.2.1, st17.2.2.2.1, st17.2.2.2.2.1, st17.2.2.2.2.2.1, st17.2.2.2.2.2.2.1, st17.2.2.2.2.2.2.2.1, st17.2.2.2.2.2.2.2.2.1, (st17.2.2.2.2.2.2.2.2.2.1 ++ [(p_message, st17.2.2.2.2.2.2.2.2.2.2, p_parts, p_from, p_to, p_w.2.2.1, ())]), (w64 (st17.2.2.2.2.2.2.2.2.2.2 + 1))))
          else
            none
        else
          some (.inr (st17.1, st17.2.1, st17.2.2.1, st17.2.2.2.1, st17.2.2.2.2.1, st17.2.2.2.2.2.1, st17.2.2.2.2.2.2.1, st17.2.2.2.2.2.2.2.1, st17.2.2.2.2.2.2.2.2.1, st17.2.2.2.2.2.2.2.2.2.1)) : Option (((List GLink) × (List GLink) × (List GLink) × Int × (List GParcel) × (List GLink) × (List GLink) × (List GLink) × Int × (List GParcel) × Int) ⊕ (((List GLink) × (List GLink) × (List GLink) × Int × (List GParcel) × (List GLink) × (List GLink) × (List GLink) × Int × (List GParcel)))))) (o15.1, o15.2.1, o15.2.2.1, o15.2.2.2.1, o15.2.2.2.2.1, o15.2.2.2.2.2.1, o15.2.2.2.2.2.2.1, o15.2.2.2.2.2.2.2.1, o15.2.2.2.2.2.2.2.2.1, o15.2.2.2.2.2.2.2.2.2, 0)).bind fun o18 =>
    (loopE (fun (st20 : (List GLink) × (List GLink) × (List GLink) × Int × (List GParcel) × (List GLink) × (List GLink) × (List GLink) × Int × (List GParcel) × Int) => (
        bif (decide (st20.2.2.2.2.2.2.2.2.2.2 < (p_w.2.2.2.1.length : Int))) then
          (idx p_w.2.2.2.1 st20.2.2.2.2.2.2.2.2.2.2).bind fun e21 =>
          bif (decide (p_message < e21.1)) then
            bif decide (List.length st20.2.2.2.2.2.2.2.2.2.1 + List.length [e21] ≤ lim) then
              some (.inl (st20.1, st20.2.1, st20.2.2.1, st20.2.2.2.1, st20.2.2.2.2.1, st20.2.2.2.2.2.1, st20.2.2.2.2.2.2.1, st20.2.2.2.2.2.2.2.1, st20.2.2.2.2.2.2.2.2.1, (st20.2.2.2.2.2.2.2.2.2.1 ++ [e21]), (w64 (st20.2.2.2.2.2.2.2.2.2.2 + 1))))
            else
              none
          else
            some (.inl (st20.1, st20.2.1, st20.2.2.1, st20.2.2.2.1, st20.2.2.2.2.1, st20.2.2.2.2.2.1, st20.2.2.2.2.2.2.1, st20.2.2.2.2.2.2.2.1, st20.2.2.2.2.2.2.2.2.1, st20.2.2.2.2.2.2.2.2.2.1, (w64 (st20.2.2.2.2.2.2.2.2.2.2 + 1))))
        else
          some (.inr (st20.1, st20.2.1, st20.2.2.1, st20.2.2.2.1, st20.2.2.2.2.1, st20.2.2.2.2.2.1, st20.2.2.2.2.2.2.1, st20.2.2.2.2.2.2.2.1, st20.2.2.2.2.2.2.2.2.1, st20.2.2.2.2.2.2.2.2.2.1)) : Option (((List GLink) × (List GLink) × (List GLink) × Int × (List GParcel) × (List GLink) × (List GLink) × (List GLink) × Int × (List GParcel) × Int) ⊕ (((List GLink) × (List GLink) × (List GLink) × Int × (List GParcel) × (List GLink) × (List GLink) × (List GLink) × Int × (List GParcel)))))) (o18.1, o18.2.1, o18.2.2.1, o18.2.2.2.1, o18.2.2.2.2.1, o18.2.2.2.2.2.1, o18.2.2.2.2.2.2.1, o18.2.2.2.2.2.2.2.1, o18.2.2.2.2.2.2.2.2.1, o18.2.2.2.2.2.2.2.2.2, 0)).bind fun o22 =>
    some (((o22.2.2.2.2.2.1, o22.2.2.2.2.2.2.1, ()), o22.2.2.2.2.2.2.2.1, o22.2.2.2.2.2.2.2.2.1, o22.2.2.2.2.2.2.2.2.2, ()), true)
noncomputable def C143 : FnSpec := { ps := [.val TGNetwork, .val (.int .i64), .val (.int .i64), .val (.int .i64), .val (.int .i64)], rs := [.own TGNetwork, .val .bool], fn := fun x => s_nwAccept x.1 x.2.1 x.2.2.1 x.2.2.2.1 x.2.2.2.2 }
noncomputable def E143 : Env := { T := [(3, (.int .i64)), (32, (.slice TGLink)), (35, TGNet), (37, (.slice TGParcel)), (39, TGNetwork), (88, TGParcel)], G := [(82, C82), (86, C86), (127, C127)], ro := [5], loops := [(6, { keep := [1, 2, 3, 4, 5, 65, 66], live := [.bx 10 160 [.own 300160 TGLink true, .own 300161 TGLink true, .own 300162 TGLink true, .pv (.int .i64), .own 300164 TGParcel true], .bx 12 192 [.own 992 TGLink true, .own 993 TGLink true, .own 994 TGLink true, .pv (.int .i64), .own 300196 TGParcel true], .tv 67 (.int .i64)], outs := [(.exit 0, [.bx 10 160 [.own 300160 TGLink true, .own 300161 TGLink true, .own 300162 TGLink true, .pv (.int .i64), .own 300164 TGParcel true], .bx 12 192 [.own 992 TGLink true, .own 993 TGLink true, .own 994 TGLink true, .pv (.int .i64), .own 300196 TGParcel true]])] }), (12, { keep := [1, 2, 3, 4, 5], live := [.bx 10 160 [.own 300160 TGLink true, .own 300161 TGLink true, .own 300162 TGLink true, .pv (.int .i64), .own 300164 TGParcel true], .bx 12 192 [.own 992 TGLink true, .own 993 TGLink true, .own 994 TGLink true, .pv (.int .i64), .own 300196 TGParcel true], .tv 15 (.int .i64)], outs := [(.exit 2, [.bx 10 160 [.own 300160 TGLink true, .own 300161 TGLink true, .own 300162 TGLink true, .pv (.int .i64), .own 300164 TGParcel true], .bx 12 192 [.own 992 TGLink true, .own 993 TGLink true, .own 994 TGLink true, .pv (.int .i64), .own 300196 TGParcel true]])] }), (16, { keep := [1, 101, 102], live := [.bx 10 160 [.own 300160 TGLink true, .own 300161 TGLink true, .own 300162 TGLink true, .pv (.int .i64), .own 300164 TGParcel true], .bx 12 192 [.own 992 TGLink true, .own 993 TGLink true, .own 994 TGLink true, .pv (.int .i64), .own 300196 TGParcel true], .tv 103 (.int .i64)], outs := [(.exit 4, [.bx 10 160 [.own 300160 TGLink true, .own 300161 TGLink true, .own 300162 TGLink true, .pv (.int .i64), .own 300164 TGParcel true], .bx 12 192 [.own 992 TGLink true, .own 993 TGLink true, .own 994 TGLink true, .pv (.int .i64), .own 300196 TGParcel true]])] })], joins := [] }
theorem E143_eq : ∀ x, afun E143 Try.f143 C143.ps C143.rs x = C143.fn x := fun x => by kernel_rfl
theorem S143 : Sound Try.prog 143 C143 := fun_sound (E := E143) ⟨good_T (by kernel_rfl), (good_cons S82 ⟨_, Try.func82, by kernel_rfl, by kernel_rfl⟩ (good_cons S86 ⟨_, Try.func86, by kernel_rfl, by kernel_rfl⟩ (good_cons S127 ⟨_, Try.func127, by kernel_rfl, by kernel_rfl⟩ good_nil))), mixedOk, ins_nil⟩ Try.func143 rfl E143_eq
/-- spec.nwPass -/
noncomputable def s_nwPass (p_w : GNetwork) (p_message : Int) (p_part : Int) (p_tower : Int) : Option (GNetwork × Bool) :=
  (s_nwFind p_w p_message p_part).bind fun r1 =>
  (bif (decide (r1 < 0)) then
      some true
    else
      (s_l1In p_tower 0 (w64 ((p_w.1.1.length : Int) - 1))).bind fun r2 =>
      some (!r2)).bind fun c3 =>
  (bif c3 then
      some true
    else
      (idx p_w.2.2.2.1 r1).bind fun e4 =>
      (s_nwCan p_w e4 p_tower p_w.2.2.1).bind fun r5 =>
      some (!r5)).bind fun c6 =>
  bif c6 then
    some ((([], [], ()), [], 0, [], ()), false)
  else
    (s_nwOwn p_w).bind fun r7 =>
    bif decide (0 ≤ r1) && decide (r1 < (r7.2.2.2.1.length : Int)) then
      (r7.2.2.2.1[(Int.toNat r1)]?).bind fun e8 =>
      (s_neLink p_w.1 e8.2.2.2.1 p_tower).bind fun r9 =>
      (idx p_w.1.2.1 r9).bind fun e10 =>
      (r7.2.2.2.1[(Int.toNat r1)]?).bind fun e11 =>
      ((r7.2.2.2.1.set (Int.toNat r1) (e11.1, e11.2.1, e11.2.2.1, e11.2.2.2.1, e11.2.2.2.2.1, (w64 (p_w.2.2.1 + e10.2.2.1)), ()))[(Int.toNat r1)]?).bind fun e12 =>
      some ((r7.1, r7.2.1, r7.2.2.1, ((r7.2.2.2.1.set (Int.toNat r1) (e11.1, e11.2.1, e11.2.2.1, e11.2.2.2.1, e11.2.2.2.2.1, (w64 (p_w.2.2.1 + e10.2.2.1)), ())).set (Int.toNat r1) (e12.1, e12.2.1, e12.2.2.1, p_tower, e12.2.2.2.2)), ()), true)
    else
      none
noncomputable def C144 : FnSpec := { ps := [.val TGNetwork, .val (.int .i64), .val (.int .i64), .val (.int .i64)], rs := [.own TGNetwork, .val .bool], fn := fun x => s_nwPass x.1 x.2.1 x.2.2.1 x.2.2.2 }
noncomputable def E144 : Env := { T := [(3, (.int .i64)), (32, (.slice TGLink)), (33, (.slice TGLink)), (35, TGNet), (37, (.slice TGParcel)), (39, TGNetwork), (88, TGParcel), (109, TGLink)], G := [(77, C77), (82, C82), (86, C86), (102, C102), (127, C127)], ro := [4], loops := [], joins := [] }
theorem E144_eq : ∀ x, afun E144 Try.f144 C144.ps C144.rs x = C144.fn x := fun x => by kernel_rfl
theorem S144 : Sound Try.prog 144 C144 := fun_sound (E := E144) ⟨good_T (by kernel_rfl), (good_cons S77 ⟨_, Try.func77, by kernel_rfl, by kernel_rfl⟩ (good_cons S82 ⟨_, Try.func82, by kernel_rfl, by kernel_rfl⟩ (good_cons S86 ⟨_, Try.func86, by kernel_rfl, by kernel_rfl⟩ (good_cons S102 ⟨_, Try.func102, by kernel_rfl, by kernel_rfl⟩ (good_cons S127 ⟨_, Try.func127, by kernel_rfl, by kernel_rfl⟩ good_nil))))), mixedOk, ins_nil⟩ Try.func144 rfl E144_eq
/-- spec.nwAct -/
noncomputable def s_nwAct (p_w : GNetwork) (p_a : GAct) : Option (GNetwork × Bool) :=
  bif (decide (p_a.1 = 1)) then
    (s_nwAccept p_w p_a.2.1 p_a.2.2.1 p_a.2.2.2.1 p_a.2.2.2.2.1).bind fun r1 =>
    some (r1.1, r1.2)
  else
    bif (decide (p_a.1 = 2)) then
      (s_nwPass p_w p_a.2.1 p_a.2.2.1 p_a.2.2.2.1).bind fun r2 =>
      some (r2.1, r2.2)
    else
      bif (decide (p_a.1 = 3)) then
        (s_l1In p_a.2.2.2.2.1 1 1000).bind fun r3 =>
        (bif r3 then
            (s_fgTime (w64 (p_w.2.2.1 + p_a.2.2.2.2.1))).bind fun r4 =>
            some r4
          else
            some false).bind fun c5 =>
        bif c5 then
          (s_nwOwn p_w).bind fun r6 =>
          some ((r6.1, r6.2.1, (w64 (r6.2.2.1 + p_a.2.2.2.2.1)), r6.2.2.2), true)
        else
          some ((([], [], ()), [], 0, [], ()), false)
      else
        some ((([], [], ()), [], 0, [], ()), false)
noncomputable def C105 : FnSpec := { ps := [.val TGNetwork, .val TGAct], rs := [.own TGNetwork, .val .bool], fn := fun x => s_nwAct x.1 x.2 }
noncomputable def E105 : Env := { T := [(3, (.int .i64)), (39, TGNetwork), (135, TGAct)], G := [(80, C80), (86, C86), (127, C127), (143, C143), (144, C144)], ro := [2, 3], loops := [], joins := [] }
theorem E105_eq : ∀ x, afun E105 Try.f105 C105.ps C105.rs x = C105.fn x := fun x => by kernel_rfl
theorem S105 : Sound Try.prog 105 C105 := fun_sound (E := E105) ⟨good_T (by kernel_rfl), (good_cons S80 ⟨_, Try.func80, by kernel_rfl, by kernel_rfl⟩ (good_cons S86 ⟨_, Try.func86, by kernel_rfl, by kernel_rfl⟩ (good_cons S127 ⟨_, Try.func127, by kernel_rfl, by kernel_rfl⟩ (good_cons S143 ⟨_, Try.func143, by kernel_rfl, by kernel_rfl⟩ (good_cons S144 ⟨_, Try.func144, by kernel_rfl, by kernel_rfl⟩ good_nil))))), mixedOk, ins_nil⟩ Try.func105 rfl E105_eq
/-- spec.nwAsked -/
noncomputable def s_nwAsked (p_w : GNetwork) (p_a : GAct) : Option (GNetwork × Bool) :=
  (s_nwGood p_w).bind fun r1 =>
  bif (!r1) then
    some ((([], [], ()), [], 0, [], ()), false)
  else
    (s_nwAct p_w p_a).bind fun r2 =>
    some (r2.1, r2.2)
noncomputable def C103 : FnSpec := { ps := [.val TGNetwork, .val TGAct], rs := [.own TGNetwork, .val .bool], fn := fun x => s_nwAsked x.1 x.2 }
noncomputable def E103 : Env := { T := [(39, TGNetwork), (135, TGAct)], G := [(70, C70), (105, C105)], ro := [2, 3], loops := [], joins := [] }
theorem E103_eq : ∀ x, afun E103 Try.f103 C103.ps C103.rs x = C103.fn x := fun x => by kernel_rfl
theorem S103 : Sound Try.prog 103 C103 := fun_sound (E := E103) ⟨good_T (by kernel_rfl), (good_cons S70 ⟨_, Try.func70, by kernel_rfl, by kernel_rfl⟩ (good_cons S105 ⟨_, Try.func105, by kernel_rfl, by kernel_rfl⟩ good_nil)), mixedOk, ins_nil⟩ Try.func103 rfl E103_eq
/-- spec.PassParcel -/
noncomputable def s_PassParcel (p_w : GNetwork) (p_message : Int) (p_part : Int) (p_tower : Int) : Option (GNetwork × Bool) :=
  (s_nwAsked p_w (2, p_message, p_part, p_tower, 0, ())).bind fun r1 =>
  some (r1.1, r1.2)
noncomputable def C48 : FnSpec := { ps := [.val TGNetwork, .val (.int .i64), .val (.int .i64), .val (.int .i64)], rs := [.own TGNetwork, .val .bool], fn := fun x => s_PassParcel x.1 x.2.1 x.2.2.1 x.2.2.2 }
noncomputable def E48 : Env := { T := [(39, TGNetwork), (135, TGAct)], G := [(103, C103)], ro := [4], loops := [], joins := [] }
theorem E48_eq : ∀ x, afun E48 Try.f48 C48.ps C48.rs x = C48.fn x := fun x => by kernel_rfl
theorem S48 : Sound Try.prog 48 C48 := fun_sound (E := E48) ⟨good_T (by kernel_rfl), (good_cons S103 ⟨_, Try.func103, by kernel_rfl, by kernel_rfl⟩ good_nil), mixedOk, ins_nil⟩ Try.func48 rfl E48_eq
/-- impl.actOn$2 -/
noncomputable def i_actOn_2 (p_x : GParcel) (p_a1 : GAct) : Option (Bool) :=
  some (decide (p_x.1 = p_a1.2.1))
noncomputable def C141 : FnSpec := { ps := [.val TGParcel, .rp TGAct], rs := [.val .bool], fn := fun x => i_actOn_2 x.1 x.2 }
noncomputable def E141 : Env := { T := [(3, (.int .i64)), (88, TGParcel), (135, TGAct)], G := [], ro := [2], loops := [], joins := [] }
theorem E141_eq : ∀ x, afun E141 Try.f141 C141.ps C141.rs x = C141.fn x := fun x => by kernel_rfl
theorem S141 : Sound Try.prog 141 C141 := fun_sound (E := E141) ⟨good_T (by kernel_rfl), good_nil, mixedOk, ins_nil⟩ Try.func141 rfl E141_eq
/-- slices.IndexFunc[[]impl.Parcel,impl.Parcel] -/
noncomputable def slices_IndexFunc_Parcel_141 (p_s : List GParcel) (p_f : GAct × Unit) : Option (Int) :=
  (loopE (fun (st2 : Int) => (
      bif (decide (st2 < (p_s.length : Int))) then
        (idx p_s st2).bind fun e3 =>
        (i_actOn_2 e3 p_f.1).bind fun r4 =>
        bif r4 then
          some (.inr (.inr st2))
        else
          some (.inl (w64 (st2 + 1)))
      else
        some (.inr (.inl ())) : Option ((Int) ⊕ (Unit ⊕ Int)))) 0).bind fun o5 =>
  match o5 with
  | .inl _ =>
    some (-1)
  | .inr y7 =>
    some y7
noncomputable def C139_141 : FnSpec := { ps := [.val (.slice TGParcel), .fn 141 [TGAct]], rs := [.val (.int .i64)], fn := fun x => slices_IndexFunc_Parcel_141 x.1 x.2 }
noncomputable def E139_141 : Env := { T := [(37, (.slice TGParcel)), (88, TGParcel)], G := [(141, C141)], ro := [], loops := [(2, { keep := [0, 1, 7], live := [.tv 8 (.int .i64)], outs := [(.exit 0, []), (.ret, [.tv 4 (.int .i64)])] })], joins := [] }
theorem E139_141_eq : ∀ x, afun E139_141 Try.f139 C139_141.ps C139_141.rs x = C139_141.fn x := fun x => by kernel_rfl
theorem S139_141 : Sound Try.prog 139 C139_141 := fun_sound (E := E139_141) ⟨good_T (by kernel_rfl), (good_cons S141 ⟨_, Try.func141, by kernel_rfl, by kernel_rfl⟩ good_nil), mixedOk, ins_nil⟩ Try.func139 rfl E139_141_eq
/-- slices.ContainsFunc[[]impl.Parcel,impl.Parcel] -/
noncomputable def slices_ContainsFunc_Parcel_141 (p_s : List GParcel) (p_f : GAct × Unit) : Option (Bool) :=
  (slices_IndexFunc_Parcel_141 p_s p_f).bind fun r1 =>
  some (decide (0 ≤ r1))
noncomputable def C100_141 : FnSpec := { ps := [.val (.slice TGParcel), .fn 141 [TGAct]], rs := [.val .bool], fn := fun x => slices_ContainsFunc_Parcel_141 x.1 x.2 }
noncomputable def E100_141 : Env := { T := [], G := [(139, C139_141)], ro := [], loops := [], joins := [] }
theorem E100_141_eq : ∀ x, afun E100_141 Try.f100 C100_141.ps C100_141.rs x = C100_141.fn x := fun x => by kernel_rfl
theorem S100_141 : Sound Try.prog 100 C100_141 := fun_sound (E := E100_141) ⟨good_T (by kernel_rfl), (good_cons S139_141 ⟨_, Try.func139, by kernel_rfl, by kernel_rfl⟩ good_nil), mixedOk, ins_nil⟩ Try.func100 rfl E100_141_eq
/-- slices.Clone[[]impl.Parcel,impl.Parcel] -/
noncomputable def slices_Clone_Parcel (p_s : List GParcel) : Option ((List GParcel)) :=
  bif List.isEmpty p_s then
    bothSame (
      bif true then
        some []
      else
        bif decide (List.length p_s ≤ lim) then
          some p_s
        else
          none)
    (
      bif false then
        some []
      else
        bif decide (List.length p_s ≤ lim) then
          some p_s
        else
          none)
  else
    bif false then
      some []
    else
      bif decide (List.length p_s ≤ lim) then
        some p_s
      else
        none
noncomputable def C145 : FnSpec := { ps := [.val (.slice TGParcel)], rs := [.own (.slice TGParcel)], fn := fun x => slices_Clone_Parcel x }
noncomputable def E145 : Env := { T := [(37, (.slice TGParcel))], G := [], ro := [], loops := [], joins := [] }
theorem E145_eq : ∀ x, afun E145 Try.f145 C145.ps C145.rs x = C145.fn x := fun x => by kernel_rfl
theorem S145 : Sound Try.prog 145 C145 := fun_sound (E := E145) ⟨good_T (by kernel_rfl), good_nil, mixedOk, ins_nil⟩ Try.func145 rfl E145_eq
/-- impl.cloneNetwork -/
noncomputable def i_cloneNetwork (p_w : GNetwork) : Option (GNetwork) :=
  (i_cloneNet p_w.1).bind fun r1 =>
  (slices_Clone_Fog p_w.2.1).bind fun r2 =>
  (slices_Clone_Parcel p_w.2.2.2.1).bind fun r3 =>
  some (r1, r2, p_w.2.2.1, r3, ())
noncomputable def C107 : FnSpec := { ps := [.val TGNetwork], rs := [.own TGNetwork], fn := fun x => i_cloneNetwork x }
noncomputable def E107 : Env := { T := [(3, (.int .i64)), (35, TGNet), (36, (.slice TGLink)), (37, (.slice TGParcel)), (39, TGNetwork)], G := [(90, C90), (91, C91), (145, C145)], ro := [1], loops := [], joins := [] }
theorem E107_eq : ∀ x, afun E107 Try.f107 C107.ps C107.rs x = C107.fn x := fun x => by kernel_rfl
theorem S107 : Sound Try.prog 107 C107 := fun_sound (E := E107) ⟨good_T (by kernel_rfl), (good_cons S90 ⟨_, Try.func90, by kernel_rfl, by kernel_rfl⟩ (good_cons S91 ⟨_, Try.func91, by kernel_rfl, by kernel_rfl⟩ (good_cons S145 ⟨_, Try.func145, by kernel_rfl, by kernel_rfl⟩ good_nil))), mixedOk, ins_nil⟩ Try.func107 rfl E107_eq
/-- impl.actOn$1 -/
noncomputable def i_actOn_1 (p_x : GParcel) (p_a1 : GAct) : Option (Bool) :=
  (bif (decide (p_x.1 = p_a1.2.1)) then
      some (decide (p_x.2.1 = p_a1.2.2.1))
    else
      some false).bind fun c1 =>
  some c1
noncomputable def C140 : FnSpec := { ps := [.val TGParcel, .rp TGAct], rs := [.val .bool], fn := fun x => i_actOn_1 x.1 x.2 }
noncomputable def E140 : Env := { T := [(3, (.int .i64)), (88, TGParcel), (135, TGAct)], G := [], ro := [2], loops := [], joins := [] }
theorem E140_eq : ∀ x, afun E140 Try.f140 C140.ps C140.rs x = C140.fn x := fun x => by kernel_rfl
theorem S140 : Sound Try.prog 140 C140 := fun_sound (E := E140) ⟨good_T (by kernel_rfl), good_nil, mixedOk, ins_nil⟩ Try.func140 rfl E140_eq
/-- slices.IndexFunc[[]impl.Parcel,impl.Parcel] -/
noncomputable def slices_IndexFunc_Parcel_140 (p_s : List GParcel) (p_f : GAct × Unit) : Option (Int) :=
  (loopE (fun (st2 : Int) => (
      bif (decide (st2 < (p_s.length : Int))) then
        (idx p_s st2).bind fun e3 =>
        (i_actOn_1 e3 p_f.1).bind fun r4 =>
        bif r4 then
          some (.inr (.inr st2))
        else
          some (.inl (w64 (st2 + 1)))
      else
        some (.inr (.inl ())) : Option ((Int) ⊕ (Unit ⊕ Int)))) 0).bind fun o5 =>
  match o5 with
  | .inl _ =>
    some (-1)
  | .inr y7 =>
    some y7
noncomputable def C139_140 : FnSpec := { ps := [.val (.slice TGParcel), .fn 140 [TGAct]], rs := [.val (.int .i64)], fn := fun x => slices_IndexFunc_Parcel_140 x.1 x.2 }
noncomputable def E139_140 : Env := { T := [(37, (.slice TGParcel)), (88, TGParcel)], G := [(140, C140)], ro := [], loops := [(2, { keep := [0, 1, 7], live := [.tv 8 (.int .i64)], outs := [(.exit 0, []), (.ret, [.tv 4 (.int .i64)])] })], joins := [] }
theorem E139_140_eq : ∀ x, afun E139_140 Try.f139 C139_140.ps C139_140.rs x = C139_140.fn x := fun x => by kernel_rfl
theorem S139_140 : Sound Try.prog 139 C139_140 := fun_sound (E := E139_140) ⟨good_T (by kernel_rfl), (good_cons S140 ⟨_, Try.func140, by kernel_rfl, by kernel_rfl⟩ good_nil), mixedOk, ins_nil⟩ Try.func139 rfl E139_140_eq
/-- impl.actOn -/
noncomputable def i_actOn (p_w : GNetwork) (p_a : GAct) : Option (GNetwork × Bool) :=
  (i_cloneNetwork p_w).bind fun r1 =>
  (slices_IndexFunc_Parcel_140 r1.2.2.2.1 (p_a, ())).bind fun r2 =>
  bif (decide (p_a.1 = 1)) then
    (slices_ContainsFunc_Parcel_141 r1.2.2.2.1 (p_a, ())).bind fun r3 =>
    (bif r3 then
        some true
      else
        (i_within p_a.2.2.2.2.1 1 9).bind fun r4 =>
        some (!r4)).bind fun c5 =>
    bif c5 then
      some ((([], [], ()), [], 0, [], ()), false)
    else
      (loopE (fun (st7 : (List GLink) × (List GLink) × (List GLink) × Int × (List GParcel) × (List GLink) × (List GLink) × (List GLink) × Int × (List GParcel) × Int) => (
          (bif (decide (st7.2.2.2.2.2.2.2.2.2.2 < (st7.2.2.2.2.2.2.2.2.2.1.length : Int))) then
              bif decide (0 ≤ st7.2.2.2.2.2.2.2.2.2.2) && decide (st7.2.2.2.2.2.2.2.2.2.2 < (st7.2.2.2.2.2.2.2.2.2.1.length : Int)) then
                (st7.2.2.2.2.2.2.2.2.2.1[(Int.toNat st7.2.2.2.2.2.2.2.2.2.2)]?).bind fun e8 =>
                some (decide (e8.1 < p_a.2.1))
              else
                none
            else
              some false).bind fun c9 =>
          bif c9 then
            some (.inl (st7.1, st7.2.1, st7.2.2.1, st7.2.2.2.1, st7.2.2.2.2.1, st7.2.2.2.2.2.1, st7.2.2.2.2.2.2.1, st7.2.2.2.2.2.2.2.1, st7.2.2.2.2.2.2.2.2.1, st7.2.2.2.2.2.2.2.2.2.1, (w64 (st7.2.2.2.2.2.2.2.2.2.2 + 1))))
          else
            some (.inr (st7.1, st7.2.1, st7.2.2.1, st7.2.2.2.1, st7.2.2.2.2.1, st7.2.2.2.2.2.1, st7.2.2.2.2.2.2.1, st7.2.2.2.2.2.2.2.1, st7.2.2.2.2.2.2.2.2.1, st7.2.2.2.2.2.2.2.2.2.1, st7.2.2.2.2.2.2.2.2.2.2)) : Option (((List GLink) × (List GLink) × (List GLink) × Int × (List GParcel) × (List GLink) × (List GLink) × (List GLink) × Int × (List GParcel) × Int) ⊕ (((List GLink) × (List GLink) × (List GLink) × Int × (List GParcel) × (List GLink) × (List GLink) × (List GLink) × Int × (List GParcel) × Int))))) ([], [], [], 0, [], r1.1.1, r1.1.2.1, r1.2.1, r1.2.2.1, r1.2.2.2.1, 0)).bind fun o10 =>
      (loopE (fun (st12 : (List GLink) × (List GLink) × (List GLink) × Int × (List GParcel) × (List GLink) × (List GLink) × (List GLink) × Int × (List GParcel) × Int) => (
          bif (decide (st12.2.2.2.2.2.2.2.2.2.2 < p_a.2.2.2.2.1)) then
            bif decide (0 ≤ (w64 (o10.2.2.2.2.2.2.2.2.2.2 + st12.2.2.2.2.2.2.2.2.2.2))) && decide ((w64 (o10.2.2.2.2.2.2.2.2.2.2 + st12.2.2.2.2.2.2.2.2.2.2)) ≤ (st12.2.2.2.2.2.2.2.2.2.1.length : Int)) && decide (List.length st12.2.2.2.2.2.2.2.2.2.1 ≤ 999999) then
              some (.inl (st12.1, st12.2.1, st12.2.2.1, st12.2.2.2.1, st12.2.2.2.2.1, st12.2.2.2.2.2.1, st12.2.2.2.2.2.2.1, st12.2.2.2.2.2.2.2.1, st12.2.2.2.2.2.2.2.2.1, (insV st12.2.2.2.2.2.2.2.2.2.1 (w64 (o10.2.2.2.2.2.2.2.2.2.2 + st12.2.2.2.2.2.2.2.2.2.2)) (p_a.2.1, st12.2.2.2.2.2.2.2.2.2.2, p_a.2.2.2.2.1, p_a.2.2.1, p_a.2.2.2.1, p_w.2.2.1, ())), (w64 (st12.2.2.2.2.2.2.2.2.2.2 + 1))))
            else
              none
          else
            some (.inr (st12.1, st12.2.1, st12.2.2.1, st12.2.2.2.1, st12.2.2.2.2.1, st12.2.2.2.2.2.1, st12.2.2.2.2.2.2.1, st12.2.2.2.2.2.2.2.1, st12.2.2.2.2.2.2.2.2.1, st12.2.2.2.2.2.2.2.2.2.1)) : Option (((List GLink) × (List GLink) × (List GLink) × Int × (List GParcel) × (List GLink) × (List GLink) × (List GLink) × Int × (List GParcel) × Int) ⊕ (((List GLink) × (List GLink) × (List GLink) × Int × (List GParcel) × (List GLink) × (List GLink) × (List GLink) × Int × (List GParcel)))))) (o10.1, o10.2.1, o10.2.2.1, o10.2.2.2.1, o10.2.2.2.2.1, o10.2.2.2.2.2.1, o10.2.2.2.2.2.2.1, o10.2.2.2.2.2.2.2.1, o10.2.2.2.2.2.2.2.2.1, o10.2.2.2.2.2.2.2.2.2.1, 0)).bind fun o13 =>
      (i_IsNetwork ((o13.2.2.2.2.2.1, o13.2.2.2.2.2.2.1, ()), o13.2.2.2.2.2.2.2.1, o13.2.2.2.2.2.2.2.2.1, o13.2.2.2.2.2.2.2.2.2, ())).bind fun r14 =>
      bif (!r14) then
        some ((([], [], ()), [], 0, [], ()), false)
      else
        some (((o13.2.2.2.2.2.1, o13.2.2.2.2.2.2.1, ()), o13.2.2.2.2.2.2.2.1, o13.2.2.2.2.2.2.2.2.1, o13.2.2.2.2.2.2.2.2.2, ()), true)
  else
    bif (decide (p_a.1 = 2)) then
      bif (decide (r2 < 0)) then
        some ((([], [], ()), [], 0, [], ()), false)
      else
        bif decide (0 ≤ r2) && decide (r2 < (r1.2.2.2.1.length : Int)) then
          (r1.2.2.2.1[(Int.toNat r2)]?).bind fun e15 =>
          (i_passStart p_w e15 p_a.2.2.2.1).bind fun r16 =>
          (bif (!r16.2) then
              some true
            else
              some (!decide (r16.1 = p_w.2.2.1))).bind fun c17 =>
          bif c17 then
            some ((([], [], ()), [], 0, [], ()), false)
          else
            (r1.2.2.2.1[(Int.toNat r2)]?).bind fun e18 =>
            (i_linkIndex p_w.1 e18.2.2.2.1 p_a.2.2.2.1).bind fun r19 =>
            (idx p_w.1.2.1 r19).bind fun e20 =>
            (r1.2.2.2.1[(Int.toNat r2)]?).bind fun e21 =>
            ((r1.2.2.2.1.set (Int.toNat r2) (e21.1, e21.2.1, e21.2.2.1, e21.2.2.2.1, e21.2.2.2.2.1, (w64 (p_w.2.2.1 + e20.2.2.1)), ()))[(Int.toNat r2)]?).bind fun e22 =>
            (i_IsNetwork (r1.1, r1.2.1, r1.2.2.1, ((r1.2.2.2.1.set (Int.toNat r2) (e21.1, e21.2.1, e21.2.2.1, e21.2.2.2.1, e21.2.2.2.2.1, (w64 (p_w.2.2.1 + e20.2.2.1)), ())).set (Int.toNat r2) (e22.1, e22.2.1, e22.2.2.1, p_a.2.2.2.1, e22.2.2.2.2)), ())).bind fun r23 =>
            bif (!r23) then
              some ((([], [], ()), [], 0, [], ()), false)
            else
              some ((r1.1, r1.2.1, r1.2.2.1, ((r1.2.2.2.1.set (Int.toNat r2) (e21.1, e21.2.1, e21.2.2.1, e21.2.2.2.1, e21.2.2.2.2.1, (w64 (p_w.2.2.1 + e20.2.2.1)), ())).set (Int.toNat r2) (e22.1, e22.2.1, e22.2.2.1, p_a.2.2.2.1, e22.2.2.2.2)), ()), true)
        else
          none
    else
      bif (decide (p_a.1 = 3)) then
        (i_within p_a.2.2.2.2.1 1 1000).bind fun r24 =>
        (bif (!r24) then
            some true
          else
            some (decide (10000 < (w64 (r1.2.2.1 + p_a.2.2.2.2.1))))).bind fun c25 =>
        bif c25 then
          some ((([], [], ()), [], 0, [], ()), false)
        else
          (i_IsNetwork (r1.1, r1.2.1, (w64 (r1.2.2.1 + p_a.2.2.2.2.1)), r1.2.2.2)).bind fun r26 =>
          bif (!r26) then
            some ((([], [], ()), [], 0, [], ()), false)
          else
            some ((r1.1, r1.2.1, (w64 (r1.2.2.1 + p_a.2.2.2.2.1)), r1.2.2.2), true)
      else
        some ((([], [], ()), [], 0, [], ()), false)
noncomputable def C104 : FnSpec := { ps := [.val TGNetwork, .val TGAct], rs := [.own TGNetwork, .val .bool], fn := fun x => i_actOn x.1 x.2 }
noncomputable def E104 : Env := { T := [(3, (.int .i64)), (33, (.slice TGLink)), (35, TGNet), (37, (.slice TGParcel)), (39, TGNetwork), (88, TGParcel), (109, TGLink), (135, TGAct)], G := [(18, C18), (74, C74), (81, C81), (100, C100_141), (107, C107), (128, C128), (139, C139_140)], ro := [2, 3], loops := [(9, { keep := [2, 3], live := [.bx 4 64 [.own 300064 TGLink true, .own 300065 TGLink true, .own 300066 TGLink true, .pv (.int .i64), .own 300068 TGParcel true], .bx 6 96 [.own 208 TGLink true, .own 209 TGLink true, .own 210 TGLink true, .pv (.int .i64), .own 211 TGParcel true], .tv 7 (.int .i64)], outs := [(.exit 1, [.bx 4 64 [.own 300064 TGLink true, .own 300065 TGLink true, .own 300066 TGLink true, .pv (.int .i64), .own 300068 TGParcel true], .bx 6 96 [.own 208 TGLink true, .own 209 TGLink true, .own 210 TGLink true, .pv (.int .i64), .own 211 TGParcel true], .tv 7 (.int .i64)])] }), (12, { keep := [2, 3, 7, 53], live := [.bx 4 64 [.own 300064 TGLink true, .own 300065 TGLink true, .own 300066 TGLink true, .pv (.int .i64), .own 300068 TGParcel true], .bx 6 96 [.own 208 TGLink true, .own 209 TGLink true, .own 210 TGLink true, .pv (.int .i64), .own 211 TGParcel true], .tv 54 (.int .i64)], outs := [(.exit 3, [.bx 4 64 [.own 300064 TGLink true, .own 300065 TGLink true, .own 300066 TGLink true, .pv (.int .i64), .own 300068 TGParcel true], .bx 6 96 [.own 208 TGLink true, .own 209 TGLink true, .own 210 TGLink true, .pv (.int .i64), .own 211 TGParcel true]])] })], joins := [], ins := [(142, TGParcel)] }
theorem E104_eq : ∀ x, afun E104 Try.f104 C104.ps C104.rs x = C104.fn x := fun x => by kernel_rfl
theorem S104 : Sound Try.prog 104 C104 := fun_sound (E := E104) ⟨good_T (by kernel_rfl), (good_cons S18 ⟨_, Try.func18, by kernel_rfl, by kernel_rfl⟩ (good_cons S74 ⟨_, Try.func74, by kernel_rfl, by kernel_rfl⟩ (good_cons S81 ⟨_, Try.func81, by kernel_rfl, by kernel_rfl⟩ (good_cons S100_141 ⟨_, Try.func100, by kernel_rfl, by kernel_rfl⟩ (good_cons S107 ⟨_, Try.func107, by kernel_rfl, by kernel_rfl⟩ (good_cons S128 ⟨_, Try.func128, by kernel_rfl, by kernel_rfl⟩ (good_cons S139_140 ⟨_, Try.func139, by kernel_rfl, by kernel_rfl⟩ good_nil))))))), mixedOk, (ins_cons insOk ⟨_, Try.func142, by kernel_rfl, by kernel_rfl⟩ ins_nil)⟩ Try.func104 rfl E104_eq
/-- impl.PassParcel -/
noncomputable def i_PassParcel (p_w : GNetwork) (p_message : Int) (p_part : Int) (p_tower : Int) : Option (GNetwork × Bool) :=
  (i_IsNetwork p_w).bind fun r1 =>
  bif (!r1) then
    some ((([], [], ()), [], 0, [], ()), false)
  else
    (i_actOn p_w (2, p_message, p_part, p_tower, 0, ())).bind fun r2 =>
    some (r2.1, r2.2)
noncomputable def C49 : FnSpec := { ps := [.val TGNetwork, .val (.int .i64), .val (.int .i64), .val (.int .i64)], rs := [.own TGNetwork, .val .bool], fn := fun x => i_PassParcel x.1 x.2.1 x.2.2.1 x.2.2.2 }
noncomputable def E49 : Env := { T := [(39, TGNetwork), (135, TGAct)], G := [(18, C18), (104, C104)], ro := [4], loops := [], joins := [] }
theorem E49_eq : ∀ x, afun E49 Try.f49 C49.ps C49.rs x = C49.fn x := fun x => by kernel_rfl
theorem S49 : Sound Try.prog 49 C49 := fun_sound (E := E49) ⟨good_T (by kernel_rfl), (good_cons S18 ⟨_, Try.func18, by kernel_rfl, by kernel_rfl⟩ (good_cons S104 ⟨_, Try.func104, by kernel_rfl, by kernel_rfl⟩ good_nil)), mixedOk, ins_nil⟩ Try.func49 rfl E49_eq
/-- laws.FnExactPassParcel -/
noncomputable def l_FnExactPassParcel (p_aW : GNetwork) (p_aMessage : Int) (p_aPart : Int) (p_aTower : Int) : Option (Bool) :=
  (l_szNetwork p_aW 1048576).bind fun r1 =>
  bif (decide (r1 < 0)) then
    some true
  else
    (l_toNetwork p_aW).bind fun r2 =>
    (s_PassParcel r2 p_aMessage p_aPart p_aTower).bind fun r3 =>
    (l_toNetwork p_aW).bind fun r4 =>
    (i_PassParcel r4 p_aMessage p_aPart p_aTower).bind fun r5 =>
    (l_eqNetwork r5.1 r3.1).bind fun r6 =>
    (bif (!r6) then
        some true
      else
        some (r5.2 != r3.2)).bind fun c7 =>
    bif c7 then
      some false
    else
      (l_toNetwork p_aW).bind fun r8 =>
      (l_eqNetwork r4 r8).bind fun r9 =>
      bif (!r9) then
        some false
      else
        (l_markNetwork r4 1).bind fun r10 =>
        (bif (decide (r10.2 < 0)) then
            some true
          else
            (l_eqNetwork r5.1 r3.1).bind fun r11 =>
            some (!r11)).bind fun c12 =>
        (bif c12 then
            some true
          else
            some (r5.2 != r3.2)).bind fun c13 =>
        bif c13 then
          some false
        else
          (l_markNetwork r5.1 1).bind fun r14 =>
          (l_heldNetwork (r14.1.1, r14.1.2.1, r5.1.2.2.1, r14.1.2.2.2) 1).bind fun r15 =>
          bif (decide (r15 < 0)) then
            some false
          else
            bif (!decide (r15 = r14.2)) then
              some false
            else
              (l_toNetwork p_aW).bind fun r16 =>
              (i_PassParcel r16 p_aMessage p_aPart p_aTower).bind fun r17 =>
              (l_eqNetwork r17.1 r3.1).bind fun r18 =>
              (bif (!r18) then
                  some true
                else
                  some (r17.2 != r3.2)).bind fun c19 =>
              bif c19 then
                some false
              else
                (l_heldNetwork (r14.1.1, r14.1.2.1, r5.1.2.2.1, r14.1.2.2.2) 1).bind fun r20 =>
                bif (decide (r20 < 0)) then
                  some false
                else
                  bif (!decide (r20 = r14.2)) then
                    some false
                  else
                    some true
noncomputable def C10 : FnSpec := { ps := [.val TGNetwork, .val (.int .i64), .val (.int .i64), .val (.int .i64)], rs := [.val .bool], fn := fun x => l_FnExactPassParcel x.1 x.2.1 x.2.2.1 x.2.2.2 }
noncomputable def E10 : Env := { T := [(4, .bool), (29, TGNetwork), (39, TGNetwork)], G := [(15, C15), (17, C17), (19, C19), (25, C25), (38, C38), (48, C48), (49, C49)], ro := [4], loops := [], joins := [] }
theorem E10_eq : ∀ x, afun E10 Try.f10 C10.ps C10.rs x = C10.fn x := fun x => by kernel_rfl
theorem S10 : Sound Try.prog 10 C10 := fun_sound (E := E10) ⟨good_T (by kernel_rfl), (good_cons S15 ⟨_, Try.func15, by kernel_rfl, by kernel_rfl⟩ (good_cons S17 ⟨_, Try.func17, by kernel_rfl, by kernel_rfl⟩ (good_cons S19 ⟨_, Try.func19, by kernel_rfl, by kernel_rfl⟩ (good_cons S25 ⟨_, Try.func25, by kernel_rfl, by kernel_rfl⟩ (good_cons S38 ⟨_, Try.func38, by kernel_rfl, by kernel_rfl⟩ (good_cons S48 ⟨_, Try.func48, by kernel_rfl, by kernel_rfl⟩ (good_cons S49 ⟨_, Try.func49, by kernel_rfl, by kernel_rfl⟩ good_nil))))))), mixedOk, ins_nil⟩ Try.func10 rfl E10_eq
/-- spec.WaitSeconds -/
noncomputable def s_WaitSeconds (p_w : GNetwork) (p_seconds : Int) : Option (GNetwork × Bool) :=
  (s_nwAsked p_w (3, 0, 0, 0, p_seconds, ())).bind fun r1 =>
  some (r1.1, r1.2)
noncomputable def C50 : FnSpec := { ps := [.val TGNetwork, .val (.int .i64)], rs := [.own TGNetwork, .val .bool], fn := fun x => s_WaitSeconds x.1 x.2 }
noncomputable def E50 : Env := { T := [(39, TGNetwork), (135, TGAct)], G := [(103, C103)], ro := [2], loops := [], joins := [] }
theorem E50_eq : ∀ x, afun E50 Try.f50 C50.ps C50.rs x = C50.fn x := fun x => by kernel_rfl
theorem S50 : Sound Try.prog 50 C50 := fun_sound (E := E50) ⟨good_T (by kernel_rfl), (good_cons S103 ⟨_, Try.func103, by kernel_rfl, by kernel_rfl⟩ good_nil), mixedOk, ins_nil⟩ Try.func50 rfl E50_eq
/-- impl.WaitSeconds -/
noncomputable def i_WaitSeconds (p_w : GNetwork) (p_seconds : Int) : Option (GNetwork × Bool) :=
  (i_IsNetwork p_w).bind fun r1 =>
  bif (!r1) then
    some ((([], [], ()), [], 0, [], ()), false)
  else
    (i_actOn p_w (3, 0, 0, 0, p_seconds, ())).bind fun r2 =>
    some (r2.1, r2.2)
noncomputable def C51 : FnSpec := { ps := [.val TGNetwork, .val (.int .i64)], rs := [.own TGNetwork, .val .bool], fn := fun x => i_WaitSeconds x.1 x.2 }
noncomputable def E51 : Env := { T := [(39, TGNetwork), (135, TGAct)], G := [(18, C18), (104, C104)], ro := [2], loops := [], joins := [] }
theorem E51_eq : ∀ x, afun E51 Try.f51 C51.ps C51.rs x = C51.fn x := fun x => by kernel_rfl
theorem S51 : Sound Try.prog 51 C51 := fun_sound (E := E51) ⟨good_T (by kernel_rfl), (good_cons S18 ⟨_, Try.func18, by kernel_rfl, by kernel_rfl⟩ (good_cons S104 ⟨_, Try.func104, by kernel_rfl, by kernel_rfl⟩ good_nil)), mixedOk, ins_nil⟩ Try.func51 rfl E51_eq
/-- laws.FnExactWaitSeconds -/
noncomputable def l_FnExactWaitSeconds (p_aW : GNetwork) (p_aSeconds : Int) : Option (Bool) :=
  (l_szNetwork p_aW 1048576).bind fun r1 =>
  bif (decide (r1 < 0)) then
    some true
  else
    (l_toNetwork p_aW).bind fun r2 =>
    (s_WaitSeconds r2 p_aSeconds).bind fun r3 =>
    (l_toNetwork p_aW).bind fun r4 =>
    (i_WaitSeconds r4 p_aSeconds).bind fun r5 =>
    (l_eqNetwork r5.1 r3.1).bind fun r6 =>
    (bif (!r6) then
        some true
      else
        some (r5.2 != r3.2)).bind fun c7 =>
    bif c7 then
      some false
    else
      (l_toNetwork p_aW).bind fun r8 =>
      (l_eqNetwork r4 r8).bind fun r9 =>
      bif (!r9) then
        some false
      else
        (l_markNetwork r4 1).bind fun r10 =>
        (bif (decide (r10.2 < 0)) then
            some true
          else
            (l_eqNetwork r5.1 r3.1).bind fun r11 =>
            some (!r11)).bind fun c12 =>
        (bif c12 then
            some true
          else
            some (r5.2 != r3.2)).bind fun c13 =>
        bif c13 then
          some false
        else
          (l_markNetwork r5.1 1).bind fun r14 =>
          (l_heldNetwork (r14.1.1, r14.1.2.1, r5.1.2.2.1, r14.1.2.2.2) 1).bind fun r15 =>
          bif (decide (r15 < 0)) then
            some false
          else
            bif (!decide (r15 = r14.2)) then
              some false
            else
              (l_toNetwork p_aW).bind fun r16 =>
              (i_WaitSeconds r16 p_aSeconds).bind fun r17 =>
              (l_eqNetwork r17.1 r3.1).bind fun r18 =>
              (bif (!r18) then
                  some true
                else
                  some (r17.2 != r3.2)).bind fun c19 =>
              bif c19 then
                some false
              else
                (l_heldNetwork (r14.1.1, r14.1.2.1, r5.1.2.2.1, r14.1.2.2.2) 1).bind fun r20 =>
                bif (decide (r20 < 0)) then
                  some false
                else
                  bif (!decide (r20 = r14.2)) then
                    some false
                  else
                    some true
noncomputable def C11 : FnSpec := { ps := [.val TGNetwork, .val (.int .i64)], rs := [.val .bool], fn := fun x => l_FnExactWaitSeconds x.1 x.2 }
noncomputable def E11 : Env := { T := [(4, .bool), (29, TGNetwork), (39, TGNetwork)], G := [(15, C15), (17, C17), (19, C19), (25, C25), (38, C38), (50, C50), (51, C51)], ro := [2], loops := [], joins := [] }
theorem E11_eq : ∀ x, afun E11 Try.f11 C11.ps C11.rs x = C11.fn x := fun x => by kernel_rfl
theorem S11 : Sound Try.prog 11 C11 := fun_sound (E := E11) ⟨good_T (by kernel_rfl), (good_cons S15 ⟨_, Try.func15, by kernel_rfl, by kernel_rfl⟩ (good_cons S17 ⟨_, Try.func17, by kernel_rfl, by kernel_rfl⟩ (good_cons S19 ⟨_, Try.func19, by kernel_rfl, by kernel_rfl⟩ (good_cons S25 ⟨_, Try.func25, by kernel_rfl, by kernel_rfl⟩ (good_cons S38 ⟨_, Try.func38, by kernel_rfl, by kernel_rfl⟩ (good_cons S50 ⟨_, Try.func50, by kernel_rfl, by kernel_rfl⟩ (good_cons S51 ⟨_, Try.func51, by kernel_rfl, by kernel_rfl⟩ good_nil))))))), mixedOk, ins_nil⟩ Try.func11 rfl E11_eq
/-- spec.AcceptParcels -/
noncomputable def s_AcceptParcels (p_w : GNetwork) (p_message : Int) (p_from : Int) (p_to : Int) (p_parts : Int) : Option (GNetwork × Bool) :=
  (s_nwAsked p_w (1, p_message, p_from, p_to, p_parts, ())).bind fun r1 =>
  some (r1.1, r1.2)
noncomputable def C46 : FnSpec := { ps := [.val TGNetwork, .val (.int .i64), .val (.int .i64), .val (.int .i64), .val (.int .i64)], rs := [.own TGNetwork, .val .bool], fn := fun x => s_AcceptParcels x.1 x.2.1 x.2.2.1 x.2.2.2.1 x.2.2.2.2 }
noncomputable def E46 : Env := { T := [(39, TGNetwork), (135, TGAct)], G := [(103, C103)], ro := [5], loops := [], joins := [] }
theorem E46_eq : ∀ x, afun E46 Try.f46 C46.ps C46.rs x = C46.fn x := fun x => by kernel_rfl
theorem S46 : Sound Try.prog 46 C46 := fun_sound (E := E46) ⟨good_T (by kernel_rfl), (good_cons S103 ⟨_, Try.func103, by kernel_rfl, by kernel_rfl⟩ good_nil), mixedOk, ins_nil⟩ Try.func46 rfl E46_eq
/-- impl.AcceptParcels -/
noncomputable def i_AcceptParcels (p_w : GNetwork) (p_message : Int) (p_from : Int) (p_to : Int) (p_parts : Int) : Option (GNetwork × Bool) :=
  (i_IsNetwork p_w).bind fun r1 =>
  bif (!r1) then
    some ((([], [], ()), [], 0, [], ()), false)
  else
    (i_actOn p_w (1, p_message, p_from, p_to, p_parts, ())).bind fun r2 =>
    some (r2.1, r2.2)
noncomputable def C47 : FnSpec := { ps := [.val TGNetwork, .val (.int .i64), .val (.int .i64), .val (.int .i64), .val (.int .i64)], rs := [.own TGNetwork, .val .bool], fn := fun x => i_AcceptParcels x.1 x.2.1 x.2.2.1 x.2.2.2.1 x.2.2.2.2 }
noncomputable def E47 : Env := { T := [(39, TGNetwork), (135, TGAct)], G := [(18, C18), (104, C104)], ro := [5], loops := [], joins := [] }
theorem E47_eq : ∀ x, afun E47 Try.f47 C47.ps C47.rs x = C47.fn x := fun x => by kernel_rfl
theorem S47 : Sound Try.prog 47 C47 := fun_sound (E := E47) ⟨good_T (by kernel_rfl), (good_cons S18 ⟨_, Try.func18, by kernel_rfl, by kernel_rfl⟩ (good_cons S104 ⟨_, Try.func104, by kernel_rfl, by kernel_rfl⟩ good_nil)), mixedOk, ins_nil⟩ Try.func47 rfl E47_eq
/-- laws.FnExactAcceptParcels -/
noncomputable def l_FnExactAcceptParcels (p_aW : GNetwork) (p_aMessage : Int) (p_aFrom : Int) (p_aTo : Int) (p_aParts : Int) : Option (Bool) :=
  (l_szNetwork p_aW 1048576).bind fun r1 =>
  bif (decide (r1 < 0)) then
    some true
  else
    (l_toNetwork p_aW).bind fun r2 =>
    (s_AcceptParcels r2 p_aMessage p_aFrom p_aTo p_aParts).bind fun r3 =>
    (l_toNetwork p_aW).bind fun r4 =>
    (i_AcceptParcels r4 p_aMessage p_aFrom p_aTo p_aParts).bind fun r5 =>
    (l_eqNetwork r5.1 r3.1).bind fun r6 =>
    (bif (!r6) then
        some true
      else
        some (r5.2 != r3.2)).bind fun c7 =>
    bif c7 then
      some false
    else
      (l_toNetwork p_aW).bind fun r8 =>
      (l_eqNetwork r4 r8).bind fun r9 =>
      bif (!r9) then
        some false
      else
        (l_markNetwork r4 1).bind fun r10 =>
        (bif (decide (r10.2 < 0)) then
            some true
          else
            (l_eqNetwork r5.1 r3.1).bind fun r11 =>
            some (!r11)).bind fun c12 =>
        (bif c12 then
            some true
          else
            some (r5.2 != r3.2)).bind fun c13 =>
        bif c13 then
          some false
        else
          (l_markNetwork r5.1 1).bind fun r14 =>
          (l_heldNetwork (r14.1.1, r14.1.2.1, r5.1.2.2.1, r14.1.2.2.2) 1).bind fun r15 =>
          bif (decide (r15 < 0)) then
            some false
          else
            bif (!decide (r15 = r14.2)) then
              some false
            else
              (l_toNetwork p_aW).bind fun r16 =>
              (i_AcceptParcels r16 p_aMessage p_aFrom p_aTo p_aParts).bind fun r17 =>
              (l_eqNetwork r17.1 r3.1).bind fun r18 =>
              (bif (!r18) then
                  some true
                else
                  some (r17.2 != r3.2)).bind fun c19 =>
              bif c19 then
                some false
              else
                (l_heldNetwork (r14.1.1, r14.1.2.1, r5.1.2.2.1, r14.1.2.2.2) 1).bind fun r20 =>
                bif (decide (r20 < 0)) then
                  some false
                else
                  bif (!decide (r20 = r14.2)) then
                    some false
                  else
                    some true
noncomputable def C9 : FnSpec := { ps := [.val TGNetwork, .val (.int .i64), .val (.int .i64), .val (.int .i64), .val (.int .i64)], rs := [.val .bool], fn := fun x => l_FnExactAcceptParcels x.1 x.2.1 x.2.2.1 x.2.2.2.1 x.2.2.2.2 }
noncomputable def E9 : Env := { T := [(4, .bool), (29, TGNetwork), (39, TGNetwork)], G := [(15, C15), (17, C17), (19, C19), (25, C25), (38, C38), (46, C46), (47, C47)], ro := [5], loops := [], joins := [] }
theorem E9_eq : ∀ x, afun E9 Try.f9 C9.ps C9.rs x = C9.fn x := fun x => by kernel_rfl
theorem S9 : Sound Try.prog 9 C9 := fun_sound (E := E9) ⟨good_T (by kernel_rfl), (good_cons S15 ⟨_, Try.func15, by kernel_rfl, by kernel_rfl⟩ (good_cons S17 ⟨_, Try.func17, by kernel_rfl, by kernel_rfl⟩ (good_cons S19 ⟨_, Try.func19, by kernel_rfl, by kernel_rfl⟩ (good_cons S25 ⟨_, Try.func25, by kernel_rfl, by kernel_rfl⟩ (good_cons S38 ⟨_, Try.func38, by kernel_rfl, by kernel_rfl⟩ (good_cons S46 ⟨_, Try.func46, by kernel_rfl, by kernel_rfl⟩ (good_cons S47 ⟨_, Try.func47, by kernel_rfl, by kernel_rfl⟩ good_nil))))))), mixedOk, ins_nil⟩ Try.func9 rfl E9_eq
/-- laws.szActS -/
noncomputable def l_szActS (p_a : List GAct) (p_left : Int) : Option (Int) :=
  bif (decide ((w64 (p_left - (p_a.length : Int))) < 0)) then
    some (-1)
  else
    some (w64 (p_left - (p_a.length : Int)))
noncomputable def C52 : FnSpec := { ps := [.val (.slice TGAct), .val (.int .i64)], rs := [.val (.int .i64)], fn := fun x => l_szActS x.1 x.2 }
noncomputable def E52 : Env := { T := [(74, (.slice TGAct))], G := [], ro := [], loops := [], joins := [] }
theorem E52_eq : ∀ x, afun E52 Try.f52 C52.ps C52.rs x = C52.fn x := fun x => by kernel_rfl
theorem S52 : Sound Try.prog 52 C52 := fun_sound (E := E52) ⟨good_T (by kernel_rfl), good_nil, mixedOk, ins_nil⟩ Try.func52 rfl E52_eq
/-- spec.RunActs -/
noncomputable def s_RunActs (p_w : GNetwork) (p_l : List GAct) : Option (GNetwork × Int × Bool) :=
  (s_nwGood p_w).bind fun r1 =>
  (bif (!r1) then
      some true
    else
      some (decide (100 < (p_l.length : Int)))).bind fun c2 =>
  bif c2 then
    some ((([], [], ()), [], 0, [], ()), 0, false)
  else
    (s_nwOwn p_w).bind fun r3 =>
    (loopE (fun (st5 : (List GLink) × (List GLink) × (List GLink) × Int × (List GParcel) × (List GLink) × (List GLink) × (List GLink) × Int × (List GParcel) × Int) => (
        bif (decide (st5.2.2.2.2.2.2.2.2.2.2 < (p_l.length : Int))) then
          (idx p_l st5.2.2.2.2.2.2.2.2.2.2).bind fun e6 =>
          (s_nwAct ((st5.2.2.2.2.2.1, st5.2.2.2.2.2.2.1, ()), st5.2.2.2.2.2.2.2.1, st5.2.2.2.2.2.2.2.2.1, st5.2.2.2.2.2.2.2.2.2.1, ()) e6).bind fun r7 =>
          bif (!r7.2) then
            some (.inr (.inr (st5.2.2.2.2.2.1, st5.2.2.2.2.2.2.1, st5.2.2.2.2.2.2.2.1, st5.2.2.2.2.2.2.2.2.1, st5.2.2.2.2.2.2.2.2.2.1, st5.2.2.2.2.2.2.2.2.2.2, true)))
          else
            some (.inl (st5.1, st5.2.1, st5.2.2.1, st5.2.2.2.1, st5.2.2.2.2.1, r7.1.1.1, r7.1.1.2.1, r7.1.2.1, r7.1.2.2.1, r7.1.2.2.2.1, (w64 (st5.2.2.2.2.2.2.2.2.2.2 + 1))))
        else
          some (.inr (.inl (st5.1, st5.2.1, st5.2.2.1, st5.2.2.2.1, st5.2.2.2.2.1, st5.2.2.2.2.2.1, st5.2.2.2.2.2.2.1, st5.2.2.2.2.2.2.2.1, st5.2.2.2.2.2.2.2.2.1, st5.2.2.2.2.2.2.2.2.2.1))) : Option (((List GLink) × (List GLink) × (List GLink) × Int × (List GParcel) × (List GLink) × (List GLink) × (List GLink) × Int × (List GParcel) × Int) ⊕ (((List GLink) × (List GLink) × (List GLink) × Int × (List GParcel) × (List GLink) × (List GLink) × (List GLink) × Int × (List GParcel)) ⊕ ((List GLink) × (List GLink) × (List GLink) × Int × (List GParcel) × Int × Bool))))) ([], [], [], 0, [], r3.1.1, r3.1.2.1, r3.2.1, r3.2.2.1, r3.2.2.2.1, 0)).bind fun o8 =>
    match o8 with
    | .inl x9 =>
      some (((x9.2.2.2.2.2.1, x9.2.2.2.2.2.2.1, ()), x9.2.2.2.2.2.2.2.1, x9.2.2.2.2.2.2.2.2.1, x9.2.2.2.2.2.2.2.2.2, ()), (p_l.length : Int), true)
    | .inr y10 =>
      some (((y10.1, y10.2.1, ()), y10.2.2.1, y10.2.2.2.1, y10.2.2.2.2.1, ()), y10.2.2.2.2.2.1, y10.2.2.2.2.2.2)
noncomputable def C53 : FnSpec := { ps := [.val TGNetwork, .val (.slice TGAct)], rs := [.own TGNetwork, .val (.int .i64), .val .bool], fn := fun x => s_RunActs x.1 x.2 }
noncomputable def E53 : Env := { T := [(39, TGNetwork), (78, (.slice TGAct)), (135, TGAct)], G := [(70, C70), (86, C86), (105, C105)], ro := [2], loops := [(5, { keep := [1, 23, 24], live := [.bx 4 64 [.own 300064 TGLink true, .own 300065 TGLink true, .own 300066 TGLink true, .pv (.int .i64), .own 300068 TGParcel true], .bx 7 112 [.own 352 TGLink true, .own 353 TGLink true, .own 354 TGLink true, .pv (.int .i64), .own 355 TGParcel true], .tv 25 (.int .i64)], outs := [(.exit 0, [.bx 4 64 [.own 300064 TGLink true, .own 300065 TGLink true, .own 300066 TGLink true, .pv (.int .i64), .own 300068 TGParcel true], .bx 7 112 [.own 352 TGLink true, .own 353 TGLink true, .own 354 TGLink true, .pv (.int .i64), .own 355 TGParcel true]]), (.ret, [.bx 4 64 [.own 352 TGLink true, .own 353 TGLink true, .own 354 TGLink true, .pv (.int .i64), .own 355 TGParcel true], .tv 5 (.int .i64), .tv 6 .bool])] })], joins := [] }
theorem E53_eq : ∀ x, afun E53 Try.f53 C53.ps C53.rs x = C53.fn x := fun x => by kernel_rfl
theorem S53 : Sound Try.prog 53 C53 := fun_sound (E := E53) ⟨good_T (by kernel_rfl), (good_cons S70 ⟨_, Try.func70, by kernel_rfl, by kernel_rfl⟩ (good_cons S86 ⟨_, Try.func86, by kernel_rfl, by kernel_rfl⟩ (good_cons S105 ⟨_, Try.func105, by kernel_rfl, by kernel_rfl⟩ good_nil))), mixedOk, ins_nil⟩ Try.func53 rfl E53_eq
/-- laws.toAct -/
noncomputable def l_toAct (p_a : GAct) : Option (GAct) :=
  some p_a
noncomputable def C106 : FnSpec := { ps := [.val TGAct], rs := [.val TGAct], fn := fun x => l_toAct x }
noncomputable def E106 : Env := { T := [(3, (.int .i64)), (135, TGAct), (137, TGAct)], G := [], ro := [1], loops := [], joins := [] }
theorem E106_eq : ∀ x, afun E106 Try.f106 C106.ps C106.rs x = C106.fn x := fun x => by kernel_rfl
theorem S106 : Sound Try.prog 106 C106 := fun_sound (E := E106) ⟨good_T (by kernel_rfl), good_nil, mixedOk, ins_nil⟩ Try.func106 rfl E106_eq
/-- laws.toActS -/
noncomputable def l_toActS (p_a : List GAct) : Option ((List GAct)) :=
  bif decide (0 ≤ (p_a.length : Int)) && decide ((p_a.length : Int) ≤ (p_a.length : Int)) && decide ((p_a.length : Int) ≤ lim) then
    (loopE (fun (st2 : (List GAct) × Int) => (
        bif (decide (st2.2 < (p_a.length : Int))) then
          (idx p_a st2.2).bind fun e3 =>
          (l_toAct e3).bind fun r4 =>
          bif decide (0 ≤ st2.2) && decide (st2.2 < (st2.1.length : Int)) then
            some (.inl ((st2.1.set (Int.toNat st2.2) r4), (w64 (st2.2 + 1))))
          else
            none
        else
          some (.inr st2.1) : Option (((List GAct) × Int) ⊕ ((List GAct))))) ((List.replicate (Int.toNat (p_a.length : Int)) ((0, (0, (0, (0, (0, ()))))) : GAct)), 0)).bind fun o5 =>
    some o5
  else
    none
noncomputable def C54 : FnSpec := { ps := [.val (.slice TGAct)], rs := [.own (.slice TGAct)], fn := fun x => l_toActS x }
noncomputable def E54 : Env := { T := [(74, (.slice TGAct)), (78, (.slice TGAct)), (135, TGAct), (137, TGAct)], G := [(106, C106)], ro := [], loops := [(3, { keep := [0], live := [.own 3 [] 112 TGAct true, .tv 4 (.int .i64)], outs := [(.exit 0, [.own 3 [] 112 TGAct true])] })], joins := [] }
theorem E54_eq : ∀ x, afun E54 Try.f54 C54.ps C54.rs x = C54.fn x := fun x => by kernel_rfl
theorem S54 : Sound Try.prog 54 C54 := fun_sound (E := E54) ⟨good_T (by kernel_rfl), (good_cons S106 ⟨_, Try.func106, by kernel_rfl, by kernel_rfl⟩ good_nil), mixedOk, ins_nil⟩ Try.func54 rfl E54_eq
/-- impl.RunActs -/
noncomputable def i_RunActs (p_w : GNetwork) (p_l : List GAct) : Option (GNetwork × Int × Bool) :=
  (i_IsNetwork p_w).bind fun r1 =>
  (bif (!r1) then
      some true
    else
      some (decide (100 < (p_l.length : Int)))).bind fun c2 =>
  bif c2 then
    some ((([], [], ()), [], 0, [], ()), 0, false)
  else
    (i_cloneNetwork p_w).bind fun r3 =>
    (loopE (fun (st5 : (List GLink) × (List GLink) × (List GLink) × Int × (List GParcel) × (List GLink) × (List GLink) × (List GLink) × Int × (List GParcel) × Int) => (
        bif (decide (st5.2.2.2.2.2.2.2.2.2.2 < (p_l.length : Int))) then
          (idx p_l st5.2.2.2.2.2.2.2.2.2.2).bind fun e6 =>
          (i_actOn ((st5.1, st5.2.1, ()), st5.2.2.1, st5.2.2.2.1, st5.2.2.2.2.1, ()) e6).bind fun r7 =>
          bif (!r7.2) then
            some (.inr (.inr (st5.1, st5.2.1, st5.2.2.1, st5.2.2.2.1, st5.2.2.2.2.1, st5.2.2.2.2.2.2.2.2.2.2, true)))
          else
            some (.inl (r7.1.1.1, r7.1.1.2.1, r7.1.2.1, r7.1.2.2.1, r7.1.2.2.2.1, st5.2.2.2.2.2.1, st5.2.2.2.2.2.2.1, st5.2.2.2.2.2.2.2.1, st5.2.2.2.2.2.2.2.2.1, st5.2.2.2.2.2.2.2.2.2.1, (w64 (st5.2.2.2.2.2.2.2.2.2.2 + 1))))
        else
          some (.inr (.inl (st5.1, st5.2.1, st5.2.2.1, st5.2.2.2.1, st5.2.2.2.2.1, st5.2.2.2.2.2.1, st5.2.2.2.2.2.2.1, st5.2.2.2.2.2.2.2.1, st5.2.2.2.2.2.2.2.2.1, st5.2.2.2.2.2.2.2.2.2.1))) : Option (((List GLink) × (List GLink) × (List GLink) × Int × (List GParcel) × (List GLink) × (List GLink) × (List GLink) × Int × (List GParcel) × Int) ⊕ (((List GLink) × (List GLink) × (List GLink) × Int × (List GParcel) × (List GLink) × (List GLink) × (List GLink) × Int × (List GParcel)) ⊕ ((List GLink) × (List GLink) × (List GLink) × Int × (List GParcel) × Int × Bool))))) (r3.1.1, r3.1.2.1, r3.2.1, r3.2.2.1, r3.2.2.2.1, [], [], [], 0, [], 0)).bind fun o8 =>
    match o8 with
    | .inl x9 =>
      some (((x9.1, x9.2.1, ()), x9.2.2.1, x9.2.2.2.1, x9.2.2.2.2.1, ()), (p_l.length : Int), true)
    | .inr y10 =>
      some (((y10.1, y10.2.1, ()), y10.2.2.1, y10.2.2.2.1, y10.2.2.2.2.1, ()), y10.2.2.2.2.2.1, y10.2.2.2.2.2.2)
noncomputable def C55 : FnSpec := { ps := [.val TGNetwork, .val (.slice TGAct)], rs := [.own TGNetwork, .val (.int .i64), .val .bool], fn := fun x => i_RunActs x.1 x.2 }
noncomputable def E55 : Env := { T := [(39, TGNetwork), (78, (.slice TGAct)), (135, TGAct)], G := [(18, C18), (104, C104), (107, C107)], ro := [], loops := [(5, { keep := [1, 22, 23], live := [.bx 2 32 [.own 336 TGLink true, .own 337 TGLink true, .own 338 TGLink true, .pv (.int .i64), .own 339 TGParcel true], .bx 4 64 [.own 300064 TGLink true, .own 300065 TGLink true, .own 300066 TGLink true, .pv (.int .i64), .own 300068 TGParcel true], .tv 24 (.int .i64)], outs := [(.exit 0, [.bx 2 32 [.own 336 TGLink true, .own 337 TGLink true, .own 338 TGLink true, .pv (.int .i64), .own 339 TGParcel true], .bx 4 64 [.own 300064 TGLink true, .own 300065 TGLink true, .own 300066 TGLink true, .pv (.int .i64), .own 300068 TGParcel true]]), (.ret, [.bx 4 64 [.own 336 TGLink true, .own 337 TGLink true, .own 338 TGLink true, .pv (.int .i64), .own 339 TGParcel true], .tv 5 (.int .i64), .tv 6 .bool])] })], joins := [] }
theorem E55_eq : ∀ x, afun E55 Try.f55 C55.ps C55.rs x = C55.fn x := fun x => by kernel_rfl
theorem S55 : Sound Try.prog 55 C55 := fun_sound (E := E55) ⟨good_T (by kernel_rfl), (good_cons S18 ⟨_, Try.func18, by kernel_rfl, by kernel_rfl⟩ (good_cons S104 ⟨_, Try.func104, by kernel_rfl, by kernel_rfl⟩ (good_cons S107 ⟨_, Try.func107, by kernel_rfl, by kernel_rfl⟩ good_nil))), mixedOk, ins_nil⟩ Try.func55 rfl E55_eq
/-- laws.eqAct -/
noncomputable def l_eqAct (p_a : GAct) (p_b : GAct) : Option (Bool) :=
  bif (!decide (p_a.1 = p_b.1)) then
    some false
  else
    bif (!decide (p_a.2.1 = p_b.2.1)) then
      some false
    else
      bif (!decide (p_a.2.2.1 = p_b.2.2.1)) then
        some false
      else
        bif (!decide (p_a.2.2.2.1 = p_b.2.2.2.1)) then
          some false
        else
          bif (!decide (p_a.2.2.2.2.1 = p_b.2.2.2.2.1)) then
            some false
          else
            some true
noncomputable def C108 : FnSpec := { ps := [.val TGAct, .val TGAct], rs := [.val .bool], fn := fun x => l_eqAct x.1 x.2 }
noncomputable def E108 : Env := { T := [(3, (.int .i64)), (135, TGAct)], G := [], ro := [2, 3], loops := [], joins := [] }
theorem E108_eq : ∀ x, afun E108 Try.f108 C108.ps C108.rs x = C108.fn x := fun x => by kernel_rfl
theorem S108 : Sound Try.prog 108 C108 := fun_sound (E := E108) ⟨good_T (by kernel_rfl), good_nil, mixedOk, ins_nil⟩ Try.func108 rfl E108_eq
/-- laws.eqActS -/
noncomputable def l_eqActS (p_a : List GAct) (p_b : List GAct) : Option (Bool) :=
  bif (!decide ((p_a.length : Int) = (p_b.length : Int))) then
    some false
  else
    (loopE (fun (st2 : Int) => (
        bif (decide (st2 < (p_a.length : Int))) then
          (idx p_a st2).bind fun e3 =>
          (idx p_b st2).bind fun e4 =>
          (l_eqAct e3 e4).bind fun r5 =>
          bif (!r5) then
            some (.inr (.inr false))
          else
            some (.inl (w64 (st2 + 1)))
        else
          some (.inr (.inl ())) : Option ((Int) ⊕ (Unit ⊕ Bool)))) 0).bind fun o6 =>
    match o6 with
    | .inl _ =>
      some true
    | .inr y8 =>
      some y8
noncomputable def C56 : FnSpec := { ps := [.val (.slice TGAct), .val (.slice TGAct)], rs := [.val .bool], fn := fun x => l_eqActS x.1 x.2 }
noncomputable def E56 : Env := { T := [(78, (.slice TGAct)), (135, TGAct)], G := [(108, C108)], ro := [], loops := [(4, { keep := [0, 1], live := [.tv 5 (.int .i64)], outs := [(.exit 0, []), (.ret, [.tv 4 .bool])] })], joins := [] }
theorem E56_eq : ∀ x, afun E56 Try.f56 C56.ps C56.rs x = C56.fn x := fun x => by kernel_rfl
theorem S56 : Sound Try.prog 56 C56 := fun_sound (E := E56) ⟨good_T (by kernel_rfl), (good_cons S108 ⟨_, Try.func108, by kernel_rfl, by kernel_rfl⟩ good_nil), mixedOk, ins_nil⟩ Try.func56 rfl E56_eq
/-- laws.markActS -/
noncomputable def l_markActS (p_a : List GAct) (p_k : Int) : Option ((List GAct) × Int) :=
  (loopE (fun (st2 : (List GAct) × Int × Int) => (
      bif (decide (st2.2.2 < (st2.1.length : Int))) then
        bif decide (0 ≤ st2.2.2) && decide (st2.2.2 < (st2.1.length : Int)) then
          (st2.1[(Int.toNat st2.2.2)]?).bind fun e3 =>
          bif decide (0 ≤ st2.2.2) && decide (st2.2.2 < ((st2.1.set (Int.toNat st2.2.2) (st2.2.1, e3.2)).length : Int)) then
            ((st2.1.set (Int.toNat st2.2.2) (st2.2.1, e3.2))[(Int.toNat st2.2.2)]?).bind fun e4 =>
            bif decide (0 ≤ st2.2.2) && decide (st2.2.2 < (((st2.1.set (Int.toNat st2.2.2) (st2.2.1, e3.2)).set (Int.toNat st2.2.2) (e4.1, (w64 (st2.2.1 + 1)), e4.2.2)).length : Int)) then
              (((st2.1.set (Int.toNat st2.2.2) (st2.2.1, e3.2)).set (Int.toNat st2.2.2) (e4.1, (w64 (st2.2.1 + 1)), e4.2.2))[(Int.toNat st2.2.2)]?).bind fun e5 =>
              bif decide (0 ≤ st2.2.2) && decide (st2.2.2 < ((((st2.1.set (Int.toNat st2.2.2) (st2.2.1, e3.2)).set (Int.toNat st2.2.2) (e4.1, (w64 (st2.2.1 + 1)), e4.2.2)).set (Int.toNat st2.2.2) (e5.1, e5.2.1, (w64 ((w64 (st2.2.1 + 1)) + 1)), e5.2.2.2)).length : Int)) then
                ((((st2.1.set (Int.toNat st2.2.2) (st2.2.1, e3.2)).set (Int.toNat st2.2.2) (e4.1, (w64 (st2.2.1 + 1)), e4.2.2)).set (Int.toNat st2.2.2) (e5.1, e5.2.1, (w64 ((w64 (st2.2.1 + 1)) + 1)), e5.2.2.2))[(Int.toNat st2.2.2)]?).bind fun e6 =>
                bif decide (0 ≤ st2.2.2) && decide (st2.2.2 < (((((st2.1.set (Int.toNat st2.2.2) (st2.2.1, e3.2)).set (Int.toNat st2.2.2) (e4.1, (w64 (st2.2.1 + 1)), e4.2.2)).set (Int.toNat st2.2.2) (e5.1, e5.2.1, (w64 ((w64 (st2.2.1 + 1)) + 1)), e5.2.2.2)).set (Int.toNat st2.2.2) (e6.1, e6.2.1, e6.2.2.1, (w64 ((w64 ((w64 (st2.2.1 + 1)) + 1)) + 1)), e6.2.2.2.2)).length : Int)) then
                  (((((st2.1.set (Int.toNat st2.2.2) (st2.2.1, e3.2)).set (Int.toNat st2.2.2) (e4.1, (w64 (st2.2.1 + 1)), e4.2.2)).set (Int.toNat st2.2.2) (e5.1, e5.2.1, (w64 ((w64 (st2.2.1 + 1)) + 1)), e5.2.2.2)).set (Int.toNat st2.2.2) (e6.1, e6.2.1, e6.2.2.1, (w64 ((w64 ((w64 (st2.2.1 + 1)) + 1)) + 1)), e6.2.2.2.2))[(Int.toNat st2.2.2)]?).bind fun e7 =>
                  some (.inl ((((((st2.1.set (Int.toNat st2.2.2) (st2.2.1, e3.2)).set (Int.toNat st2.2.2) (e4.1, (w64 (st2.2.1 + 1)), e4.2.2)).set (Int.toNat st2.2.2) (e5.1, e5.2.1, (w64 ((w64 (st2.2.1 + 1)) + 1)), e5.2.2.2)).set (Int.toNat st2.2.2) (e6.1, e6.2.1, e6.2.2.1, (w64 ((w64 ((w64 (st2.2.1 + 1)) + 1)) + 1)), e6.2.2.2.2)).set (Int.toNat st2.2.2) (e7.1, e7.2.1, e7.2.2.1, e7.2.2.2.1, (w64 ((w64 ((w64 ((w64 (st2.2.1 + 1)) + 1)) + 1)) + 1)), ())), (w64 ((w64 ((w64 ((w64 ((w64 (st2.2.1 + 1)) + 1)) + 1)) + 1)) + 1)), (w64 (st2.2.2 + 1))))
                else
                  none
              else
                none
            else
              none
          else
            none
        else
          none
      else
        some (.inr (st2.1, st2.2.1)) : Option (((List GAct) × Int × Int) ⊕ (((List GAct) × Int))))) (p_a, p_k, 0)).bind fun o8 =>
  some (o8.1, o8.2)
noncomputable def C57 : FnSpec := { ps := [.own (.slice TGAct), .val (.int .i64)], rs := [.val (.int .i64)], fn := fun x => l_markActS x.1 x.2 }
noncomputable def E57 : Env := { T := [(3, (.int .i64)), (78, (.slice TGAct)), (135, TGAct)], G := [], ro := [], loops := [(2, { keep := [], live := [.own 0 [] 100000 TGAct true, .tv 1 (.int .i64), .tv 5 (.int .i64)], outs := [(.exit 0, [.own 0 [] 100000 TGAct true, .tv 1 (.int .i64)])] })], joins := [] }
theorem E57_eq : ∀ x, afun E57 Try.f57 C57.ps C57.rs x = C57.fn x := fun x => by kernel_rfl
theorem S57 : Sound Try.prog 57 C57 := fun_sound_own (E := E57) ⟨good_T (by kernel_rfl), good_nil, mixedOk, ins_nil⟩ Try.func57 rfl rfl E57_eq
/-- laws.FnExactRunActs -/
noncomputable def l_FnExactRunActs (p_aW : GNetwork) (p_aL : List GAct) : Option (Bool) :=
  (l_szNetwork p_aW 1048576).bind fun r1 =>
  bif (decide (r1 < 0)) then
    some true
  else
    (l_szActS p_aL r1).bind fun r2 =>
    bif (decide (r2 < 0)) then
      some true
    else
      (l_toNetwork p_aW).bind fun r3 =>
      (l_toActS p_aL).bind fun r4 =>
      (s_RunActs r3 r4).bind fun r5 =>
      (l_toNetwork p_aW).bind fun r6 =>
      (l_toActS p_aL).bind fun r7 =>
      (i_RunActs r6 r7).bind fun r8 =>
      (l_eqNetwork r8.1 r5.1).bind fun r9 =>
      (bif (!r9) then
          some true
        else
          some (!decide (r8.2.1 = r5.2.1))).bind fun c10 =>
      (bif c10 then
          some true
        else
          some (r8.2.2 != r5.2.2)).bind fun c11 =>
      bif c11 then
        some false
      else
        (l_toNetwork p_aW).bind fun r12 =>
        (l_eqNetwork r6 r12).bind fun r13 =>
        bif (!r13) then
          some false
        else
          (l_toActS p_aL).bind fun r14 =>
          (l_eqActS r7 r14).bind fun r15 =>
          bif (!r15) then
            some false
          else
            (l_markNetwork r6 1).bind fun r16 =>
            (l_markActS r7 r16.2).bind fun r17 =>
            (bif (decide (r17.2 < 0)) then
                some true
              else
                (l_eqNetwork r8.1 r5.1).bind fun r18 =>
                some (!r18)).bind fun c19 =>
            (bif c19 then
                some true
              else
                some (!decide (r8.2.1 = r5.2.1))).bind fun c20 =>
            (bif c20 then
                some true
              else
                some (r8.2.2 != r5.2.2)).bind fun c21 =>
            bif c21 then
              some false
            else
              (l_markNetwork r8.1 1).bind fun r22 =>
              (l_heldNetwork (r22.1.1, r22.1.2.1, r8.1.2.2.1, r22.1.2.2.2) 1).bind fun r23 =>
              bif (decide (r23 < 0)) then
                some false
              else
                bif (!decide (r23 = r22.2)) then
                  some false
                else
                  (l_toNetwork p_aW).bind fun r24 =>
                  (l_toActS p_aL).bind fun r25 =>
                  (i_RunActs r24 r25).bind fun r26 =>
                  (l_eqNetwork r26.1 r5.1).bind fun r27 =>
                  (bif (!r27) then
                      some true
                    else
                      some (!decide (r26.2.1 = r5.2.1))).bind fun c28 =>
                  (bif c28 then
                      some true
                    else
                      some (r26.2.2 != r5.2.2)).bind fun c29 =>
                  bif c29 then
                    some false
                  else
                    (l_heldNetwork (r22.1.1, r22.1.2.1, r8.1.2.2.1, r22.1.2.2.2) 1).bind fun r30 =>
                    bif (decide (r30 < 0)) then
                      some false
                    else
                      bif (!decide (r30 = r22.2)) then
                        some false
                      else
                        some true
noncomputable def C12 : FnSpec := { ps := [.val TGNetwork, .val (.slice TGAct)], rs := [.val .bool], fn := fun x => l_FnExactRunActs x.1 x.2 }
noncomputable def E12 : Env := { T := [(4, .bool), (29, TGNetwork), (39, TGNetwork)], G := [(15, C15), (17, C17), (19, C19), (25, C25), (38, C38), (52, C52), (53, C53), (54, C54), (55, C55), (56, C56), (57, C57)], ro := [2], loops := [], joins := [] }
theorem E12_eq : ∀ x, afun E12 Try.f12 C12.ps C12.rs x = C12.fn x := fun x => by kernel_rfl
theorem S12 : Sound Try.prog 12 C12 := fun_sound (E := E12) ⟨good_T (by kernel_rfl), (good_cons S15 ⟨_, Try.func15, by kernel_rfl, by kernel_rfl⟩ (good_cons S17 ⟨_, Try.func17, by kernel_rfl, by kernel_rfl⟩ (good_cons S19 ⟨_, Try.func19, by kernel_rfl, by kernel_rfl⟩ (good_cons S25 ⟨_, Try.func25, by kernel_rfl, by kernel_rfl⟩ (good_cons S38 ⟨_, Try.func38, by kernel_rfl, by kernel_rfl⟩ (good_cons S52 ⟨_, Try.func52, by kernel_rfl, by kernel_rfl⟩ (good_cons S53 ⟨_, Try.func53, by kernel_rfl, by kernel_rfl⟩ (good_cons S54 ⟨_, Try.func54, by kernel_rfl, by kernel_rfl⟩ (good_cons S55 ⟨_, Try.func55, by kernel_rfl, by kernel_rfl⟩ (good_cons S56 ⟨_, Try.func56, by kernel_rfl, by kernel_rfl⟩ (good_cons S57 ⟨_, Try.func57, by kernel_rfl, by kernel_rfl⟩ good_nil))))))))))), mixedOk, ins_nil⟩ Try.func12 rfl E12_eq
end Go.Proofs.Ytlalabdgkkfjpaa.Sh
