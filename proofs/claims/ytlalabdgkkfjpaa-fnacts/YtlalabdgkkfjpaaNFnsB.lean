/-
  The functions that the statement reaches, as plain functions; each with its contract.
-/
import Derived.Test.YtlalabdgkkfjpaaXLift
import Derived.Test.YtlalabdgkkfjpaaChecked
import Derived.KernelRfl
import Derived.Test.YtlalabdgkkfjpaaWalkI
namespace Go.Proofs.Ytlalabdgkkfjpaa.Sh
open Go Go.Ab Go.Proofs
set_option maxRecDepth 100000
abbrev TGLink : Ty := .pair (.int .i64) (.pair (.int .i64) (.pair (.int .i64) .unit))
abbrev GLink : Type := Int × Int × Int × Unit
abbrev TGl1Cur : Ty := .pair (.slice (.int .u8)) (.pair (.int .i64) (.pair (.int .u64) .unit))
abbrev Gl1Cur : Type := (List Int) × Int × Int × Unit
abbrev TGAct : Ty := .pair (.int .i64) (.pair (.int .i64) (.pair (.int .i64) (.pair (.int .i64) (.pair (.int .i64) .unit))))
abbrev GAct : Type := Int × Int × Int × Int × Int × Unit
abbrev TGNet : Ty := .pair (.slice TGLink) (.pair (.slice TGLink) .unit)
abbrev GNet : Type := (List GLink) × (List GLink) × Unit
abbrev TGParcel : Ty := .pair (.int .i64) (.pair (.int .i64) (.pair (.int .i64) (.pair (.int .i64) (.pair (.int .i64) (.pair (.int .i64) .unit)))))
abbrev GParcel : Type := Int × Int × Int × Int × Int × Int × Unit
abbrev TGNetwork : Ty := .pair TGNet (.pair (.slice TGLink) (.pair (.int .i64) (.pair (.slice TGParcel) .unit)))
abbrev GNetwork : Type := GNet × (List GLink) × Int × (List GParcel) × Unit
theorem mixedOk : Try.prog.follows .mixedOrders = true := by kernel_rfl
noncomputable def i_within (p_n : Int) (p_low : Int) (p_high : Int) : Option (Bool) :=
  (bif (decide (p_low ≤ p_n)) then
      some (decide (p_n ≤ p_high))
    else
      some false).bind fun c1 =>
  some c1
noncomputable def C74 : FnSpec := { ps := [.val (.int .i64), .val (.int .i64), .val (.int .i64)], rs := [.val .bool], fn := fun x => i_within x.1 x.2.1 x.2.2 }
noncomputable def E74 : Env := { T := [], G := [], ro := [], loops := [], joins := [] }
theorem E74_eq : ∀ x, afun E74 Try.f74 C74.ps C74.rs x = C74.fn x := fun x => by kernel_rfl
theorem S74 : Sound Try.prog 74 C74 := fun_sound (E := E74) ⟨good_T (by kernel_rfl), good_nil, mixedOk, ins_nil⟩ Try.func74 rfl E74_eq
noncomputable def cmp_Or_int (p_vals : List Int) : Option (Int) :=
  (loopE (fun (st2 : Int) => (
      bif (decide (st2 < (p_vals.length : Int))) then
        (idx p_vals st2).bind fun e3 =>
        bif (!decide (e3 = 0)) then
          some (.inr (.inr e3))
        else
          some (.inl (w64 (st2 + 1)))
      else
        some (.inr (.inl ())) : Option ((Int) ⊕ (Unit ⊕ Int)))) 0).bind fun o4 =>
  match o4 with
  | .inl _ =>
    some 0
  | .inr y6 =>
    some y6
noncomputable def C152 : FnSpec := { ps := [.val (.slice (.int .i64))], rs := [.val (.int .i64)], fn := fun x => cmp_Or_int x }
noncomputable def E152 : Env := { T := [(3, (.int .i64)), (45, (.slice (.int .i64)))], G := [], ro := [], loops := [(3, { keep := [3, 6, 7], live := [.tv 8 (.int .i64)], outs := [(.exit 0, []), (.ret, [.tv 2 (.int .i64)])] })], joins := [] }
theorem E152_eq : ∀ x, afun E152 Try.f152 C152.ps C152.rs x = C152.fn x := fun x => by kernel_rfl
theorem S152 : Sound Try.prog 152 C152 := fun_sound (E := E152) ⟨good_T (by kernel_rfl), good_nil, mixedOk, ins_nil⟩ Try.func152 rfl E152_eq
noncomputable def cmp_isNaN_int (p_x : Int) : Option (Bool) :=
  some (!decide (p_x = p_x))
noncomputable def C158 : FnSpec := { ps := [.val (.int .i64)], rs := [.val .bool], fn := fun x => cmp_isNaN_int x }
noncomputable def E158 : Env := { T := [], G := [], ro := [], loops := [], joins := [] }
theorem E158_eq : ∀ x, afun E158 Try.f158 C158.ps C158.rs x = C158.fn x := fun x => by kernel_rfl
theorem S158 : Sound Try.prog 158 C158 := fun_sound (E := E158) ⟨good_T (by kernel_rfl), good_nil, mixedOk, ins_nil⟩ Try.func158 rfl E158_eq
noncomputable def cmp_Compare_int (p_x : Int) (p_y : Int) : Option (Int) :=
  (cmp_isNaN_int p_x).bind fun r1 =>
  (cmp_isNaN_int p_y).bind fun r2 =>
  bif r1 then
    bif r2 then
      some 0
    else
      some (-1)
  else
    bif r2 then
      some 1
    else
      bif (decide (p_x < p_y)) then
        some (-1)
      else
        bif (decide (p_y < p_x)) then
          some 1
        else
          some 0
noncomputable def C153 : FnSpec := { ps := [.val (.int .i64), .val (.int .i64)], rs := [.val (.int .i64)], fn := fun x => cmp_Compare_int x.1 x.2 }
noncomputable def E153 : Env := { T := [], G := [(158, C158)], ro := [], loops := [], joins := [] }
theorem E153_eq : ∀ x, afun E153 Try.f153 C153.ps C153.rs x = C153.fn x := fun x => by kernel_rfl
theorem S153 : Sound Try.prog 153 C153 := fun_sound (E := E153) ⟨good_T (by kernel_rfl), (good_cons S158 ⟨_, Try.func158, by kernel_rfl, by kernel_rfl⟩ good_nil), mixedOk, ins_nil⟩ Try.func153 rfl E153_eq
noncomputable def i_compareLinks (p_a : GLink) (p_b : GLink) : Option (Int) :=
  (cmp_Compare_int p_a.1 p_b.1).bind fun r1 =>
  (cmp_Compare_int p_a.2.1 p_b.2.1).bind fun r2 =>
  (cmp_Or_int [r1, r2]).bind fun r3 =>
  some r3
noncomputable def C123 : FnSpec := { ps := [.val TGLink, .val TGLink], rs := [.val (.int .i64)], fn := fun x => i_compareLinks x.1 x.2 }
noncomputable def E123 : Env := { T := [(3, (.int .i64)), (45, (.slice (.int .i64))), (109, TGLink)], G := [(152, C152), (153, C153)], ro := [2, 3], loops := [], joins := [] }
theorem E123_eq : ∀ x, afun E123 Try.f123 C123.ps C123.rs x = C123.fn x := fun x => by kernel_rfl
theorem S123 : Sound Try.prog 123 C123 := fun_sound (E := E123) ⟨good_T (by kernel_rfl), (good_cons S152 ⟨_, Try.func152, by kernel_rfl, by kernel_rfl⟩ (good_cons S153 ⟨_, Try.func153, by kernel_rfl, by kernel_rfl⟩ good_nil)), mixedOk, ins_nil⟩ Try.func123 rfl E123_eq
noncomputable def i_IsNet (p_n : GNet) : Option (Bool) :=
  (i_within (p_n.1.length : Int) 1 16).bind fun r1 =>
  (bif (!r1) then
      some true
    else
      some (decide (40 < (p_n.2.1.length : Int)))).bind fun c2 =>
  bif c2 then
    some false
  else
    (loopE (fun (st4 : Int) => (
        bif (decide (st4 < (p_n.1.length : Int))) then
          (idx p_n.1 st4).bind fun e5 =>
          (i_within e5.1 0 999).bind fun r6 =>
          (bif (!r6) then
              some true
            else
              (i_within e5.2.1 0 999).bind fun r7 =>
              some (!r7)).bind fun c8 =>
          (bif c8 then
              some true
            else
              (i_within e5.2.2.1 0 500).bind fun r9 =>
              some (!r9)).bind fun c10 =>
          bif c10 then
            some (.inr (.inr false))
          else
            some (.inl (w64 (st4 + 1)))
        else
          some (.inr (.inl ())) : Option ((Int) ⊕ (Unit ⊕ Bool)))) 0).bind fun o11 =>
    match o11 with
    | .inl _ =>
      (loopE (fun (st15 : Int) => (
          bif (decide (st15 < (p_n.2.1.length : Int))) then
            (idx p_n.2.1 st15).bind fun e16 =>
            (bif (decide (e16.1 < 0)) then
                some true
              else
                some (decide (e16.2.1 ≤ e16.1))).bind fun c17 =>
            (bif c17 then
                some true
              else
                some (decide ((p_n.1.length : Int) ≤ e16.2.1))).bind fun c18 =>
            (bif c18 then
                some true
              else
                (i_within e16.2.2.1 1 60).bind fun r19 =>
                some (!r19)).bind fun c20 =>
            (bif c20 then
                some true
              else
                (bif (decide (0 < st15)) then
                    (idx p_n.2.1 (w64 (st15 - 1))).bind fun e21 =>
                    (i_compareLinks e21 e16).bind fun r22 =>
                    some (decide (0 ≤ r22))
                  else
                    some false).bind fun c23 =>
                some c23).bind fun c24 =>
            bif c24 then
              some (.inr (.inr false))
            else
              some (.inl (w64 (st15 + 1)))
          else
            some (.inr (.inl ())) : Option ((Int) ⊕ (Unit ⊕ Bool)))) 0).bind fun o25 =>
      match o25 with
      | .inl _ =>
        some true
      | .inr y27 =>
        some y27
    | .inr y13 =>
      some y13
noncomputable def C72 : FnSpec := { ps := [.val TGNet], rs := [.val .bool], fn := fun x => i_IsNet x }
noncomputable def E72 : Env := { T := [(3, (.int .i64)), (32, (.slice TGLink)), (33, (.slice TGLink)), (35, TGNet), (109, TGLink), (153, TGLink)], G := [(74, C74), (123, C123)], ro := [1], loops := [(4, { keep := [1, 19, 20, 54, 55, 56, 57, 58, 61, 62, 63, 64, 65, 66, 69, 70, 71, 72, 75, 76, 77, 78, 79, 80, 81, 82, 83, 84, 85, 86, 87], live := [.tv 21 (.int .i64)], outs := [(.exit 0, []), (.ret, [.tv 2 .bool])] }), (10, { keep := [1, 43, 44], live := [.tv 45 (.int .i64)], outs := [(.exit 2, []), (.ret, [.tv 2 .bool])] })], joins := [] }
theorem E72_eq : ∀ x, afun E72 Try.f72 C72.ps C72.rs x = C72.fn x := fun x => by kernel_rfl
theorem S72 : Sound Try.prog 72 C72 := fun_sound (E := E72) ⟨good_T (by kernel_rfl), (good_cons S74 ⟨_, Try.func74, by kernel_rfl, by kernel_rfl⟩ (good_cons S123 ⟨_, Try.func123, by kernel_rfl, by kernel_rfl⟩ good_nil)), mixedOk, ins_nil⟩ Try.func72 rfl E72_eq
noncomputable def i_isFog (p_n : GNet) (p_x : GLink) : Option (Bool) :=
  (i_within p_x.1 0 (w64 ((p_n.2.1.length : Int) - 1))).bind fun r1 =>
  (bif r1 then
      some (decide (0 ≤ p_x.2.1))
    else
      some false).bind fun c2 =>
  (bif c2 then
      some (decide (p_x.2.1 < p_x.2.2.1))
    else
      some false).bind fun c3 =>
  (bif c3 then
      some (decide (p_x.2.2.1 ≤ 10000))
    else
      some false).bind fun c4 =>
  some c4
noncomputable def C124 : FnSpec := { ps := [.val TGNet, .val TGLink], rs := [.val .bool], fn := fun x => i_isFog x.1 x.2 }
noncomputable def E124 : Env := { T := [(3, (.int .i64)), (33, (.slice TGLink)), (35, TGNet), (120, TGLink)], G := [(74, C74)], ro := [2, 3], loops := [], joins := [] }
theorem E124_eq : ∀ x, afun E124 Try.f124 C124.ps C124.rs x = C124.fn x := fun x => by kernel_rfl
theorem S124 : Sound Try.prog 124 C124 := fun_sound (E := E124) ⟨good_T (by kernel_rfl), (good_cons S74 ⟨_, Try.func74, by kernel_rfl, by kernel_rfl⟩ good_nil), mixedOk, ins_nil⟩ Try.func124 rfl E124_eq
noncomputable def i_compareFogs (p_a : GLink) (p_b : GLink) : Option (Int) :=
  (cmp_Compare_int p_a.1 p_b.1).bind fun r1 =>
  (cmp_Compare_int p_a.2.1 p_b.2.1).bind fun r2 =>
  (cmp_Or_int [r1, r2]).bind fun r3 =>
  some r3
noncomputable def C125 : FnSpec := { ps := [.val TGLink, .val TGLink], rs := [.val (.int .i64)], fn := fun x => i_compareFogs x.1 x.2 }
noncomputable def E125 : Env := { T := [(3, (.int .i64)), (45, (.slice (.int .i64))), (120, TGLink)], G := [(152, C152), (153, C153)], ro := [2, 3], loops := [], joins := [] }
theorem E125_eq : ∀ x, afun E125 Try.f125 C125.ps C125.rs x = C125.fn x := fun x => by kernel_rfl
theorem S125 : Sound Try.prog 125 C125 := fun_sound (E := E125) ⟨good_T (by kernel_rfl), (good_cons S152 ⟨_, Try.func152, by kernel_rfl, by kernel_rfl⟩ (good_cons S153 ⟨_, Try.func153, by kernel_rfl, by kernel_rfl⟩ good_nil)), mixedOk, ins_nil⟩ Try.func125 rfl E125_eq
noncomputable def i_areFogs (p_n : GNet) (p_l : List GLink) : Option (Bool) :=
  bif (decide (60 < (p_l.length : Int))) then
    some false
  else
    (loopE (fun (st2 : Int) => (
        bif (decide (st2 < (p_l.length : Int))) then
          (idx p_l st2).bind fun e3 =>
          (i_isFog p_n e3).bind fun r4 =>
          (bif (!r4) then
              some true
            else
              (bif (decide (0 < st2)) then
                  (idx p_l (w64 (st2 - 1))).bind fun e5 =>
                  (i_compareFogs e5 e3).bind fun r6 =>
                  (bif (decide (0 ≤ r6)) then
                      some true
                    else
                      (idx p_l (w64 (st2 - 1))).bind fun e7 =>
                      (bif (decide (e7.1 = e3.1)) then
                          (idx p_l (w64 (st2 - 1))).bind fun e8 =>
                          some (decide (e3.2.1 ≤ e8.2.2.1))
                        else
                          some false).bind fun c9 =>
                      some c9).bind fun c10 =>
                  some c10
                else
                  some false).bind fun c11 =>
              some c11).bind fun c12 =>
          bif c12 then
            some (.inr (.inr false))
          else
            some (.inl (w64 (st2 + 1)))
        else
          some (.inr (.inl ())) : Option ((Int) ⊕ (Unit ⊕ Bool)))) 0).bind fun o13 =>
    match o13 with
    | .inl _ =>
      some true
    | .inr y15 =>
      some y15
noncomputable def C73 : FnSpec := { ps := [.val TGNet, .val (.slice TGLink)], rs := [.val .bool], fn := fun x => i_areFogs x.1 x.2 }
noncomputable def E73 : Env := { T := [(3, (.int .i64)), (35, TGNet), (36, (.slice TGLink)), (120, TGLink)], G := [(124, C124), (125, C125)], ro := [2], loops := [(4, { keep := [1, 2, 10, 11], live := [.tv 12 (.int .i64)], outs := [(.exit 0, []), (.ret, [.tv 4 .bool])] })], joins := [] }
theorem E73_eq : ∀ x, afun E73 Try.f73 C73.ps C73.rs x = C73.fn x := fun x => by kernel_rfl
theorem S73 : Sound Try.prog 73 C73 := fun_sound (E := E73) ⟨good_T (by kernel_rfl), (good_cons S124 ⟨_, Try.func124, by kernel_rfl, by kernel_rfl⟩ (good_cons S125 ⟨_, Try.func125, by kernel_rfl, by kernel_rfl⟩ good_nil)), mixedOk, ins_nil⟩ Try.func73 rfl E73_eq
noncomputable def i_IsNetwork (p_w : GNetwork) : Option (Bool) :=
  (i_IsNet p_w.1).bind fun r1 =>
  (bif (!r1) then
      some true
    else
      (i_areFogs p_w.1 p_w.2.1).bind fun r2 =>
      some (!r2)).bind fun c3 =>
  (bif c3 then
      some true
    else
      (i_within p_w.2.2.1 0 10000).bind fun r4 =>
      some (!r4)).bind fun c5 =>
  (bif c5 then
      some true
    else
      some (decide (40 < (p_w.2.2.2.1.length : Int)))).bind fun c6 =>
  bif c6 then
    some false
  else
    (loopE (fun (st8 : Int × Int) => (
        bif (decide (st8.2 < (p_w.2.2.2.1.length : Int))) then
          (idx p_w.2.2.2.1 st8.2).bind fun e9 =>
          (bif (decide (e9.1 ≤ st8.1)) then
              some true
            else
              some (decide (999 < e9.1))).bind fun c10 =>
          (bif c10 then
              some true
            else
              (i_within e9.2.2.1 1 9).bind fun r11 =>
              some (!r11)).bind fun c12 =>
          (bif c12 then
              some true
            else
              some (decide ((p_w.2.2.2.1.length : Int) < (w64 (st8.2 + e9.2.2.1))))).bind fun c13 =>
          bif c13 then
            some (.inr (.inr false))
          else
            (loopE (fun (st15 : Int × Int × Int × Int × Int × Int × Int) => (
                bif (decide (st15.2.2.2.2.2.2 < e9.2.2.1)) then
                  (idx p_w.2.2.2.1 (w64 (st8.2 + st15.2.2.2.2.2.2))).bind fun e16 =>
                  (bif (!decide (e16.1 = st15.1)) then
                      some true
                    else
                      some (!decide (e16.2.1 = st15.2.2.2.2.2.2))).bind fun c17 =>
                  (bif c17 then
                      some true
                    else
                      some (!decide (e16.2.2.1 = st15.2.2.1))).bind fun c18 =>
                  (bif c18 then
                      some true
                    else
                      some (!decide (e16.2.2.2.2.1 = st15.2.2.2.2.1))).bind fun c19 =>
                  (bif c19 then
                      some true
                    else
                      (i_within e16.2.2.2.2.2.1 0 20000).bind fun r20 =>
                      some (!r20)).bind fun c21 =>
                  bif c21 then
                    some (.inr (.inr false))
                  else
                    (i_within e16.2.2.2.1 0 (w64 ((p_w.1.1.length : Int) - 1))).bind fun r22 =>
                    (bif (!r22) then
                        some true
                      else
                        (i_within e16.2.2.2.2.1 0 (w64 ((p_w.1.1.length : Int) - 1))).bind fun r23 =>
                        some (!r23)).bind fun c24 =>
                    bif c24 then
                      some (.inr (.inr false))
                    else
                      some (.inl (st15.1, st15.2.1, st15.2.2.1, st15.2.2.2.1, st15.2.2.2.2.1, st15.2.2.2.2.2.1, (w64 (st15.2.2.2.2.2.2 + 1))))
                else
                  some (.inr (.inl (st15.1, st15.2.1, st15.2.2.1, st15.2.2.2.1, st15.2.2.2.2.1, st15.2.2.2.2.2.1))) : Option ((Int × Int × Int × Int × Int × Int × Int) ⊕ ((Int × Int × Int × Int × Int × Int) ⊕ Bool)))) (e9.1, e9.2.1, e9.2.2.1, e9.2.2.2.1, e9.2.2.2.2.1, e9.2.2.2.2.2.1, 0)).bind fun o25 =>
            match o25 with
            | .inl x26 =>
              some (.inl (x26.1, (w64 (st8.2 + x26.2.2.1))))
            | .inr y27 =>
              some (.inr (.inr y27))
        else
          some (.inr (.inl ())) : Option ((Int × Int) ⊕ (Unit ⊕ Bool)))) (0, 0)).bind fun o28 =>
    match o28 with
    | .inl _ =>
      some true
    | .inr y30 =>
      some y30
noncomputable def C18 : FnSpec := { ps := [.val TGNetwork], rs := [.val .bool], fn := fun x => i_IsNetwork x }
noncomputable def E18 : Env := { T := [(3, (.int .i64)), (32, (.slice TGLink)), (35, TGNet), (36, (.slice TGLink)), (37, (.slice TGParcel)), (39, TGNetwork), (88, TGParcel)], G := [(72, C72), (73, C73), (74, C74)], ro := [1], loops := [(5, { keep := [1], live := [.tv 3 (.int .i64), .tv 4 (.int .i64)], outs := [(.exit 0, []), (.ret, [.tv 2 .bool])] }), (10, { keep := [1, 4, 47, 48, 49, 52, 53, 54, 55, 58, 59, 60, 61, 62, 63, 64, 65, 68], live := [.bx 5 80 [.pv (.int .i64), .pv (.int .i64), .pv (.int .i64), .pv (.int .i64), .pv (.int .i64), .pv (.int .i64)], .tv 69 (.int .i64)], outs := [(.exit 2, [.bx 5 80 [.pv (.int .i64), .pv (.int .i64), .pv (.int .i64), .pv (.int .i64), .pv (.int .i64), .pv (.int .i64)]]), (.ret, [.tv 2 .bool])] })], joins := [] }
theorem E18_eq : ∀ x, afun E18 Try.f18 C18.ps C18.rs x = C18.fn x := fun x => by kernel_rfl
theorem S18 : Sound Try.prog 18 C18 := fun_sound (E := E18) ⟨good_T (by kernel_rfl), (good_cons S72 ⟨_, Try.func72, by kernel_rfl, by kernel_rfl⟩ (good_cons S73 ⟨_, Try.func73, by kernel_rfl, by kernel_rfl⟩ (good_cons S74 ⟨_, Try.func74, by kernel_rfl, by kernel_rfl⟩ good_nil))), mixedOk, ins_nil⟩ Try.func18 rfl E18_eq
noncomputable def s_l1In (p_n : Int) (p_lo : Int) (p_hi : Int) : Option (Bool) :=
  (bif (decide (p_lo ≤ p_n)) then
      some (decide (p_n ≤ p_hi))
    else
      some false).bind fun c1 =>
  some c1
noncomputable def C127 : FnSpec := { ps := [.val (.int .i64), .val (.int .i64), .val (.int .i64)], rs := [.val .bool], fn := fun x => s_l1In x.1 x.2.1 x.2.2 }
noncomputable def E127 : Env := { T := [], G := [], ro := [], loops := [], joins := [] }
theorem E127_eq : ∀ x, afun E127 Try.f127 C127.ps C127.rs x = C127.fn x := fun x => by kernel_rfl
theorem S127 : Sound Try.prog 127 C127 := fun_sound (E := E127) ⟨good_T (by kernel_rfl), good_nil, mixedOk, ins_nil⟩ Try.func127 rfl E127_eq
noncomputable def s_fgTime (p_t : Int) : Option (Bool) :=
  (s_l1In p_t 0 10000).bind fun r1 =>
  some r1
noncomputable def C80 : FnSpec := { ps := [.val (.int .i64)], rs := [.val .bool], fn := fun x => s_fgTime x }
noncomputable def E80 : Env := { T := [], G := [(127, C127)], ro := [], loops := [], joins := [] }
theorem E80_eq : ∀ x, afun E80 Try.f80 C80.ps C80.rs x = C80.fn x := fun x => by kernel_rfl
theorem S80 : Sound Try.prog 80 C80 := fun_sound (E := E80) ⟨good_T (by kernel_rfl), (good_cons S127 ⟨_, Try.func127, by kernel_rfl, by kernel_rfl⟩ good_nil), mixedOk, ins_nil⟩ Try.func80 rfl E80_eq
noncomputable def s_neBefore (p_a : GLink) (p_b : GLink) : Option (Bool) :=
  (bif (decide (p_a.1 < p_b.1)) then
      some true
    else
      (bif (decide (p_a.1 = p_b.1)) then
          some (decide (p_a.2.1 < p_b.2.1))
        else
          some false).bind fun c1 =>
      some c1).bind fun c2 =>
  some c2
noncomputable def C150 : FnSpec := { ps := [.val TGLink, .val TGLink], rs := [.val .bool], fn := fun x => s_neBefore x.1 x.2 }
noncomputable def E150 : Env := { T := [(3, (.int .i64)), (109, TGLink)], G := [], ro := [2, 3], loops := [], joins := [] }
theorem E150_eq : ∀ x, afun E150 Try.f150 C150.ps C150.rs x = C150.fn x := fun x => by kernel_rfl
theorem S150 : Sound Try.prog 150 C150 := fun_sound (E := E150) ⟨good_T (by kernel_rfl), good_nil, mixedOk, ins_nil⟩ Try.func150 rfl E150_eq
noncomputable def s_neGood (p_n : GNet) : Option (Bool) :=
  (loopE (fun (st2 : Int) => (
      bif (decide (st2 < (p_n.1.length : Int))) then
        (idx p_n.1 st2).bind fun e3 =>
        (s_l1In e3.1 0 999).bind fun r4 =>
        (bif (!r4) then
            some true
          else
            (s_l1In e3.2.1 0 999).bind fun r5 =>
            some (!r5)).bind fun c6 =>
        (bif c6 then
            some true
          else
            (s_l1In e3.2.2.1 0 500).bind fun r7 =>
            some (!r7)).bind fun c8 =>
        bif c8 then
          some (.inr (.inr false))
        else
          some (.inl (w64 (st2 + 1)))
      else
        some (.inr (.inl ())) : Option ((Int) ⊕ (Unit ⊕ Bool)))) 0).bind fun o9 =>
  match o9 with
  | .inl _ =>
    (loopE (fun (st13 : Int) => (
        bif (decide (st13 < (p_n.2.1.length : Int))) then
          (idx p_n.2.1 st13).bind fun e14 =>
          (s_l1In e14.1 0 (w64 (e14.2.1 - 1))).bind fun r15 =>
          (bif (!r15) then
              some true
            else
              (s_l1In e14.2.1 0 (w64 ((p_n.1.length : Int) - 1))).bind fun r16 =>
              some (!r16)).bind fun c17 =>
          (bif c17 then
              some true
            else
              (s_l1In e14.2.2.1 1 60).bind fun r18 =>
              some (!r18)).bind fun c19 =>
          (bif c19 then
              some true
            else
              (bif (decide (0 < st13)) then
                  (idx p_n.2.1 (w64 (st13 - 1))).bind fun e20 =>
                  (s_neBefore e20 e14).bind fun r21 =>
                  some (!r21)
                else
                  some false).bind fun c22 =>
              some c22).bind fun c23 =>
          bif c23 then
            some (.inr (.inr false))
          else
            some (.inl (w64 (st13 + 1)))
        else
          some (.inr (.inl ())) : Option ((Int) ⊕ (Unit ⊕ Bool)))) 0).bind fun o24 =>
    match o24 with
    | .inl _ =>
      (s_l1In (p_n.1.length : Int) 1 16).bind fun r27 =>
      (bif r27 then
          some (decide ((p_n.2.1.length : Int) ≤ 40))
        else
          some false).bind fun c28 =>
      some c28
    | .inr y26 =>
      some y26
  | .inr y11 =>
    some y11
noncomputable def C119 : FnSpec := { ps := [.val TGNet], rs := [.val .bool], fn := fun x => s_neGood x }
noncomputable def E119 : Env := { T := [(3, (.int .i64)), (32, (.slice TGLink)), (33, (.slice TGLink)), (35, TGNet), (109, TGLink), (153, TGLink)], G := [(127, C127), (150, C150)], ro := [1], loops := [(2, { keep := [1, 8, 9, 47, 48, 49, 50, 51, 52, 53, 54, 57, 58, 59, 60, 63, 64, 65, 66, 67, 68, 69, 70, 71, 72, 73, 74, 75, 83, 84, 85, 86], live := [.tv 10 (.int .i64)], outs := [(.exit 0, []), (.ret, [.tv 2 .bool])] }), (8, { keep := [1, 32, 33, 83, 84, 85, 86], live := [.tv 34 (.int .i64)], outs := [(.exit 2, []), (.ret, [.tv 2 .bool])] })], joins := [] }
theorem E119_eq : ∀ x, afun E119 Try.f119 C119.ps C119.rs x = C119.fn x := fun x => by kernel_rfl
theorem S119 : Sound Try.prog 119 C119 := fun_sound (E := E119) ⟨good_T (by kernel_rfl), (good_cons S127 ⟨_, Try.func127, by kernel_rfl, by kernel_rfl⟩ (good_cons S150 ⟨_, Try.func150, by kernel_rfl, by kernel_rfl⟩ good_nil)), mixedOk, ins_nil⟩ Try.func119 rfl E119_eq
noncomputable def s_fgFog (p_n : GNet) (p_x : GLink) : Option (Bool) :=
  (s_l1In p_x.1 0 (w64 ((p_n.2.1.length : Int) - 1))).bind fun r1 =>
  (bif r1 then
      (s_l1In p_x.2.1 0 9999).bind fun r2 =>
      some r2
    else
      some false).bind fun c3 =>
  (bif c3 then
      (s_l1In p_x.2.2.1 (w64 (p_x.2.1 + 1)) 10000).bind fun r4 =>
      some r4
    else
      some false).bind fun c5 =>
  some c5
noncomputable def C151 : FnSpec := { ps := [.val TGNet, .val TGLink], rs := [.val .bool], fn := fun x => s_fgFog x.1 x.2 }
noncomputable def E151 : Env := { T := [(3, (.int .i64)), (33, (.slice TGLink)), (35, TGNet), (120, TGLink)], G := [(127, C127)], ro := [2, 3], loops := [], joins := [] }
theorem E151_eq : ∀ x, afun E151 Try.f151 C151.ps C151.rs x = C151.fn x := fun x => by kernel_rfl
theorem S151 : Sound Try.prog 151 C151 := fun_sound (E := E151) ⟨good_T (by kernel_rfl), (good_cons S127 ⟨_, Try.func127, by kernel_rfl, by kernel_rfl⟩ good_nil), mixedOk, ins_nil⟩ Try.func151 rfl E151_eq
noncomputable def s_fgGood (p_n : GNet) (p_l : List GLink) : Option (Bool) :=
  (loopE (fun (st2 : Int) => (
      bif (decide (st2 < (p_l.length : Int))) then
        (idx p_l st2).bind fun e3 =>
        (s_fgFog p_n e3).bind fun r4 =>
        bif (!r4) then
          some (.inr (.inr false))
        else
          (bif (decide (0 < st2)) then
              (idx p_l (w64 (st2 - 1))).bind fun e5 =>
              (bif (decide (e3.1 < e5.1)) then
                  some true
                else
                  (idx p_l (w64 (st2 - 1))).bind fun e6 =>
                  (bif (decide (e6.1 = e3.1)) then
                      (idx p_l (w64 (st2 - 1))).bind fun e7 =>
                      some (decide (e3.2.1 ≤ e7.2.2.1))
                    else
                      some false).bind fun c8 =>
                  some c8).bind fun c9 =>
              some c9
            else
              some false).bind fun c10 =>
          bif c10 then
            some (.inr (.inr false))
          else
            some (.inl (w64 (st2 + 1)))
      else
        some (.inr (.inl ())) : Option ((Int) ⊕ (Unit ⊕ Bool)))) 0).bind fun o11 =>
  match o11 with
  | .inl _ =>
    some (decide ((p_l.length : Int) ≤ 60))
  | .inr y13 =>
    some y13
noncomputable def C120 : FnSpec := { ps := [.val TGNet, .val (.slice TGLink)], rs := [.val .bool], fn := fun x => s_fgGood x.1 x.2 }
noncomputable def E120 : Env := { T := [(3, (.int .i64)), (35, TGNet), (36, (.slice TGLink)), (120, TGLink)], G := [(151, C151)], ro := [2], loops := [(2, { keep := [1, 2, 7, 8], live := [.tv 9 (.int .i64)], outs := [(.exit 0, []), (.ret, [.tv 4 .bool])] })], joins := [] }
theorem E120_eq : ∀ x, afun E120 Try.f120 C120.ps C120.rs x = C120.fn x := fun x => by kernel_rfl
theorem S120 : Sound Try.prog 120 C120 := fun_sound (E := E120) ⟨good_T (by kernel_rfl), (good_cons S151 ⟨_, Try.func151, by kernel_rfl, by kernel_rfl⟩ good_nil), mixedOk, ins_nil⟩ Try.func120 rfl E120_eq
noncomputable def s_nwParcel (p_w : GNetwork) (p_p : GParcel) : Option (Bool) :=
  (s_l1In p_p.1 1 999).bind fun r1 =>
  (bif r1 then
      (s_l1In p_p.2.2.1 1 9).bind fun r2 =>
      some r2
    else
      some false).bind fun c3 =>
  (bif c3 then
      (s_l1In p_p.2.1 0 (w64 (p_p.2.2.1 - 1))).bind fun r4 =>
      some r4
    else
      some false).bind fun c5 =>
  (bif c5 then
      (s_l1In p_p.2.2.2.1 0 (w64 ((p_w.1.1.length : Int) - 1))).bind fun r6 =>
      some r6
    else
      some false).bind fun c7 =>
  (bif c7 then
      (s_l1In p_p.2.2.2.2.1 0 (w64 ((p_w.1.1.length : Int) - 1))).bind fun r8 =>
      some r8
    else
      some false).bind fun c9 =>
  (bif c9 then
      (s_l1In p_p.2.2.2.2.2.1 0 20000).bind fun r10 =>
      some r10
    else
      some false).bind fun c11 =>
  some c11
noncomputable def C121 : FnSpec := { ps := [.val TGNetwork, .val TGParcel], rs := [.val .bool], fn := fun x => s_nwParcel x.1 x.2 }
noncomputable def E121 : Env := { T := [(3, (.int .i64)), (32, (.slice TGLink)), (35, TGNet), (39, TGNetwork), (88, TGParcel)], G := [(127, C127)], ro := [2, 3], loops := [], joins := [] }
theorem E121_eq : ∀ x, afun E121 Try.f121 C121.ps C121.rs x = C121.fn x := fun x => by kernel_rfl
theorem S121 : Sound Try.prog 121 C121 := fun_sound (E := E121) ⟨good_T (by kernel_rfl), (good_cons S127 ⟨_, Try.func127, by kernel_rfl, by kernel_rfl⟩ good_nil), mixedOk, ins_nil⟩ Try.func121 rfl E121_eq
noncomputable def s_nwGood (p_w : GNetwork) : Option (Bool) :=
  (s_neGood p_w.1).bind fun r1 =>
  (bif (!r1) then
      some true
    else
      (s_fgGood p_w.1 p_w.2.1).bind fun r2 =>
      some (!r2)).bind fun c3 =>
  (bif c3 then
      some true
    else
      (s_fgTime p_w.2.2.1).bind fun r4 =>
      some (!r4)).bind fun c5 =>
  (bif c5 then
      some true
    else
      some (decide (40 < (p_w.2.2.2.1.length : Int)))).bind fun c6 =>
  bif c6 then
    some false
  else
    (loopE (fun (st8 : Int) => (
        bif (decide (st8 < (p_w.2.2.2.1.length : Int))) then
          (idx p_w.2.2.2.1 st8).bind fun e9 =>
          (s_nwParcel p_w e9).bind fun r10 =>
          bif (!r10) then
            some (.inr (.inr false))
          else
            (bif (decide ((w64 (st8 - e9.2.1)) < 0)) then
                some true
              else
                some (decide ((p_w.2.2.2.1.length : Int) < (w64 ((w64 (st8 - e9.2.1)) + e9.2.2.1))))).bind fun c11 =>
            bif c11 then
              some (.inr (.inr false))
            else
              (idx p_w.2.2.2.1 (w64 (st8 - e9.2.1))).bind fun e12 =>
              (bif (!decide (e12.1 = e9.1)) then
                  some true
                else
                  some (!decide (e12.2.1 = 0))).bind fun c13 =>
              (bif c13 then
                  some true
                else
                  some (!decide (e12.2.2.1 = e9.2.2.1))).bind fun c14 =>
              (bif c14 then
                  some true
                else
                  some (!decide (e12.2.2.2.2.1 = e9.2.2.2.2.1))).bind fun c15 =>
              bif c15 then
                some (.inr (.inr false))
              else
                (bif (decide (0 < st8)) then
                    (idx p_w.2.2.2.1 (w64 (st8 - 1))).bind fun e16 =>
                    (bif (decide (e9.1 < e16.1)) then
                        some true
                      else
                        (idx p_w.2.2.2.1 (w64 (st8 - 1))).bind fun e17 =>
                        (bif (decide (e17.1 = e9.1)) then
                            some (decide (e9.2.1 = 0))
                          else
                            some false).bind fun c18 =>
                        some c18).bind fun c19 =>
                    some c19
                  else
                    some false).bind fun c20 =>
                bif c20 then
                  some (.inr (.inr false))
                else
                  (bif (decide (e9.2.1 < (w64 (e9.2.2.1 - 1)))) then
                      (idx p_w.2.2.2.1 (w64 (st8 + 1))).bind fun e21 =>
                      some (!decide (e21.1 = e9.1))
                    else
                      some false).bind fun c22 =>
                  (bif c22 then
                      some true
                    else
                      (bif (decide (e9.2.1 = (w64 (e9.2.2.1 - 1)))) then
                          some (decide ((w64 (st8 + 1)) < (p_w.2.2.2.1.length : Int)))
                        else
                          some false).bind fun c23 =>
                      (bif c23 then
                          (idx p_w.2.2.2.1 (w64 (st8 + 1))).bind fun e24 =>
                          some (decide (e24.1 ≤ e9.1))
                        else
                          some false).bind fun c25 =>
                      some c25).bind fun c26 =>
                  bif c26 then
                    some (.inr (.inr false))
                  else
                    some (.inl (w64 (st8 + 1)))
        else
          some (.inr (.inl ())) : Option ((Int) ⊕ (Unit ⊕ Bool)))) 0).bind fun o27 =>
    match o27 with
    | .inl _ =>
      some true
    | .inr y29 =>
      some y29
noncomputable def C70 : FnSpec := { ps := [.val TGNetwork], rs := [.val .bool], fn := fun x => s_nwGood x }
noncomputable def E70 : Env := { T := [(3, (.int .i64)), (35, TGNet), (36, (.slice TGLink)), (37, (.slice TGParcel)), (39, TGNetwork), (88, TGParcel)], G := [(80, C80), (119, C119), (120, C120), (121, C121)], ro := [1], loops := [(4, { keep := [1, 32, 33], live := [.tv 34 (.int .i64)], outs := [(.exit 0, []), (.ret, [.tv 2 .bool])] })], joins := [] }
theorem E70_eq : ∀ x, afun E70 Try.f70 C70.ps C70.rs x = C70.fn x := fun x => by kernel_rfl
theorem S70 : Sound Try.prog 70 C70 := fun_sound (E := E70) ⟨good_T (by kernel_rfl), (good_cons S80 ⟨_, Try.func80, by kernel_rfl, by kernel_rfl⟩ (good_cons S119 ⟨_, Try.func119, by kernel_rfl, by kernel_rfl⟩ (good_cons S120 ⟨_, Try.func120, by kernel_rfl, by kernel_rfl⟩ (good_cons S121 ⟨_, Try.func121, by kernel_rfl, by kernel_rfl⟩ good_nil)))), mixedOk, ins_nil⟩ Try.func70 rfl E70_eq
noncomputable def s_neLink (p_n : GNet) (p_a : Int) (p_b : Int) : Option (Int) :=
  (loopE (fun (st2 : Int) => (
      bif (decide (st2 < (p_n.2.1.length : Int))) then
        (idx p_n.2.1 st2).bind fun e3 =>
        (bif (decide (e3.1 = p_a)) then
            some (decide (e3.2.1 = p_b))
          else
            some false).bind fun c4 =>
        (bif c4 then
            some true
          else
            (bif (decide (e3.1 = p_b)) then
                some (decide (e3.2.1 = p_a))
              else
                some false).bind fun c5 =>
            some c5).bind fun c6 =>
        bif c6 then
          some (.inr (.inr st2))
        else
          some (.inl (w64 (st2 + 1)))
      else
        some (.inr (.inl ())) : Option ((Int) ⊕ (Unit ⊕ Int)))) 0).bind fun o7 =>
  match o7 with
  | .inl _ =>
    some (-1)
  | .inr y9 =>
    some y9
noncomputable def C77 : FnSpec := { ps := [.val TGNet, .val (.int .i64), .val (.int .i64)], rs := [.val (.int .i64)], fn := fun x => s_neLink x.1 x.2.1 x.2.2 }
noncomputable def E77 : Env := { T := [(3, (.int .i64)), (33, (.slice TGLink)), (35, TGNet), (109, TGLink)], G := [], ro := [3], loops := [(2, { keep := [1, 2, 10, 11], live := [.tv 12 (.int .i64)], outs := [(.exit 0, []), (.ret, [.tv 6 (.int .i64)])] })], joins := [] }
theorem E77_eq : ∀ x, afun E77 Try.f77 C77.ps C77.rs x = C77.fn x := fun x => by kernel_rfl
theorem S77 : Sound Try.prog 77 C77 := fun_sound (E := E77) ⟨good_T (by kernel_rfl), good_nil, mixedOk, ins_nil⟩ Try.func77 rfl E77_eq
noncomputable def s_neNext (p_n : GNet) (p_i : Int) : Option ((List Int)) :=
  (loopE (fun (st2 : (List Int) × Int) => (
      bif (decide (st2.2 < (p_n.1.length : Int))) then
        (s_neLink p_n p_i st2.2).bind fun r3 =>
        bif (decide (0 ≤ r3)) then
          bif decide (List.length st2.1 + List.length [st2.2] ≤ lim) then
            some (.inl ((st2.1 ++ [st2.2]), (w64 (st2.2 + 1))))
          else
            none
        else
          some (.inl (st2.1, (w64 (st2.2 + 1))))
      else
        some (.inr st2.1) : Option (((List Int) × Int) ⊕ ((List Int))))) ([], 0)).bind fun o4 =>
  some o4
noncomputable def C76 : FnSpec := { ps := [.val TGNet, .val (.int .i64)], rs := [.own (.slice (.int .i64))], fn := fun x => s_neNext x.1 x.2 }
noncomputable def E76 : Env := { T := [(32, (.slice TGLink)), (35, TGNet), (45, (.slice (.int .i64)))], G := [(77, C77)], ro := [2], loops := [(3, { keep := [1, 2, 9], live := [.own 5 [] 200005 (.int .i64) true, .tv 10 (.int .i64)], outs := [(.exit 0, [.own 5 [] 200005 (.int .i64) true])] })], joins := [] }
theorem E76_eq : ∀ x, afun E76 Try.f76 C76.ps C76.rs x = C76.fn x := fun x => by kernel_rfl
theorem S76 : Sound Try.prog 76 C76 := fun_sound (E := E76) ⟨good_T (by kernel_rfl), (good_cons S77 ⟨_, Try.func77, by kernel_rfl, by kernel_rfl⟩ good_nil), mixedOk, ins_nil⟩ Try.func76 rfl E76_eq
noncomputable def s_fgStart (p_l : List GLink) (p_link : Int) (p_t : Int) (p_seconds : Int) : Option (Int) :=
  (loopE (fun (st2 : Int × Int) => (
      bif (decide (st2.2 < (p_l.length : Int))) then
        (idx p_l st2.2).bind fun e3 =>
        (bif (decide (e3.1 = p_link)) then
            some (decide (st2.1 < e3.2.2.1))
          else
            some false).bind fun c4 =>
        (bif c4 then
            some (decide (e3.2.1 < (w64 (st2.1 + p_seconds))))
          else
            some false).bind fun c5 =>
        bif c5 then
          some (.inl (e3.2.2.1, (w64 (st2.2 + 1))))
        else
          some (.inl (st2.1, (w64 (st2.2 + 1))))
      else
        some (.inr st2.1) : Option ((Int × Int) ⊕ (Int)))) (p_t, 0)).bind fun o6 =>
  some o6
noncomputable def C78 : FnSpec := { ps := [.val (.slice TGLink), .val (.int .i64), .val (.int .i64), .val (.int .i64)], rs := [.val (.int .i64)], fn := fun x => s_fgStart x.1 x.2.1 x.2.2.1 x.2.2.2 }
noncomputable def E78 : Env := { T := [(3, (.int .i64)), (36, (.slice TGLink)), (120, TGLink)], G := [], ro := [], loops := [(2, { keep := [1, 3, 11, 12], live := [.tv 2 (.int .i64), .tv 13 (.int .i64)], outs := [(.exit 0, [.tv 2 (.int .i64)])] })], joins := [] }
theorem E78_eq : ∀ x, afun E78 Try.f78 C78.ps C78.rs x = C78.fn x := fun x => by kernel_rfl
theorem S78 : Sound Try.prog 78 C78 := fun_sound (E := E78) ⟨good_T (by kernel_rfl), good_nil, mixedOk, ins_nil⟩ Try.func78 rfl E78_eq
noncomputable def s_l1Most (p_a : Int) (p_b : Int) : Option (Int) :=
  bif (decide (p_b < p_a)) then
    some p_a
  else
    some p_b
noncomputable def C79 : FnSpec := { ps := [.val (.int .i64), .val (.int .i64)], rs := [.val (.int .i64)], fn := fun x => s_l1Most x.1 x.2 }
noncomputable def E79 : Env := { T := [], G := [], ro := [], loops := [], joins := [] }
theorem E79_eq : ∀ x, afun E79 Try.f79 C79.ps C79.rs x = C79.fn x := fun x => by kernel_rfl
theorem S79 : Sound Try.prog 79 C79 := fun_sound (E := E79) ⟨good_T (by kernel_rfl), good_nil, mixedOk, ins_nil⟩ Try.func79 rfl E79_eq
noncomputable def i_linkIndex_1 (p_x : GLink) (p_a1 : Int) (p_a2 : Int) : Option (Bool) :=
  (bif (decide (p_x.1 = (bif decide (p_a2 < p_a1) then p_a2 else p_a1))) then
      some (decide (p_x.2.1 = (bif decide (p_a1 < p_a2) then p_a2 else p_a1)))
    else
      some false).bind fun c1 =>
  some c1
noncomputable def C155 : FnSpec := { ps := [.val TGLink, .rp (.int .i64), .rp (.int .i64)], rs := [.val .bool], fn := fun x => i_linkIndex_1 x.1 x.2.1 x.2.2 }
noncomputable def E155 : Env := { T := [(3, (.int .i64)), (109, TGLink)], G := [], ro := [3], loops := [], joins := [] }
theorem E155_eq : ∀ x, afun E155 Try.f155 C155.ps C155.rs x = C155.fn x := fun x => by kernel_rfl
theorem S155 : Sound Try.prog 155 C155 := fun_sound (E := E155) ⟨good_T (by kernel_rfl), good_nil, mixedOk, ins_nil⟩ Try.func155 rfl E155_eq
noncomputable def slices_IndexFunc_Link_155 (p_s : List GLink) (p_f : Int × Int × Unit) : Option (Int) :=
  (loopE (fun (st2 : Int) => (
      bif (decide (st2 < (p_s.length : Int))) then
        (idx p_s st2).bind fun e3 =>
        (i_linkIndex_1 e3 p_f.1 p_f.2.1).bind fun r4 =>
        bif r4 then
          some (.inr (.inr st2))
        else
          some (.inl (w64 (st2 + 1)))
      else
        some (.inr (.inl ())) : Option ((Int) ⊕ (Unit ⊕ Int)))) 0).bind fun o5 =>
  match o5 with
  | .inl _ =>
    some (-1)
  | .inr y7 =>
    some y7
noncomputable def C154_155 : FnSpec := { ps := [.val (.slice TGLink), .fn 155 [(.int .i64), (.int .i64)]], rs := [.val (.int .i64)], fn := fun x => slices_IndexFunc_Link_155 x.1 x.2 }
noncomputable def E154_155 : Env := { T := [(33, (.slice TGLink)), (109, TGLink)], G := [(155, C155)], ro := [], loops := [(2, { keep := [0, 1, 7], live := [.tv 8 (.int .i64)], outs := [(.exit 0, []), (.ret, [.tv 4 (.int .i64)])] })], joins := [] }
theorem E154_155_eq : ∀ x, afun E154_155 Try.f154 C154_155.ps C154_155.rs x = C154_155.fn x := fun x => by kernel_rfl
theorem S154_155 : Sound Try.prog 154 C154_155 := fun_sound (E := E154_155) ⟨good_T (by kernel_rfl), (good_cons S155 ⟨_, Try.func155, by kernel_rfl, by kernel_rfl⟩ good_nil), mixedOk, ins_nil⟩ Try.func154 rfl E154_155_eq
noncomputable def i_linkIndex (p_n : GNet) (p_a : Int) (p_b : Int) : Option (Int) :=
  (slices_IndexFunc_Link_155 p_n.2.1 (p_a, p_b, ())).bind fun r1 =>
  some r1
noncomputable def C128 : FnSpec := { ps := [.val TGNet, .val (.int .i64), .val (.int .i64)], rs := [.val (.int .i64)], fn := fun x => i_linkIndex x.1 x.2.1 x.2.2 }
noncomputable def E128 : Env := { T := [(3, (.int .i64)), (33, (.slice TGLink)), (35, TGNet)], G := [(154, C154_155)], ro := [3, 4, 5], loops := [], joins := [] }
theorem E128_eq : ∀ x, afun E128 Try.f128 C128.ps C128.rs x = C128.fn x := fun x => by kernel_rfl
theorem S128 : Sound Try.prog 128 C128 := fun_sound (E := E128) ⟨good_T (by kernel_rfl), (good_cons S154_155 ⟨_, Try.func154, by kernel_rfl, by kernel_rfl⟩ good_nil), mixedOk, ins_nil⟩ Try.func128 rfl E128_eq
noncomputable def i_startAfter (p_l : List GLink) (p_link : Int) (p_t : Int) (p_seconds : Int) : Option (Int) :=
  (loopE (fun (st2 : Int × Int) => (
      bif (decide (st2.2 < (p_l.length : Int))) then
        (idx p_l st2.2).bind fun e3 =>
        (bif (decide (e3.1 = p_link)) then
            some (decide (st2.1 < e3.2.2.1))
          else
            some false).bind fun c4 =>
        (bif c4 then
            some (decide (e3.2.1 < (w64 (st2.1 + p_seconds))))
          else
            some false).bind fun c5 =>
        bif c5 then
          some (.inl (e3.2.2.1, (w64 (st2.2 + 1))))
        else
          some (.inl (st2.1, (w64 (st2.2 + 1))))
      else
        some (.inr st2.1) : Option ((Int × Int) ⊕ (Int)))) (p_t, 0)).bind fun o6 =>
  some o6
noncomputable def C129 : FnSpec := { ps := [.val (.slice TGLink), .val (.int .i64), .val (.int .i64), .val (.int .i64)], rs := [.val (.int .i64)], fn := fun x => i_startAfter x.1 x.2.1 x.2.2.1 x.2.2.2 }
noncomputable def E129 : Env := { T := [(3, (.int .i64)), (36, (.slice TGLink)), (120, TGLink)], G := [], ro := [], loops := [(2, { keep := [1, 3, 11, 12], live := [.tv 2 (.int .i64), .tv 13 (.int .i64)], outs := [(.exit 0, [.tv 2 (.int .i64)])] })], joins := [] }
theorem E129_eq : ∀ x, afun E129 Try.f129 C129.ps C129.rs x = C129.fn x := fun x => by kernel_rfl
theorem S129 : Sound Try.prog 129 C129 := fun_sound (E := E129) ⟨good_T (by kernel_rfl), good_nil, mixedOk, ins_nil⟩ Try.func129 rfl E129_eq
noncomputable def i_passStart (p_w : GNetwork) (p_x : GParcel) (p_tower : Int) : Option (Int × Bool) :=
  (i_linkIndex p_w.1 p_x.2.2.2.1 p_tower).bind fun r1 =>
  (bif (decide (r1 < 0)) then
      some true
    else
      some (decide (p_x.2.2.2.1 = p_x.2.2.2.2.1))).bind fun c2 =>
  bif c2 then
    some (0, false)
  else
    (idx p_w.1.2.1 r1).bind fun e3 =>
    (i_startAfter p_w.2.1 r1 (bif decide (p_w.2.2.1 < p_x.2.2.2.2.2.1) then p_x.2.2.2.2.2.1 else p_w.2.2.1) e3.2.2.1).bind fun r4 =>
    some (r4, true)
noncomputable def C81 : FnSpec := { ps := [.val TGNetwork, .val TGParcel, .val (.int .i64)], rs := [.val (.int .i64), .val .bool], fn := fun x => i_passStart x.1 x.2.1 x.2.2 }
noncomputable def E81 : Env := { T := [(3, (.int .i64)), (33, (.slice TGLink)), (35, TGNet), (36, (.slice TGLink)), (39, TGNetwork), (88, TGParcel), (109, TGLink)], G := [(128, C128), (129, C129)], ro := [3, 4], loops := [], joins := [] }
theorem E81_eq : ∀ x, afun E81 Try.f81 C81.ps C81.rs x = C81.fn x := fun x => by kernel_rfl
theorem S81 : Sound Try.prog 81 C81 := fun_sound (E := E81) ⟨good_T (by kernel_rfl), (good_cons S128 ⟨_, Try.func128, by kernel_rfl, by kernel_rfl⟩ (good_cons S129 ⟨_, Try.func129, by kernel_rfl, by kernel_rfl⟩ good_nil)), mixedOk, ins_nil⟩ Try.func81 rfl E81_eq
noncomputable def s_nwFind (p_w : GNetwork) (p_message : Int) (p_part : Int) : Option (Int) :=
  (loopE (fun (st2 : Int) => (
      bif (decide (st2 < (p_w.2.2.2.1.length : Int))) then
        (idx p_w.2.2.2.1 st2).bind fun e3 =>
        (bif (decide (e3.1 = p_message)) then
            some (decide (e3.2.1 = p_part))
          else
            some false).bind fun c4 =>
        bif c4 then
          some (.inr (.inr st2))
        else
          some (.inl (w64 (st2 + 1)))
      else
        some (.inr (.inl ())) : Option ((Int) ⊕ (Unit ⊕ Int)))) 0).bind fun o5 =>
  match o5 with
  | .inl _ =>
    some (-1)
  | .inr y7 =>
    some y7
noncomputable def C82 : FnSpec := { ps := [.val TGNetwork, .val (.int .i64), .val (.int .i64)], rs := [.val (.int .i64)], fn := fun x => s_nwFind x.1 x.2.1 x.2.2 }
noncomputable def E82 : Env := { T := [(3, (.int .i64)), (37, (.slice TGParcel)), (39, TGNetwork), (88, TGParcel)], G := [], ro := [3], loops := [(2, { keep := [1, 2, 10, 11], live := [.tv 12 (.int .i64)], outs := [(.exit 0, []), (.ret, [.tv 6 (.int .i64)])] })], joins := [] }
theorem E82_eq : ∀ x, afun E82 Try.f82 C82.ps C82.rs x = C82.fn x := fun x => by kernel_rfl
theorem S82 : Sound Try.prog 82 C82 := fun_sound (E := E82) ⟨good_T (by kernel_rfl), good_nil, mixedOk, ins_nil⟩ Try.func82 rfl E82_eq
noncomputable def s_WhereIs (p_w : GNetwork) (p_message : Int) : Option ((List Int) × Bool) :=
  (s_nwGood p_w).bind fun r1 =>
  (bif (!r1) then
      some true
    else
      (s_nwFind p_w p_message 0).bind fun r2 =>
      some (decide (r2 < 0))).bind fun c3 =>
  bif c3 then
    some ([], false)
  else
    (loopE (fun (st5 : (List Int) × Int) => (
        bif (decide (st5.2 < (p_w.2.2.2.1.length : Int))) then
          (idx p_w.2.2.2.1 st5.2).bind fun e6 =>
          bif (decide (e6.1 = p_message)) then
            bif decide (List.length st5.1 + List.length [e6.2.2.2.1] ≤ lim) then
              some (.inl ((st5.1 ++ [e6.2.2.2.1]), (w64 (st5.2 + 1))))
            else
              none
          else
            some (.inl (st5.1, (w64 (st5.2 + 1))))
        else
          some (.inr st5.1) : Option (((List Int) × Int) ⊕ ((List Int))))) ([], 0)).bind fun o7 =>
    some (o7, true)
noncomputable def C22 : FnSpec := { ps := [.val TGNetwork, .val (.int .i64)], rs := [.own (.slice (.int .i64)), .val .bool], fn := fun x => s_WhereIs x.1 x.2 }
noncomputable def E22 : Env := { T := [(3, (.int .i64)), (37, (.slice TGParcel)), (39, TGNetwork), (45, (.slice (.int .i64))), (88, TGParcel)], G := [(70, C70), (82, C82)], ro := [2], loops := [(5, { keep := [1, 19, 20], live := [.own 6 [] 200006 (.int .i64) true, .tv 21 (.int .i64)], outs := [(.exit 0, [.own 6 [] 200006 (.int .i64) true])] })], joins := [] }
theorem E22_eq : ∀ x, afun E22 Try.f22 C22.ps C22.rs x = C22.fn x := fun x => by kernel_rfl
theorem S22 : Sound Try.prog 22 C22 := fun_sound (E := E22) ⟨good_T (by kernel_rfl), (good_cons S70 ⟨_, Try.func70, by kernel_rfl, by kernel_rfl⟩ (good_cons S82 ⟨_, Try.func82, by kernel_rfl, by kernel_rfl⟩ good_nil)), mixedOk, ins_nil⟩ Try.func22 rfl E22_eq
noncomputable def i_WhereIs (p_w : GNetwork) (p_message : Int) : Option ((List Int) × Bool) :=
  (i_IsNetwork p_w).bind fun r1 =>
  bif (!r1) then
    some ([], false)
  else
    (loopE (fun (st3 : (List Int) × Int) => (
        bif (decide (st3.2 < (p_w.2.2.2.1.length : Int))) then
          (idx p_w.2.2.2.1 st3.2).bind fun e4 =>
          bif (decide (e4.1 = p_message)) then
            bif decide (List.length st3.1 + List.length [e4.2.2.2.1] ≤ lim) then
              some (.inl ((st3.1 ++ [e4.2.2.2.1]), (w64 (st3.2 + 1))))
            else
              none
          else
            some (.inl (st3.1, (w64 (st3.2 + 1))))
        else
          some (.inr st3.1) : Option (((List Int) × Int) ⊕ ((List Int))))) ([], 0)).bind fun o5 =>
    some (o5, (decide (0 < (o5.length : Int))))
noncomputable def C23 : FnSpec := { ps := [.val TGNetwork, .val (.int .i64)], rs := [.own (.slice (.int .i64)), .val .bool], fn := fun x => i_WhereIs x.1 x.2 }
noncomputable def E23 : Env := { T := [(3, (.int .i64)), (37, (.slice TGParcel)), (39, TGNetwork), (45, (.slice (.int .i64))), (88, TGParcel)], G := [(18, C18)], ro := [2], loops := [(5, { keep := [1, 13, 14], live := [.own 6 [] 200006 (.int .i64) true, .tv 15 (.int .i64)], outs := [(.exit 0, [.own 6 [] 200006 (.int .i64) true])] })], joins := [] }
theorem E23_eq : ∀ x, afun E23 Try.f23 C23.ps C23.rs x = C23.fn x := fun x => by kernel_rfl
theorem S23 : Sound Try.prog 23 C23 := fun_sound (E := E23) ⟨good_T (by kernel_rfl), (good_cons S18 ⟨_, Try.func18, by kernel_rfl, by kernel_rfl⟩ good_nil), mixedOk, ins_nil⟩ Try.func23 rfl E23_eq
noncomputable def s_nwCan (p_w : GNetwork) (p_p : GParcel) (p_tower : Int) (p_time : Int) : Option (Bool) :=
  (s_neLink p_w.1 p_p.2.2.2.1 p_tower).bind fun r1 =>
  (bif (decide (0 ≤ r1)) then
      some (decide (p_p.2.2.2.2.2.1 ≤ p_time))
    else
      some false).bind fun c2 =>
  (bif c2 then
      some (!decide (p_p.2.2.2.1 = p_p.2.2.2.2.1))
    else
      some false).bind fun c3 =>
  (bif c3 then
      (idx p_w.1.2.1 r1).bind fun e4 =>
      (s_fgStart p_w.2.1 r1 p_time e4.2.2.1).bind fun r5 =>
      some (decide (r5 = p_time))
    else
      some false).bind fun c6 =>
  some c6
noncomputable def C102 : FnSpec := { ps := [.val TGNetwork, .val TGParcel, .val (.int .i64), .val (.int .i64)], rs := [.val .bool], fn := fun x => s_nwCan x.1 x.2.1 x.2.2.1 x.2.2.2 }
noncomputable def E102 : Env := { T := [(3, (.int .i64)), (33, (.slice TGLink)), (35, TGNet), (36, (.slice TGLink)), (39, TGNetwork), (88, TGParcel), (109, TGLink)], G := [(77, C77), (78, C78)], ro := [4, 5], loops := [], joins := [] }
theorem E102_eq : ∀ x, afun E102 Try.f102 C102.ps C102.rs x = C102.fn x := fun x => by kernel_rfl
theorem S102 : Sound Try.prog 102 C102 := fun_sound (E := E102) ⟨good_T (by kernel_rfl), (good_cons S77 ⟨_, Try.func77, by kernel_rfl, by kernel_rfl⟩ (good_cons S78 ⟨_, Try.func78, by kernel_rfl, by kernel_rfl⟩ good_nil)), mixedOk, ins_nil⟩ Try.func102 rfl E102_eq
noncomputable def s_neOwn (p_n : GNet) : Option (GNet) :=
  bif decide (List.length p_n.1 ≤ lim) then
    bif decide (List.length p_n.2.1 ≤ lim) then
      some p_n
    else
      none
  else
    none
noncomputable def C130 : FnSpec := { ps := [.val TGNet], rs := [.own TGNet], fn := fun x => s_neOwn x }
noncomputable def E130 : Env := { T := [(32, (.slice TGLink)), (33, (.slice TGLink)), (35, TGNet)], G := [], ro := [1], loops := [], joins := [] }
theorem E130_eq : ∀ x, afun E130 Try.f130 C130.ps C130.rs x = C130.fn x := fun x => by kernel_rfl
theorem S130 : Sound Try.prog 130 C130 := fun_sound (E := E130) ⟨good_T (by kernel_rfl), good_nil, mixedOk, ins_nil⟩ Try.func130 rfl E130_eq
noncomputable def s_nwOwn (p_w : GNetwork) : Option (GNetwork) :=
  (s_neOwn p_w.1).bind fun r1 =>
  bif decide (List.length p_w.2.1 ≤ lim) then
    bif decide (List.length p_w.2.2.2.1 ≤ lim) then
      some ((r1.1, r1.2.1, ()), p_w.2)
    else
      none
  else
    none
noncomputable def C86 : FnSpec := { ps := [.val TGNetwork], rs := [.own TGNetwork], fn := fun x => s_nwOwn x }
noncomputable def E86 : Env := { T := [(3, (.int .i64)), (35, TGNet), (36, (.slice TGLink)), (37, (.slice TGParcel)), (39, TGNetwork)], G := [(130, C130)], ro := [1], loops := [], joins := [] }
theorem E86_eq : ∀ x, afun E86 Try.f86 C86.ps C86.rs x = C86.fn x := fun x => by kernel_rfl
theorem S86 : Sound Try.prog 86 C86 := fun_sound (E := E86) ⟨good_T (by kernel_rfl), (good_cons S130 ⟨_, Try.func130, by kernel_rfl, by kernel_rfl⟩ good_nil), mixedOk, ins_nil⟩ Try.func86 rfl E86_eq
noncomputable def s_nwAccept (p_w : GNetwork) (p_message : Int) (p_from : Int) (p_to : Int) (p_parts : Int) : Option (GNetwork × Bool) :=
  (s_l1In p_message 1 999).bind fun r1 =>
  (bif (!r1) then
      some true
    else
      (s_l1In p_from 0 (w64 ((p_w.1.1.length : Int) - 1))).bind fun r2 =>
      some (!r2)).bind fun c3 =>
  (bif c3 then
      some true
    else
      (s_l1In p_to 0 (w64 ((p_w.1.1.length : Int) - 1))).bind fun r4 =>
      some (!r4)).bind fun c5 =>
  (bif c5 then
      some true
    else
      (s_l1In p_parts 1 9).bind fun r6 =>
      some (!r6)).bind fun c7 =>
  (bif c7 then
      some true
    else
      (s_nwFind p_w p_message 0).bind fun r8 =>
      some (decide (0 ≤ r8))).bind fun c9 =>
  (bif c9 then
      some true
    else
      some (decide (40 < (w64 ((p_w.2.2.2.1.length : Int) + p_parts))))).bind fun c10 =>
  bif c10 then
    some ((([], [], ()), [], 0, [], ()), false)
  else
    (s_nwOwn p_w).bind fun r11 =>
    (loopE (fun (st13 : (List GLink) × (List GLink) × (List GLink) × Int × (List GParcel) × (List GLink) × (List GLink) × (List GLink) × Int × (List GParcel) × Int) => (
        bif (decide (st13.2.2.2.2.2.2.2.2.2.2 < (p_w.2.2.2.1.length : Int))) then
          (idx p_w.2.2.2.1 st13.2.2.2.2.2.2.2.2.2.2).bind fun e14 =>
          bif (decide (e14.1 < p_message)) then
            bif decide (List.length st13.2.2.2.2.2.2.2.2.2.1 + List.length [e14] ≤ lim) then
              some (.inl (st13.1, st13.2.1, st13.2.2.1, st13.2.2.2.1, st13.2.2.2.2.1, st13.2.2.2.2.2.1, st13.2.2.2.2.2.2.1, st13.2.2.2.2.2.2.2.1, st13.2.2.2.2.2.2.2.2.1, (st13.2.2.2.2.2.2.2.2.2.1 ++ [e14]), (w64 (st13.2.2.2.2.2.2.2.2.2.2 + 1))))
            else
              none
          else
            some (.inl (st13.1, st13.2.1, st13.2.2.1, st13.2.2.2.1, st13.2.2.2.2.1, st13.2.2.2.2.2.1, st13.2.2.2.2.2.2.1, st13.2.2.2.2.2.2.2.1, st13.2.2.2.2.2.2.2.2.1, st13.2.2.2.2.2.2.2.2.2.1, (w64 (st13.2.2.2.2.2.2.2.2.2.2 + 1))))
        else
          some (.inr (st13.1, st13.2.1, st13.2.2.1, st13.2.2.2.1, st13.2.2.2.2.1, st13.2.2.2.2.2.1, st13.2.2.2.2.2.2.1, st13.2.2.2.2.2.2.2.1, st13.2.2.2.2.2.2.2.2.1, st13.2.2.2.2.2.2.2.2.2.1)) : Option (((List GLink) × (List GLink) × (List GLink) × Int × (List GParcel) × (List GLink) × (List GLink) × (List GLink) × Int × (List GParcel) × Int) ⊕ (((List GLink) × (List GLink) × (List GLink) × Int × (List GParcel) × (List GLink) × (List GLink) × (List GLink) × Int × (List GParcel)))))) ([], [], [], 0, [], r11.1.1, r11.1.2.1, r11.2.1, r11.2.2.1, [], 0)).bind fun o15 =>
    (loopE (fun (st17 : (List GLink) × (List GLink) × (List GLink) × Int × (List GParcel) × (List GLink) × (List GLink) × (List GLink) × Int × (List GParcel) × Int) => (
        bif (decide (st17.2.2.2.2.2.2.2.2.2.2 < p_parts)) then
          bif decide (List.length st17.2.2.2.2.2.2.2.2.2.1 + List.length [(p_message, st17.2.2.2.2.2.2.2.2.2.2, p_parts, p_from, p_to, p_w.2.2.1, ())] ≤ lim) then
            some (.inl (st17.1, st17.2.1, st17.2.2.1, st17.2.2.2.1, st17.2.2.2.2.1, st17.2.2.2.2.2.1, st17.2.2.2.2.2.2.1, st17.2.2.2.2.2.2.2.1, st17.2.2.2.2.2.2.2.2.1, (st17.2.2.2.2.2.2.2.2.2.1 ++ [(p_message, st17.2.2.2.2.2.2.2.2.2.2, p_parts, p_from, p_to, p_w.2.2.1, ())]), (w64 (st17.2.2.2.2.2.2.2.2.2.2 + 1))))
          else
            none
        else
          some (.inr (st17.1, st17.2.1, st17.2.2.1, st17.2.2.2.1, st17.2.2.2.2.1, st17.2.2.2.2.2.1, st17.2.2.2.2.2.2.1, st17.2.2.2.2.2.2.2.1, st17.2.2.2.2.2.2.2.2.1, st17.2.2.2.2.2.2.2.2.2.1)) : Option (((List GLink) × (List GLink) × (List GLink) × Int × (List GParcel) × (List GLink) × (List GLink) × (List GLink) × Int × (List GParcel) × Int) ⊕ (((List GLink) × (List GLink) × (List GLink) × Int × (List GParcel) × (List GLink) × (List GLink) × (List GLink) × Int × (List GParcel)))))) (o15.1, o15.2.1, o15.2.2.1, o15.2.2.2.1, o15.2.2.2.2.1, o15.2.2.2.2.2.1, o15.2.2.2.2.2.2.1, o15.2.2.2.2.2.2.2.1, o15.2.2.2.2.2.2.2.2.1, o15.2.2.2.2.2.2.2.2.2, 0)).bind fun o18 =>
    (loopE (fun (st20 : (List GLink) × (List GLink) × (List GLink) × Int × (List GParcel) × (List GLink) × (List GLink) × (List GLink) × Int × (List GParcel) × Int) => (
        bif (decide (st20.2.2.2.2.2.2.2.2.2.2 < (p_w.2.2.2.1.length : Int))) then
          (idx p_w.2.2.2.1 st20.2.2.2.2.2.2.2.2.2.2).bind fun e21 =>
          bif (decide (p_message < e21.1)) then
            bif decide (List.length st20.2.2.2.2.2.2.2.2.2.1 + List.length [e21] ≤ lim) then
              some (.inl (st20.1, st20.2.1, st20.2.2.1, st20.2.2.2.1, st20.2.2.2.2.1, st20.2.2.2.2.2.1, st20.2.2.2.2.2.2.1, st20.2.2.2.2.2.2.2.1, st20.2.2.2.2.2.2.2.2.1, (st20.2.2.2.2.2.2.2.2.2.1 ++ [e21]), (w64 (st20.2.2.2.2.2.2.2.2.2.2 + 1))))
            else
              none
          else
            some (.inl (st20.1, st20.2.1, st20.2.2.1, st20.2.2.2.1, st20.2.2.2.2.1, st20.2.2.2.2.2.1, st20.2.2.2.2.2.2.1, st20.2.2.2.2.2.2.2.1, st20.2.2.2.2.2.2.2.2.1, st20.2.2.2.2.2.2.2.2.2.1, (w64 (st20.2.2.2.2.2.2.2.2.2.2 + 1))))
        else
          some (.inr (st20.1, st20.2.1, st20.2.2.1, st20.2.2.2.1, st20.2.2.2.2.1, st20.2.2.2.2.2.1, st20.2.2.2.2.2.2.1, st20.2.2.2.2.2.2.2.1, st20.2.2.2.2.2.2.2.2.1, st20.2.2.2.2.2.2.2.2.2.1)) : Option (((List GLink) × (List GLink) × (List GLink) × Int × (List GParcel) × (List GLink) × (List GLink) × (List GLink) × Int × (List GParcel) × Int) ⊕ (((List GLink) × (List GLink) × (List GLink) × Int × (List GParcel) × (List GLink) × (List GLink) × (List GLink) × Int × (List GParcel)))))) (o18.1, o18.2.1, o18.2.2.1, o18.2.2.2.1, o18.2.2.2.2.1, o18.2.2.2.2.2.1, o18.2.2.2.2.2.2.1, o18.2.2.2.2.2.2.2.1, o18.2.2.2.2.2.2.2.2.1, o18.2.2.2.2.2.2.2.2.2, 0)).bind fun o22 =>
    some (((o22.2.2.2.2.2.1, o22.2.2.2.2.2.2.1, ()), o22.2.2.2.2.2.2.2.1, o22.2.2.2.2.2.2.2.2.1, o22.2.2.2.2.2.2.2.2.2, ()), true)
noncomputable def C143 : FnSpec := { ps := [.val TGNetwork, .val (.int .i64), .val (.int .i64), .val (.int .i64), .val (.int .i64)], rs := [.own TGNetwork, .val .bool], fn := fun x => s_nwAccept x.1 x.2.1 x.2.2.1 x.2.2.2.1 x.2.2.2.2 }
noncomputable def E143 : Env := { T := [(3, (.int .i64)), (32, (.slice TGLink)), (35, TGNet), (37, (.slice TGParcel)), (39, TGNetwork), (88, TGParcel)], G := [(82, C82), (86, C86), (127, C127)], ro := [5], loops := [(6, { keep := [1, 2, 3, 4, 5, 65, 66], live := [.bx 10 160 [.own 300160 TGLink true, .own 300161 TGLink true, .own 300162 TGLink true, .pv (.int .i64), .own 300164 TGParcel true], .bx 12 192 [.own 992 TGLink true, .own 993 TGLink true, .own 994 TGLink true, .pv (.int .i64), .own 300196 TGParcel true], .tv 67 (.int .i64)], outs := [(.exit 0, [.bx 10 160 [.own 300160 TGLink true, .own 300161 TGLink true, .own 300162 TGLink true, .pv (.int .i64), .own 300164 TGParcel true], .bx 12 192 [.own 992 TGLink true, .own 993 TGLink true, .own 994 TGLink true, .pv (.int .i64), .own 300196 TGParcel true]])] }), (12, { keep := [1, 2, 3, 4, 5], live := [.bx 10 160 [.own 300160 TGLink true, .own 300161 TGLink true, .own 300162 TGLink true, .pv (.int .i64), .own 300164 TGParcel true], .bx 12 192 [.own 992 TGLink true, .own 993 TGLink true, .own 994 TGLink true, .pv (.int .i64), .own 300196 TGParcel true], .tv 15 (.int .i64)], outs := [(.exit 2, [.bx 10 160 [.own 300160 TGLink true, .own 300161 TGLink true, .own 300162 TGLink true, .pv (.int .i64), .own 300164 TGParcel true], .bx 12 192 [.own 992 TGLink true, .own 993 TGLink true, .own 994 TGLink true, .pv (.int .i64), .own 300196 TGParcel true]])] }), (16, { keep := [1, 101, 102], live := [.bx 10 160 [.own 300160 TGLink true, .own 300161 TGLink true, .own 300162 TGLink true, .pv (.int .i64), .own 300164 TGParcel true], .bx 12 192 [.own 992 TGLink true, .own 993 TGLink true, .own 994 TGLink true, .pv (.int .i64), .own 300196 TGParcel true], .tv 103 (.int .i64)], outs := [(.exit 4, [.bx 10 160 [.own 300160 TGLink true, .own 300161 TGLink true, .own 300162 TGLink true, .pv (.int .i64), .own 300164 TGParcel true], .bx 12 192 [.own 992 TGLink true, .own 993 TGLink true, .own 994 TGLink true, .pv (.int .i64), .own 300196 TGParcel true]])] })], joins := [] }
theorem E143_eq : ∀ x, afun E143 Try.f143 C143.ps C143.rs x = C143.fn x := fun x => by kernel_rfl
theorem S143 : Sound Try.prog 143 C143 := fun_sound (E := E143) ⟨good_T (by kernel_rfl), (good_cons S82 ⟨_, Try.func82, by kernel_rfl, by kernel_rfl⟩ (good_cons S86 ⟨_, Try.func86, by kernel_rfl, by kernel_rfl⟩ (good_cons S127 ⟨_, Try.func127, by kernel_rfl, by kernel_rfl⟩ good_nil))), mixedOk, ins_nil⟩ Try.func143 rfl E143_eq
noncomputable def s_nwPass (p_w : GNetwork) (p_message : Int) (p_part : Int) (p_tower : Int) : Option (GNetwork × Bool) :=
  (s_nwFind p_w p_message p_part).bind fun r1 =>
  (bif (decide (r1 < 0)) then
      some true
    else
      (s_l1In p_tower 0 (w64 ((p_w.1.1.length : Int) - 1))).bind fun r2 =>
      some (!r2)).bind fun c3 =>
  (bif c3 then
      some true
    else
      (idx p_w.2.2.2.1 r1).bind fun e4 =>
      (s_nwCan p_w e4 p_tower p_w.2.2.1).bind fun r5 =>
      some (!r5)).bind fun c6 =>
  bif c6 then
    some ((([], [], ()), [], 0, [], ()), false)
  else
    (s_nwOwn p_w).bind fun r7 =>
    bif decide (0 ≤ r1) && decide (r1 < (r7.2.2.2.1.length : Int)) then
      (r7.2.2.2.1[(Int.toNat r1)]?).bind fun e8 =>
      (s_neLink p_w.1 e8.2.2.2.1 p_tower).bind fun r9 =>
      (idx p_w.1.2.1 r9).bind fun e10 =>
      (r7.2.2.2.1[(Int.toNat r1)]?).bind fun e11 =>
      ((r7.2.2.2.1.set (Int.toNat r1) (e11.1, e11.2.1, e11.2.2.1, e11.2.2.2.1, e11.2.2.2.2.1, (w64 (p_w.2.2.1 + e10.2.2.1)), ()))[(Int.toNat r1)]?).bind fun e12 =>
      some ((r7.1, r7.2.1, r7.2.2.1, ((r7.2.2.2.1.set (Int.toNat r1) (e11.1, e11.2.1, e11.2.2.1, e11.2.2.2.1, e11.2.2.2.2.1, (w64 (p_w.2.2.1 + e10.2.2.1)), ())).set (Int.toNat r1) (e12.1, e12.2.1, e12.2.2.1, p_tower, e12.2.2.2.2)), ()), true)
    else
      none
noncomputable def C144 : FnSpec := { ps := [.val TGNetwork, .val (.int .i64), .val (.int .i64), .val (.int .i64)], rs := [.own TGNetwork, .val .bool], fn := fun x => s_nwPass x.1 x.2.1 x.2.2.1 x.2.2.2 }
noncomputable def E144 : Env := { T := [(3, (.int .i64)), (32, (.slice TGLink)), (33, (.slice TGLink)), (35, TGNet), (37, (.slice TGParcel)), (39, TGNetwork), (88, TGParcel), (109, TGLink)], G := [(77, C77), (82, C82), (86, C86), (102, C102), (127, C127)], ro := [4], loops := [], joins := [] }
theorem E144_eq : ∀ x, afun E144 Try.f144 C144.ps C144.rs x = C144.fn x := fun x => by kernel_rfl
theorem S144 : Sound Try.prog 144 C144 := fun_sound (E := E144) ⟨good_T (by kernel_rfl), (good_cons S77 ⟨_, Try.func77, by kernel_rfl, by kernel_rfl⟩ (good_cons S82 ⟨_, Try.func82, by kernel_rfl, by kernel_rfl⟩ (good_cons S86 ⟨_, Try.func86, by kernel_rfl, by kernel_rfl⟩ (good_cons S102 ⟨_, Try.func102, by kernel_rfl, by kernel_rfl⟩ (good_cons S127 ⟨_, Try.func127, by kernel_rfl, by kernel_rfl⟩ good_nil))))), mixedOk, ins_nil⟩ Try.func144 rfl E144_eq
noncomputable def s_nwAct (p_w : GNetwork) (p_a : GAct) : Option (GNetwork × Bool) :=
  bif (decide (p_a.1 = 1)) then
    (s_nwAccept p_w p_a.2.1 p_a.2.2.1 p_a.2.2.2.1 p_a.2.2.2.2.1).bind fun r1 =>
    some (r1.1, r1.2)
  else
    bif (decide (p_a.1 = 2)) then
      (s_nwPass p_w p_a.2.1 p_a.2.2.1 p_a.2.2.2.1).bind fun r2 =>
      some (r2.1, r2.2)
    else
      bif (decide (p_a.1 = 3)) then
        (s_l1In p_a.2.2.2.2.1 1 1000).bind fun r3 =>
        (bif r3 then
            (s_fgTime (w64 (p_w.2.2.1 + p_a.2.2.2.2.1))).bind fun r4 =>
            some r4
          else
            some false).bind fun c5 =>
        bif c5 then
          (s_nwOwn p_w).bind fun r6 =>
          some ((r6.1, r6.2.1, (w64 (r6.2.2.1 + p_a.2.2.2.2.1)), r6.2.2.2), true)
        else
          some ((([], [], ()), [], 0, [], ()), false)
      else
        some ((([], [], ()), [], 0, [], ()), false)
noncomputable def C105 : FnSpec := { ps := [.val TGNetwork, .val TGAct], rs := [.own TGNetwork, .val .bool], fn := fun x => s_nwAct x.1 x.2 }
noncomputable def E105 : Env := { T := [(3, (.int .i64)), (39, TGNetwork), (135, TGAct)], G := [(80, C80), (86, C86), (127, C127), (143, C143), (144, C144)], ro := [2, 3], loops := [], joins := [] }
theorem E105_eq : ∀ x, afun E105 Try.f105 C105.ps C105.rs x = C105.fn x := fun x => by kernel_rfl
theorem S105 : Sound Try.prog 105 C105 := fun_sound (E := E105) ⟨good_T (by kernel_rfl), (good_cons S80 ⟨_, Try.func80, by kernel_rfl, by kernel_rfl⟩ (good_cons S86 ⟨_, Try.func86, by kernel_rfl, by kernel_rfl⟩ (good_cons S127 ⟨_, Try.func127, by kernel_rfl, by kernel_rfl⟩ (good_cons S143 ⟨_, Try.func143, by kernel_rfl, by kernel_rfl⟩ (good_cons S144 ⟨_, Try.func144, by kernel_rfl, by kernel_rfl⟩ good_nil))))), mixedOk, ins_nil⟩ Try.func105 rfl E105_eq
noncomputable def s_nwAsked (p_w : GNetwork) (p_a : GAct) : Option (GNetwork × Bool) :=
  (s_nwGood p_w).bind fun r1 =>
  bif (!r1) then
    some ((([], [], ()), [], 0, [], ()), false)
  else
    (s_nwAct p_w p_a).bind fun r2 =>
    some (r2.1, r2.2)
noncomputable def C103 : FnSpec := { ps := [.val TGNetwork, .val TGAct], rs := [.own TGNetwork, .val .bool], fn := fun x => s_nwAsked x.1 x.2 }
noncomputable def E103 : Env := { T := [(39, TGNetwork), (135, TGAct)], G := [(70, C70), (105, C105)], ro := [2, 3], loops := [], joins := [] }
theorem E103_eq : ∀ x, afun E103 Try.f103 C103.ps C103.rs x = C103.fn x := fun x => by kernel_rfl
theorem S103 : Sound Try.prog 103 C103 := fun_sound (E := E103) ⟨good_T (by kernel_rfl), (good_cons S70 ⟨_, Try.func70, by kernel_rfl, by kernel_rfl⟩ (good_cons S105 ⟨_, Try.func105, by kernel_rfl, by kernel_rfl⟩ good_nil)), mixedOk, ins_nil⟩ Try.func103 rfl E103_eq
noncomputable def i_actOn_2 (p_x : GParcel) (p_a1 : GAct) : Option (Bool) :=
  some (decide (p_x.1 = p_a1.2.1))
noncomputable def C141 : FnSpec := { ps := [.val TGParcel, .rp TGAct], rs := [.val .bool], fn := fun x => i_actOn_2 x.1 x.2 }
noncomputable def E141 : Env := { T := [(3, (.int .i64)), (88, TGParcel), (135, TGAct)], G := [], ro := [2], loops := [], joins := [] }
theorem E141_eq : ∀ x, afun E141 Try.f141 C141.ps C141.rs x = C141.fn x := fun x => by kernel_rfl
theorem S141 : Sound Try.prog 141 C141 := fun_sound (E := E141) ⟨good_T (by kernel_rfl), good_nil, mixedOk, ins_nil⟩ Try.func141 rfl E141_eq
noncomputable def slices_IndexFunc_Parcel_141 (p_s : List GParcel) (p_f : GAct × Unit) : Option (Int) :=
  (loopE (fun (st2 : Int) => (
      bif (decide (st2 < (p_s.length : Int))) then
        (idx p_s st2).bind fun e3 =>
        (i_actOn_2 e3 p_f.1).bind fun r4 =>
        bif r4 then
          some (.inr (.inr st2))
        else
          some (.inl (w64 (st2 + 1)))
      else
        some (.inr (.inl ())) : Option ((Int) ⊕ (Unit ⊕ Int)))) 0).bind fun o5 =>
  match o5 with
  | .inl _ =>
    some (-1)
  | .inr y7 =>
    some y7
noncomputable def C139_141 : FnSpec := { ps := [.val (.slice TGParcel), .fn 141 [TGAct]], rs := [.val (.int .i64)], fn := fun x => slices_IndexFunc_Parcel_141 x.1 x.2 }
noncomputable def E139_141 : Env := { T := [(37, (.slice TGParcel)), (88, TGParcel)], G := [(141, C141)], ro := [], loops := [(2, { keep := [0, 1, 7], live := [.tv 8 (.int .i64)], outs := [(.exit 0, []), (.ret, [.tv 4 (.int .i64)])] })], joins := [] }
theorem E139_141_eq : ∀ x, afun E139_141 Try.f139 C139_141.ps C139_141.rs x = C139_141.fn x := fun x => by kernel_rfl
theorem S139_141 : Sound Try.prog 139 C139_141 := fun_sound (E := E139_141) ⟨good_T (by kernel_rfl), (good_cons S141 ⟨_, Try.func141, by kernel_rfl, by kernel_rfl⟩ good_nil), mixedOk, ins_nil⟩ Try.func139 rfl E139_141_eq
noncomputable def slices_ContainsFunc_Parcel_141 (p_s : List GParcel) (p_f : GAct × Unit) : Option (Bool) :=
  (slices_IndexFunc_Parcel_141 p_s p_f).bind fun r1 =>
  some (decide (0 ≤ r1))
noncomputable def C100_141 : FnSpec := { ps := [.val (.slice TGParcel), .fn 141 [TGAct]], rs := [.val .bool], fn := fun x => slices_ContainsFunc_Parcel_141 x.1 x.2 }
noncomputable def E100_141 : Env := { T := [], G := [(139, C139_141)], ro := [], loops := [], joins := [] }
theorem E100_141_eq : ∀ x, afun E100_141 Try.f100 C100_141.ps C100_141.rs x = C100_141.fn x := fun x => by kernel_rfl
theorem S100_141 : Sound Try.prog 100 C100_141 := fun_sound (E := E100_141) ⟨good_T (by kernel_rfl), (good_cons S139_141 ⟨_, Try.func139, by kernel_rfl, by kernel_rfl⟩ good_nil), mixedOk, ins_nil⟩ Try.func100 rfl E100_141_eq
noncomputable def slices_Clone_Tower (p_s : List GLink) : Option ((List GLink)) :=
  bif List.isEmpty p_s then
    bothSame (
      bif true then
        some []
      else
        bif decide (List.length p_s ≤ lim) then
          some p_s
        else
          none)
    (
      bif false then
        some []
      else
        bif decide (List.length p_s ≤ lim) then
          some p_s
        else
          none)
  else
    bif false then
      some []
    else
      bif decide (List.length p_s ≤ lim) then
        some p_s
      else
        none
noncomputable def C133 : FnSpec := { ps := [.val (.slice TGLink)], rs := [.own (.slice TGLink)], fn := fun x => slices_Clone_Tower x }
noncomputable def E133 : Env := { T := [(32, (.slice TGLink))], G := [], ro := [], loops := [], joins := [] }
theorem E133_eq : ∀ x, afun E133 Try.f133 C133.ps C133.rs x = C133.fn x := fun x => by kernel_rfl
theorem S133 : Sound Try.prog 133 C133 := fun_sound (E := E133) ⟨good_T (by kernel_rfl), good_nil, mixedOk, ins_nil⟩ Try.func133 rfl E133_eq
noncomputable def slices_Clone_Link (p_s : List GLink) : Option ((List GLink)) :=
  bif List.isEmpty p_s then
    bothSame (
      bif true then
        some []
      else
        bif decide (List.length p_s ≤ lim) then
          some p_s
        else
          none)
    (
      bif false then
        some []
      else
        bif decide (List.length p_s ≤ lim) then
          some p_s
        else
          none)
  else
    bif false then
      some []
    else
      bif decide (List.length p_s ≤ lim) then
        some p_s
      else
        none
noncomputable def C134 : FnSpec := { ps := [.val (.slice TGLink)], rs := [.own (.slice TGLink)], fn := fun x => slices_Clone_Link x }
noncomputable def E134 : Env := { T := [(33, (.slice TGLink))], G := [], ro := [], loops := [], joins := [] }
theorem E134_eq : ∀ x, afun E134 Try.f134 C134.ps C134.rs x = C134.fn x := fun x => by kernel_rfl
theorem S134 : Sound Try.prog 134 C134 := fun_sound (E := E134) ⟨good_T (by kernel_rfl), good_nil, mixedOk, ins_nil⟩ Try.func134 rfl E134_eq
noncomputable def i_cloneNet (p_n : GNet) : Option (GNet) :=
  (slices_Clone_Tower p_n.1).bind fun r1 =>
  (slices_Clone_Link p_n.2.1).bind fun r2 =>
  some (r1, r2, ())
noncomputable def C90 : FnSpec := { ps := [.val TGNet], rs := [.own TGNet], fn := fun x => i_cloneNet x }
noncomputable def E90 : Env := { T := [(32, (.slice TGLink)), (33, (.slice TGLink)), (35, TGNet)], G := [(133, C133), (134, C134)], ro := [1], loops := [], joins := [] }
theorem E90_eq : ∀ x, afun E90 Try.f90 C90.ps C90.rs x = C90.fn x := fun x => by kernel_rfl
theorem S90 : Sound Try.prog 90 C90 := fun_sound (E := E90) ⟨good_T (by kernel_rfl), (good_cons S133 ⟨_, Try.func133, by kernel_rfl, by kernel_rfl⟩ (good_cons S134 ⟨_, Try.func134, by kernel_rfl, by kernel_rfl⟩ good_nil)), mixedOk, ins_nil⟩ Try.func90 rfl E90_eq
noncomputable def slices_Clone_Fog (p_s : List GLink) : Option ((List GLink)) :=
  bif List.isEmpty p_s then
    bothSame (
      bif true then
        some []
      else
        bif decide (List.length p_s ≤ lim) then
          some p_s
        else
          none)
    (
      bif false then
        some []
      else
        bif decide (List.length p_s ≤ lim) then
          some p_s
        else
          none)
  else
    bif false then
      some []
    else
      bif decide (List.length p_s ≤ lim) then
        some p_s
      else
        none
noncomputable def C91 : FnSpec := { ps := [.val (.slice TGLink)], rs := [.own (.slice TGLink)], fn := fun x => slices_Clone_Fog x }
noncomputable def E91 : Env := { T := [(36, (.slice TGLink))], G := [], ro := [], loops := [], joins := [] }
theorem E91_eq : ∀ x, afun E91 Try.f91 C91.ps C91.rs x = C91.fn x := fun x => by kernel_rfl
theorem S91 : Sound Try.prog 91 C91 := fun_sound (E := E91) ⟨good_T (by kernel_rfl), good_nil, mixedOk, ins_nil⟩ Try.func91 rfl E91_eq
noncomputable def slices_Clone_Parcel (p_s : List GParcel) : Option ((List GParcel)) :=
  bif List.isEmpty p_s then
    bothSame (
      bif true then
        some []
      else
        bif decide (List.length p_s ≤ lim) then
          some p_s
        else
          none)
    (
      bif false then
        some []
      else
        bif decide (List.length p_s ≤ lim) then
          some p_s
        else
          none)
  else
    bif false then
      some []
    else
      bif decide (List.length p_s ≤ lim) then
        some p_s
      else
        none
noncomputable def C145 : FnSpec := { ps := [.val (.slice TGParcel)], rs := [.own (.slice TGParcel)], fn := fun x => slices_Clone_Parcel x }
noncomputable def E145 : Env := { T := [(37, (.slice TGParcel))], G := [], ro := [], loops := [], joins := [] }
theorem E145_eq : ∀ x, afun E145 Try.f145 C145.ps C145.rs x = C145.fn x := fun x => by kernel_rfl
theorem S145 : Sound Try.prog 145 C145 := fun_sound (E := E145) ⟨good_T (by kernel_rfl), good_nil, mixedOk, ins_nil⟩ Try.func145 rfl E145_eq
noncomputable def i_cloneNetwork (p_w : GNetwork) : Option (GNetwork) :=
  (i_cloneNet p_w.1).bind fun r1 =>
  (slices_Clone_Fog p_w.2.1).bind fun r2 =>
  (slices_Clone_Parcel p_w.2.2.2.1).bind fun r3 =>
  some (r1, r2, p_w.2.2.1, r3, ())
noncomputable def C107 : FnSpec := { ps := [.val TGNetwork], rs := [.own TGNetwork], fn := fun x => i_cloneNetwork x }
noncomputable def E107 : Env := { T := [(3, (.int .i64)), (35, TGNet), (36, (.slice TGLink)), (37, (.slice TGParcel)), (39, TGNetwork)], G := [(90, C90), (91, C91), (145, C145)], ro := [1], loops := [], joins := [] }
theorem E107_eq : ∀ x, afun E107 Try.f107 C107.ps C107.rs x = C107.fn x := fun x => by kernel_rfl
theorem S107 : Sound Try.prog 107 C107 := fun_sound (E := E107) ⟨good_T (by kernel_rfl), (good_cons S90 ⟨_, Try.func90, by kernel_rfl, by kernel_rfl⟩ (good_cons S91 ⟨_, Try.func91, by kernel_rfl, by kernel_rfl⟩ (good_cons S145 ⟨_, Try.func145, by kernel_rfl, by kernel_rfl⟩ good_nil))), mixedOk, ins_nil⟩ Try.func107 rfl E107_eq
noncomputable def i_actOn_1 (p_x : GParcel) (p_a1 : GAct) : Option (Bool) :=
  (bif (decide (p_x.1 = p_a1.2.1)) then
      some (decide (p_x.2.1 = p_a1.2.2.1))
    else
      some false).bind fun c1 =>
  some c1
noncomputable def C140 : FnSpec := { ps := [.val TGParcel, .rp TGAct], rs := [.val .bool], fn := fun x => i_actOn_1 x.1 x.2 }
noncomputable def E140 : Env := { T := [(3, (.int .i64)), (88, TGParcel), (135, TGAct)], G := [], ro := [2], loops := [], joins := [] }
theorem E140_eq : ∀ x, afun E140 Try.f140 C140.ps C140.rs x = C140.fn x := fun x => by kernel_rfl
theorem S140 : Sound Try.prog 140 C140 := fun_sound (E := E140) ⟨good_T (by kernel_rfl), good_nil, mixedOk, ins_nil⟩ Try.func140 rfl E140_eq
noncomputable def slices_IndexFunc_Parcel_140 (p_s : List GParcel) (p_f : GAct × Unit) : Option (Int) :=
  (loopE (fun (st2 : Int) => (
      bif (decide (st2 < (p_s.length : Int))) then
        (idx p_s st2).bind fun e3 =>
        (i_actOn_1 e3 p_f.1).bind fun r4 =>
        bif r4 then
          some (.inr (.inr st2))
        else
          some (.inl (w64 (st2 + 1)))
      else
        some (.inr (.inl ())) : Option ((Int) ⊕ (Unit ⊕ Int)))) 0).bind fun o5 =>
  match o5 with
  | .inl _ =>
    some (-1)
  | .inr y7 =>
    some y7
noncomputable def C139_140 : FnSpec := { ps := [.val (.slice TGParcel), .fn 140 [TGAct]], rs := [.val (.int .i64)], fn := fun x => slices_IndexFunc_Parcel_140 x.1 x.2 }
noncomputable def E139_140 : Env := { T := [(37, (.slice TGParcel)), (88, TGParcel)], G := [(140, C140)], ro := [], loops := [(2, { keep := [0, 1, 7], live := [.tv 8 (.int .i64)], outs := [(.exit 0, []), (.ret, [.tv 4 (.int .i64)])] })], joins := [] }
theorem E139_140_eq : ∀ x, afun E139_140 Try.f139 C139_140.ps C139_140.rs x = C139_140.fn x := fun x => by kernel_rfl
theorem S139_140 : Sound Try.prog 139 C139_140 := fun_sound (E := E139_140) ⟨good_T (by kernel_rfl), (good_cons S140 ⟨_, Try.func140, by kernel_rfl, by kernel_rfl⟩ good_nil), mixedOk, ins_nil⟩ Try.func139 rfl E139_140_eq
noncomputable def i_actOn (p_w : GNetwork) (p_a : GAct) : Option (GNetwork × Bool) :=
  (i_cloneNetwork p_w).bind fun r1 =>
  (slices_IndexFunc_Parcel_140 r1.2.2.2.1 (p_a, ())).bind fun r2 =>
  bif (decide (p_a.1 = 1)) then
    (slices_ContainsFunc_Parcel_141 r1.2.2.2.1 (p_a, ())).bind fun r3 =>
    (bif r3 then
        some true
      else
        (i_within p_a.2.2.2.2.1 1 9).bind fun r4 =>
        some (!r4)).bind fun c5 =>
    bif c5 then
      some ((([], [], ()), [], 0, [], ()), false)
    else
      (loopE (fun (st7 : (List GLink) × (List GLink) × (List GLink) × Int × (List GParcel) × (List GLink) × (List GLink) × (List GLink) × Int × (List GParcel) × Int) => (
          (bif (decide (st7.2.2.2.2.2.2.2.2.2.2 < (st7.2.2.2.2.2.2.2.2.2.1.length : Int))) then
              bif decide (0 ≤ st7.2.2.2.2.2.2.2.2.2.2) && decide (st7.2.2.2.2.2.2.2.2.2.2 < (st7.2.2.2.2.2.2.2.2.2.1.length : Int)) then
                (st7.2.2.2.2.2.2.2.2.2.1[(Int.toNat st7.2.2.2.2.2.2.2.2.2.2)]?).bind fun e8 =>
                some (decide (e8.1 < p_a.2.1))
              else
                none
            else
              some false).bind fun c9 =>
          bif c9 then
            some (.inl (st7.1, st7.2.1, st7.2.2.1, st7.2.2.2.1, st7.2.2.2.2.1, st7.2.2.2.2.2.1, st7.2.2.2.2.2.2.1, st7.2.2.2.2.2.2.2.1, st7.2.2.2.2.2.2.2.2.1, st7.2.2.2.2.2.2.2.2.2.1, (w64 (st7.2.2.2.2.2.2.2.2.2.2 + 1))))
          else
            some (.inr (st7.1, st7.2.1, st7.2.2.1, st7.2.2.2.1, st7.2.2.2.2.1, st7.2.2.2.2.2.1, st7.2.2.2.2.2.2.1, st7.2.2.2.2.2.2.2.1, st7.2.2.2.2.2.2.2.2.1, st7.2.2.2.2.2.2.2.2.2.1, st7.2.2.2.2.2.2.2.2.2.2)) : Option (((List GLink) × (List GLink) × (List GLink) × Int × (List GParcel) × (List GLink) × (List GLink) × (List GLink) × Int × (List GParcel) × Int) ⊕ (((List GLink) × (List GLink) × (List GLink) × Int × (List GParcel) × (List GLink) × (List GLink) × (List GLink) × Int × (List GParcel) × Int))))) ([], [], [], 0, [], r1.1.1, r1.1.2.1, r1.2.1, r1.2.2.1, r1.2.2.2.1, 0)).bind fun o10 =>
      (loopE (fun (st12 : (List GLink) × (List GLink) × (List GLink) × Int × (List GParcel) × (List GLink) × (List GLink) × (List GLink) × Int × (List GParcel) × Int) => (
          bif (decide (st12.2.2.2.2.2.2.2.2.2.2 < p_a.2.2.2.2.1)) then
            bif decide (0 ≤ (w64 (o10.2.2.2.2.2.2.2.2.2.2 + st12.2.2.2.2.2.2.2.2.2.2))) && decide ((w64 (o10.2.2.2.2.2.2.2.2.2.2 + st12.2.2.2.2.2.2.2.2.2.2)) ≤ (st12.2.2.2.2.2.2.2.2.2.1.length : Int)) && decide (List.length st12.2.2.2.2.2.2.2.2.2.1 ≤ 999999) then
              some (.inl (st12.1, st12.2.1, st12.2.2.1, st12.2.2.2.1, st12.2.2.2.2.1, st12.2.2.2.2.2.1, st12.2.2.2.2.2.2.1, st12.2.2.2.2.2.2.2.1, st12.2.2.2.2.2.2.2.2.1, (insV st12.2.2.2.2.2.2.2.2.2.1 (w64 (o10.2.2.2.2.2.2.2.2.2.2 + st12.2.2.2.2.2.2.2.2.2.2)) (p_a.2.1, st12.2.2.2.2.2.2.2.2.2.2, p_a.2.2.2.2.1, p_a.2.2.1, p_a.2.2.2.1, p_w.2.2.1, ())), (w64 (st12.2.2.2.2.2.2.2.2.2.2 + 1))))
            else
              none
          else
            some (.inr (st12.1, st12.2.1, st12.2.2.1, st12.2.2.2.1, st12.2.2.2.2.1, st12.2.2.2.2.2.1, st12.2.2.2.2.2.2.1, st12.2.2.2.2.2.2.2.1, st12.2.2.2.2.2.2.2.2.1, st12.2.2.2.2.2.2.2.2.2.1)) : Option (((List GLink) × (List GLink) × (List GLink) × Int × (List GParcel) × (List GLink) × (List GLink) × (List GLink) × Int × (List GParcel) × Int) ⊕ (((List GLink) × (List GLink) × (List GLink) × Int × (List GParcel) × (List GLink) × (List GLink) × (List GLink) × Int × (List GParcel)))))) (o10.1, o10.2.1, o10.2.2.1, o10.2.2.2.1, o10.2.2.2.2.1, o10.2.2.2.2.2.1, o10.2.2.2.2.2.2.1, o10.2.2.2.2.2.2.2.1, o10.2.2.2.2.2.2.2.2.1, o10.2.2.2.2.2.2.2.2.2.1, 0)).bind fun o13 =>
      (i_IsNetwork ((o13.2.2.2.2.2.1, o13.2.2.2.2.2.2.1, ()), o13.2.2.2.2.2.2.2.1, o13.2.2.2.2.2.2.2.2.1, o13.2.2.2.2.2.2.2.2.2, ())).bind fun r14 =>
      bif (!r14) then
        some ((([], [], ()), [], 0, [], ()), false)
      else
        some (((o13.2.2.2.2.2.1, o13.2.2.2.2.2.2.1, ()), o13.2.2.2.2.2.2.2.1, o13.2.2.2.2.2.2.2.2.1, o13.2.2.2.2.2.2.2.2.2, ()), true)
  else
    bif (decide (p_a.1 = 2)) then
      bif (decide (r2 < 0)) then
        some ((([], [], ()), [], 0, [], ()), false)
      else
        bif decide (0 ≤ r2) && decide (r2 < (r1.2.2.2.1.length : Int)) then
          (r1.2.2.2.1[(Int.toNat r2)]?).bind fun e15 =>
          (i_passStart p_w e15 p_a.2.2.2.1).bind fun r16 =>
          (bif (!r16.2) then
              some true
            else
              some (!decide (r16.1 = p_w.2.2.1))).bind fun c17 =>
          bif c17 then
            some ((([], [], ()), [], 0, [], ()), false)
          else
            (r1.2.2.2.1[(Int.toNat r2)]?).bind fun e18 =>
            (i_linkIndex p_w.1 e18.2.2.2.1 p_a.2.2.2.1).bind fun r19 =>
            (idx p_w.1.2.1 r19).bind fun e20 =>
            (r1.2.2.2.1[(Int.toNat r2)]?).bind fun e21 =>
            ((r1.2.2.2.1.set (Int.toNat r2) (e21.1, e21.2.1, e21.2.2.1, e21.2.2.2.1, e21.2.2.2.2.1, (w64 (p_w.2.2.1 + e20.2.2.1)), ()))[(Int.toNat r2)]?).bind fun e22 =>
            (i_IsNetwork (r1.1, r1.2.1, r1.2.2.1, ((r1.2.2.2.1.set (Int.toNat r2) (e21.1, e21.2.1, e21.2.2.1, e21.2.2.2.1, e21.2.2.2.2.1, (w64 (p_w.2.2.1 + e20.2.2.1)), ())).set (Int.toNat r2) (e22.1, e22.2.1, e22.2.2.1, p_a.2.2.2.1, e22.2.2.2.2)), ())).bind fun r23 =>
            bif (!r23) then
              some ((([], [], ()), [], 0, [], ()), false)
            else
              some ((r1.1, r1.2.1, r1.2.2.1, ((r1.2.2.2.1.set (Int.toNat r2) (e21.1, e21.2.1, e21.2.2.1, e21.2.2.2.1, e21.2.2.2.2.1, (w64 (p_w.2.2.1 + e20.2.2.1)), ())).set (Int.toNat r2) (e22.1, e22.2.1, e22.2.2.1, p_a.2.2.2.1, e22.2.2.2.2)), ()), true)
        else
          none
    else
      bif (decide (p_a.1 = 3)) then
        (i_within p_a.2.2.2.2.1 1 1000).bind fun r24 =>
        (bif (!r24) then
            some true
          else
            some (decide (10000 < (w64 (r1.2.2.1 + p_a.2.2.2.2.1))))).bind fun c25 =>
        bif c25 then
          some ((([], [], ()), [], 0, [], ()), false)
        else
          (i_IsNetwork (r1.1, r1.2.1, (w64 (r1.2.2.1 + p_a.2.2.2.2.1)), r1.2.2.2)).bind fun r26 =>
          bif (!r26) then
            some ((([], [], ()), [], 0, [], ()), false)
          else
            some ((r1.1, r1.2.1, (w64 (r1.2.2.1 + p_a.2.2.2.2.1)), r1.2.2.2), true)
      else
        some ((([], [], ()), [], 0, [], ()), false)
noncomputable def C104 : FnSpec := { ps := [.val TGNetwork, .val TGAct], rs := [.own TGNetwork, .val .bool], fn := fun x => i_actOn x.1 x.2 }
noncomputable def E104 : Env := { T := [(3, (.int .i64)), (33, (.slice TGLink)), (35, TGNet), (37, (.slice TGParcel)), (39, TGNetwork), (88, TGParcel), (109, TGLink), (135, TGAct)], G := [(18, C18), (74, C74), (81, C81), (100, C100_141), (107, C107), (128, C128), (139, C139_140)], ro := [2, 3], loops := [(9, { keep := [2, 3], live := [.bx 4 64 [.own 300064 TGLink true, .own 300065 TGLink true, .own 300066 TGLink true, .pv (.int .i64), .own 300068 TGParcel true], .bx 6 96 [.own 208 TGLink true, .own 209 TGLink true, .own 210 TGLink true, .pv (.int .i64), .own 211 TGParcel true], .tv 7 (.int .i64)], outs := [(.exit 1, [.bx 4 64 [.own 300064 TGLink true, .own 300065 TGLink true, .own 300066 TGLink true, .pv (.int .i64), .own 300068 TGParcel true], .bx 6 96 [.own 208 TGLink true, .own 209 TGLink true, .own 210 TGLink true, .pv (.int .i64), .own 211 TGParcel true], .tv 7 (.int .i64)])] }), (12, { keep := [2, 3, 7, 53], live := [.bx 4 64 [.own 300064 TGLink true, .own 300065 TGLink true, .own 300066 TGLink true, .pv (.int .i64), .own 300068 TGParcel true], .bx 6 96 [.own 208 TGLink true, .own 209 TGLink true, .own 210 TGLink true, .pv (.int .i64), .own 211 TGParcel true], .tv 54 (.int .i64)], outs := [(.exit 3, [.bx 4 64 [.own 300064 TGLink true, .own 300065 TGLink true, .own 300066 TGLink true, .pv (.int .i64), .own 300068 TGParcel true], .bx 6 96 [.own 208 TGLink true, .own 209 TGLink true, .own 210 TGLink true, .pv (.int .i64), .own 211 TGParcel true]])] })], joins := [], ins := [(142, TGParcel)] }
theorem E104_eq : ∀ x, afun E104 Try.f104 C104.ps C104.rs x = C104.fn x := fun x => by kernel_rfl
theorem S104 : Sound Try.prog 104 C104 := fun_sound (E := E104) ⟨good_T (by kernel_rfl), (good_cons S18 ⟨_, Try.func18, by kernel_rfl, by kernel_rfl⟩ (good_cons S74 ⟨_, Try.func74, by kernel_rfl, by kernel_rfl⟩ (good_cons S81 ⟨_, Try.func81, by kernel_rfl, by kernel_rfl⟩ (good_cons S100_141 ⟨_, Try.func100, by kernel_rfl, by kernel_rfl⟩ (good_cons S107 ⟨_, Try.func107, by kernel_rfl, by kernel_rfl⟩ (good_cons S128 ⟨_, Try.func128, by kernel_rfl, by kernel_rfl⟩ (good_cons S139_140 ⟨_, Try.func139, by kernel_rfl, by kernel_rfl⟩ good_nil))))))), mixedOk, (ins_cons insOk ⟨_, Try.func142, by kernel_rfl, by kernel_rfl⟩ ins_nil)⟩ Try.func104 rfl E104_eq
noncomputable def l_big (p_code : List Int) (p_more : List Int) : Option (Bool) :=
  (bif (decide (1048576 < (p_code.length : Int))) then
      some true
    else
      some (decide ((w64 (1048576 - (p_code.length : Int))) < (p_more.length : Int)))).bind fun c1 =>
  some c1
noncomputable def C58 : FnSpec := { ps := [.val (.slice (.int .u8)), .val (.slice (.int .u8))], rs := [.val .bool], fn := fun x => l_big x.1 x.2 }
noncomputable def E58 : Env := { T := [(83, (.slice (.int .u8)))], G := [], ro := [], loops := [], joins := [] }
theorem E58_eq : ∀ x, afun E58 Try.f58 C58.ps C58.rs x = C58.fn x := fun x => by kernel_rfl
theorem S58 : Sound Try.prog 58 C58 := fun_sound (E := E58) ⟨good_T (by kernel_rfl), good_nil, mixedOk, ins_nil⟩ Try.func58 rfl E58_eq
noncomputable def l_pSameNet (p_a : GNet) (p_b : GNet) : Option (Bool) :=
  (bif (!decide ((p_a.1.length : Int) = (p_b.1.length : Int))) then
      some true
    else
      some (!decide ((p_a.2.1.length : Int) = (p_b.2.1.length : Int)))).bind fun c1 =>
  bif c1 then
    some false
  else
    (loopE (fun (st3 : Int) => (
        bif (decide (st3 < (p_a.1.length : Int))) then
          (idx p_a.1 st3).bind fun e4 =>
          (idx p_b.1 st3).bind fun e5 =>
          bif (!(decide (e4.1 = e5.1) && (decide (e4.2.1 = e5.2.1) && (decide (e4.2.2.1 = e5.2.2.1) && true)))) then
            some (.inr (.inr false))
          else
            some (.inl (w64 (st3 + 1)))
        else
          some (.inr (.inl ())) : Option ((Int) ⊕ (Unit ⊕ Bool)))) 0).bind fun o6 =>
    match o6 with
    | .inl _ =>
      (loopE (fun (st10 : Int) => (
          bif (decide (st10 < (p_a.2.1.length : Int))) then
            (idx p_a.2.1 st10).bind fun e11 =>
            (idx p_b.2.1 st10).bind fun e12 =>
            bif (!(decide (e11.1 = e12.1) && (decide (e11.2.1 = e12.2.1) && (decide (e11.2.2.1 = e12.2.2.1) && true)))) then
              some (.inr (.inr false))
            else
              some (.inl (w64 (st10 + 1)))
          else
            some (.inr (.inl ())) : Option ((Int) ⊕ (Unit ⊕ Bool)))) 0).bind fun o13 =>
      match o13 with
      | .inl _ =>
        some true
      | .inr y15 =>
        some y15
    | .inr y8 =>
      some y8
noncomputable def C113 : FnSpec := { ps := [.val TGNet, .val TGNet], rs := [.val .bool], fn := fun x => l_pSameNet x.1 x.2 }
noncomputable def E113 : Env := { T := [(32, (.slice TGLink)), (33, (.slice TGLink)), (35, TGNet), (109, TGLink), (153, TGLink)], G := [], ro := [2, 3], loops := [(4, { keep := [2, 3, 25], live := [.tv 26 (.int .i64)], outs := [(.exit 0, []), (.ret, [.tv 4 .bool])] }), (10, { keep := [2, 3, 43], live := [.tv 44 (.int .i64)], outs := [(.exit 2, []), (.ret, [.tv 4 .bool])] })], joins := [], eqs := [(109, TGLink), (153, TGLink)] }
theorem E113_eq : ∀ x, afun E113 Try.f113 C113.ps C113.rs x = C113.fn x := fun x => by kernel_rfl
theorem S113 : Sound Try.prog 113 C113 := fun_sound (E := E113) ⟨good_T (by kernel_rfl), good_nil, mixedOk, (eqs_one (by kernel_rfl) ins_nil)⟩ Try.func113 rfl E113_eq
noncomputable def l_pSameFogs (p_a : List GLink) (p_b : List GLink) : Option (Bool) :=
  bif (!decide ((p_a.length : Int) = (p_b.length : Int))) then
    some false
  else
    (loopE (fun (st2 : Int) => (
        bif (decide (st2 < (p_a.length : Int))) then
          (idx p_a st2).bind fun e3 =>
          (idx p_b st2).bind fun e4 =>
          bif (!(decide (e3.1 = e4.1) && (decide (e3.2.1 = e4.2.1) && (decide (e3.2.2.1 = e4.2.2.1) && true)))) then
            some (.inr (.inr false))
          else
            some (.inl (w64 (st2 + 1)))
        else
          some (.inr (.inl ())) : Option ((Int) ⊕ (Unit ⊕ Bool)))) 0).bind fun o5 =>
    match o5 with
    | .inl _ =>
      some true
    | .inr y7 =>
      some y7
noncomputable def C114 : FnSpec := { ps := [.val (.slice TGLink), .val (.slice TGLink)], rs := [.val .bool], fn := fun x => l_pSameFogs x.1 x.2 }
noncomputable def E114 : Env := { T := [(36, (.slice TGLink)), (120, TGLink)], G := [], ro := [], loops := [(4, { keep := [0, 1, 12], live := [.tv 13 (.int .i64)], outs := [(.exit 0, []), (.ret, [.tv 4 .bool])] })], joins := [], eqs := [(120, TGLink)] }
theorem E114_eq : ∀ x, afun E114 Try.f114 C114.ps C114.rs x = C114.fn x := fun x => by kernel_rfl
theorem S114 : Sound Try.prog 114 C114 := fun_sound (E := E114) ⟨good_T (by kernel_rfl), good_nil, mixedOk, (eqs_one (by kernel_rfl) ins_nil)⟩ Try.func114 rfl E114_eq
noncomputable def l_pSameNetwork (p_a : GNetwork) (p_b : GNetwork) : Option (Bool) :=
  (l_pSameNet p_a.1 p_b.1).bind fun r1 =>
  (bif (!r1) then
      some true
    else
      (l_pSameFogs p_a.2.1 p_b.2.1).bind fun r2 =>
      some (!r2)).bind fun c3 =>
  (bif c3 then
      some true
    else
      some (!decide (p_a.2.2.1 = p_b.2.2.1))).bind fun c4 =>
  (bif c4 then
      some true
    else
      some (!decide ((p_a.2.2.2.1.length : Int) = (p_b.2.2.2.1.length : Int)))).bind fun c5 =>
  bif c5 then
    some false
  else
    (loopE (fun (st7 : Int) => (
        bif (decide (st7 < (p_a.2.2.2.1.length : Int))) then
          (idx p_a.2.2.2.1 st7).bind fun e8 =>
          (idx p_b.2.2.2.1 st7).bind fun e9 =>
          bif (!(decide (e8.1 = e9.1) && (decide (e8.2.1 = e9.2.1) && (decide (e8.2.2.1 = e9.2.2.1) && (decide (e8.2.2.2.1 = e9.2.2.2.1) && (decide (e8.2.2.2.2.1 = e9.2.2.2.2.1) && (decide (e8.2.2.2.2.2.1 = e9.2.2.2.2.2.1) && true))))))) then
            some (.inr (.inr false))
          else
            some (.inl (w64 (st7 + 1)))
        else
          some (.inr (.inl ())) : Option ((Int) ⊕ (Unit ⊕ Bool)))) 0).bind fun o10 =>
    match o10 with
    | .inl _ =>
      some true
    | .inr y12 =>
      some y12
noncomputable def C60 : FnSpec := { ps := [.val TGNetwork, .val TGNetwork], rs := [.val .bool], fn := fun x => l_pSameNetwork x.1 x.2 }
noncomputable def E60 : Env := { T := [(3, (.int .i64)), (35, TGNet), (36, (.slice TGLink)), (37, (.slice TGParcel)), (39, TGNetwork), (88, TGParcel)], G := [(113, C113), (114, C114)], ro := [2, 3], loops := [(4, { keep := [2, 3, 38], live := [.tv 39 (.int .i64)], outs := [(.exit 0, []), (.ret, [.tv 4 .bool])] })], joins := [], eqs := [(88, TGParcel)] }
theorem E60_eq : ∀ x, afun E60 Try.f60 C60.ps C60.rs x = C60.fn x := fun x => by kernel_rfl
theorem S60 : Sound Try.prog 60 C60 := fun_sound (E := E60) ⟨good_T (by kernel_rfl), (good_cons S113 ⟨_, Try.func113, by kernel_rfl, by kernel_rfl⟩ (good_cons S114 ⟨_, Try.func114, by kernel_rfl, by kernel_rfl⟩ good_nil)), mixedOk, (eqs_one (by kernel_rfl) ins_nil)⟩ Try.func60 rfl E60_eq
noncomputable def l_sameInts (p_a : List Int) (p_b : List Int) : Option (Bool) :=
  bif (!decide ((p_a.length : Int) = (p_b.length : Int))) then
    some false
  else
    (loopE (fun (st2 : Int) => (
        bif (decide (st2 < (p_a.length : Int))) then
          (idx p_a st2).bind fun e3 =>
          (idx p_b st2).bind fun e4 =>
          bif (!decide (e3 = e4)) then
            some (.inr (.inr false))
          else
            some (.inl (w64 (st2 + 1)))
        else
          some (.inr (.inl ())) : Option ((Int) ⊕ (Unit ⊕ Bool)))) 0).bind fun o5 =>
    match o5 with
    | .inl _ =>
      some true
    | .inr y7 =>
      some y7
noncomputable def C62 : FnSpec := { ps := [.val (.slice (.int .i64)), .val (.slice (.int .i64))], rs := [.val .bool], fn := fun x => l_sameInts x.1 x.2 }
noncomputable def E62 : Env := { T := [(3, (.int .i64)), (45, (.slice (.int .i64)))], G := [], ro := [], loops := [(4, { keep := [0, 1, 12], live := [.tv 13 (.int .i64)], outs := [(.exit 0, []), (.ret, [.tv 4 .bool])] })], joins := [] }
theorem E62_eq : ∀ x, afun E62 Try.f62 C62.ps C62.rs x = C62.fn x := fun x => by kernel_rfl
theorem S62 : Sound Try.prog 62 C62 := fun_sound (E := E62) ⟨good_T (by kernel_rfl), good_nil, mixedOk, ins_nil⟩ Try.func62 rfl E62_eq
noncomputable def s_NewNetwork (p_n : GNet) (p_f : List GLink) : Option (GNetwork × Bool) :=
  (s_nwGood (p_n, p_f, 0, [], ())).bind fun r1 =>
  bif (!r1) then
    some ((([], [], ()), [], 0, [], ()), false)
  else
    (s_nwOwn (p_n, p_f, 0, [], ())).bind fun r2 =>
    some (r2, true)
noncomputable def C30 : FnSpec := { ps := [.val TGNet, .val (.slice TGLink)], rs := [.own TGNetwork, .val .bool], fn := fun x => s_NewNetwork x.1 x.2 }
noncomputable def E30 : Env := { T := [(35, TGNet), (39, TGNetwork)], G := [(70, C70), (86, C86)], ro := [2], loops := [], joins := [] }
theorem E30_eq : ∀ x, afun E30 Try.f30 C30.ps C30.rs x = C30.fn x := fun x => by kernel_rfl
theorem S30 : Sound Try.prog 30 C30 := fun_sound (E := E30) ⟨good_T (by kernel_rfl), (good_cons S70 ⟨_, Try.func70, by kernel_rfl, by kernel_rfl⟩ (good_cons S86 ⟨_, Try.func86, by kernel_rfl, by kernel_rfl⟩ good_nil)), mixedOk, ins_nil⟩ Try.func30 rfl E30_eq
noncomputable def s_l1Cur_next (p_c : Gl1Cur) : Option (Gl1Cur × Int) :=
  (bif (decide (p_c.2.1 < (p_c.1.length : Int))) then
      (idx p_c.1 p_c.2.1).bind fun e1 =>
      some (p_c.1, p_c.2.1, p_c.2.2.1, (w64 e1))
    else
      some (p_c.1, p_c.2.1, p_c.2.2.1, 0)).bind fun j2 =>
  bif (decide ((w64 (j2.2.1 + 1)) ≤ (j2.1.length : Int))) then
    some ((j2.1, (w64 (j2.2.1 + 1)), (IntKind.u64.wrap ((IntKind.u64.wrap ((IntKind.u64.wrap (j2.2.2.1 * 6364136223846793005)) + (IntKind.u64.wrap j2.2.2.2))) + 1442695040888963407)), ()), j2.2.2.2)
  else
    some ((j2.1, (w64 (j2.2.1 + 1)), (IntKind.u64.wrap ((IntKind.u64.wrap ((IntKind.u64.wrap (j2.2.2.1 * 6364136223846793005)) + (IntKind.u64.wrap j2.2.2.2))) + 1442695040888963407)), ()), (w64 (bitsI .and .u64 (shiftI .shr .u64 (IntKind.u64.wrap ((IntKind.u64.wrap ((IntKind.u64.wrap (j2.2.2.1 * 6364136223846793005)) + (IntKind.u64.wrap j2.2.2.2))) + 1442695040888963407)) 40) 255)))
noncomputable def C146 : FnSpec := { ps := [.mbox TGl1Cur], rs := [.val (.int .i64)], fn := fun x => s_l1Cur_next x }
noncomputable def E146 : Env := { T := [(3, (.int .i64)), (5, (.int .u8)), (83, (.slice (.int .u8))), (140, (.int .u64)), (142, TGl1Cur)], G := [], ro := [], loops := [], joins := [(4, { keep := [], live := [], outs := [(.normal, [.bx 0 100000 [.pv (.slice (.int .u8)), .pv (.int .i64), .pv (.int .u64)], .tv 3 (.int .i64)])] })] }
theorem E146_eq : ∀ x, afun E146 Try.f146 C146.ps C146.rs x = C146.fn x := fun x => by kernel_rfl
theorem S146 : Sound Try.prog 146 C146 := fun_sound_box (E := E146) ⟨good_T (by kernel_rfl), good_nil, mixedOk, ins_nil⟩ Try.func146 rfl E146_eq
noncomputable def s_l1Cur_pick (p_c : Gl1Cur) (p_n : Int) : Option (Gl1Cur × Int) :=
  bif (decide (p_n ≤ 1)) then
    some (p_c, 0)
  else
    (s_l1Cur_next p_c).bind fun r1 =>
    bif (decide (200 < p_n)) then
      (s_l1Cur_next r1.1).bind fun r2 =>
      bif (!decide (p_n = 0)) then
        some (r2.1, (Int.tmod (w64 ((w64 (r1.2 * 256)) + r2.2)) p_n))
      else
        none
    else
      bif (!decide (p_n = 0)) then
        some (r1.1, (Int.tmod r1.2 p_n))
      else
        none
noncomputable def C110 : FnSpec := { ps := [.mbox TGl1Cur, .val (.int .i64)], rs := [.val (.int .i64)], fn := fun x => s_l1Cur_pick x.1 x.2 }
noncomputable def E110 : Env := { T := [], G := [(146, C146)], ro := [], loops := [], joins := [] }
theorem E110_eq : ∀ x, afun E110 Try.f110 C110.ps C110.rs x = C110.fn x := fun x => by kernel_rfl
theorem S110 : Sound Try.prog 110 C110 := fun_sound_box (E := E110) ⟨good_T (by kernel_rfl), (good_cons S146 ⟨_, Try.func146, by kernel_rfl, by kernel_rfl⟩ good_nil), mixedOk, ins_nil⟩ Try.func110 rfl E110_eq
noncomputable def s_l1Cur_among (p_c : Gl1Cur) (p_list : List Int) : Option (Gl1Cur × Int) :=
  (s_l1Cur_pick p_c (p_list.length : Int)).bind fun r1 =>
  (idx p_list r1.2).bind fun e2 =>
  some (r1.1, e2)
noncomputable def C115 : FnSpec := { ps := [.mbox TGl1Cur, .val (.slice (.int .i64))], rs := [.val (.int .i64)], fn := fun x => s_l1Cur_among x.1 x.2 }
noncomputable def E115 : Env := { T := [(3, (.int .i64)), (45, (.slice (.int .i64)))], G := [(110, C110)], ro := [], loops := [], joins := [] }
theorem E115_eq : ∀ x, afun E115 Try.f115 C115.ps C115.rs x = C115.fn x := fun x => by kernel_rfl
theorem S115 : Sound Try.prog 115 C115 := fun_sound_box (E := E115) ⟨good_T (by kernel_rfl), (good_cons S110 ⟨_, Try.func110, by kernel_rfl, by kernel_rfl⟩ good_nil), mixedOk, ins_nil⟩ Try.func115 rfl E115_eq
noncomputable def s_l1Cur_act (p_c : Gl1Cur) (p_w : GNetwork) : Option (Gl1Cur × GAct) :=
  (s_l1Most 1 (p_w.1.1.length : Int)).bind fun r1 =>
  (((s_l1Cur_pick p_c 6).bind fun r2 =>
      (bif (decide (r2.2 = 0)) then
          some (r2.1.1, r2.1.2.1, r2.1.2.2.1, 0, 0, 0, 0, 0, (decide (r2.2 = 0)))
        else
          some (r2.1.1, r2.1.2.1, r2.1.2.2.1, 0, 0, 0, 0, 0, (decide (r2.2 = 1)))).bind fun j3 =>
      bif j3.2.2.2.2.2.2.2.2 then
        (s_l1Cur_pick (j3.1, j3.2.1, j3.2.2.1, ()) 6).bind fun r4 =>
        (s_l1Cur_pick r4.1 r1).bind fun r5 =>
        (s_l1Cur_pick r5.1 r1).bind fun r6 =>
        (s_l1Cur_pick r6.1 3).bind fun r7 =>
        some (.inr (r7.1.1, r7.1.2.1, r7.1.2.2.1, 1, (w64 (1 + r4.2)), r5.2, r6.2, (w64 (1 + r7.2))))
      else
        bif (decide (r2.2 = 2)) then
          (s_l1Cur_among (j3.1, j3.2.1, j3.2.2.1, ()) [1, 5, 10, 30, 60, 1000]).bind fun r8 =>
          some (.inr (r8.1.1, r8.1.2.1, r8.1.2.2.1, 3, 0, 0, 0, r8.2))
        else
          bif (decide (r2.2 = 3)) then
            (s_l1Cur_pick (j3.1, j3.2.1, j3.2.2.1, ()) 5).bind fun r9 =>
            (s_l1Cur_among r9.1 [0, 1, 2, 999, 1000]).bind fun r10 =>
            (s_l1Cur_pick r10.1 5).bind fun r11 =>
            (s_l1Cur_pick r11.1 (w64 (r1 + 1))).bind fun r12 =>
            (s_l1Cur_among r12.1 [0, 1, 9, 10, 1000, 1001]).bind fun r13 =>
            some (.inr (r13.1.1, r13.1.2.1, r13.1.2.2.1, r9.2, r10.2, (w64 (r11.2 - 1)), (w64 (r12.2 - 1)), r13.2))
          else
            some (.inl (j3.1, j3.2.1, j3.2.2.1, j3.2.2.2.1, j3.2.2.2.2.1, j3.2.2.2.2.2.1, j3.2.2.2.2.2.2.1, j3.2.2.2.2.2.2.2.1)) : Option (((List Int) × Int × Int × Int × Int × Int × Int × Int) ⊕ ((List Int) × Int × Int × Int × Int × Int × Int × Int)))).bind fun j14 =>
  match j14 with
  | .inl x15 =>
    (s_l1Cur_pick (x15.1, x15.2.1, x15.2.2.1, ()) 6).bind fun r17 =>
    (s_l1Cur_pick r17.1 r1).bind fun r18 =>
    bif (decide (0 < (p_w.2.2.2.1.length : Int))) then
      (s_l1Cur_pick r18.1 (p_w.2.2.2.1.length : Int)).bind fun r19 =>
      (idx p_w.2.2.2.1 r19.2).bind fun e20 =>
      (s_neNext p_w.1 e20.2.2.2.1).bind fun r21 =>
      bif (decide (0 < (r21.length : Int))) then
        (s_l1Cur_pick r19.1 (r21.length : Int)).bind fun r22 =>
        bif decide (0 ≤ r22.2) && decide (r22.2 < (r21.length : Int)) then
          (r21[(Int.toNat r22.2)]?).bind fun e23 =>
          some (r22.1, (2, e20.1, e20.2.1, e23, 0, ()))
        else
          none
      else
        some (r19.1, (2, e20.1, e20.2.1, r18.2, 0, ()))
    else
      some (r18.1, (2, (w64 (1 + r17.2)), 0, r18.2, 0, ()))
  | .inr y16 =>
    some ((y16.1, y16.2.1, y16.2.2.1, ()), (y16.2.2.2.1, y16.2.2.2.2.1, y16.2.2.2.2.2.1, y16.2.2.2.2.2.2.1, y16.2.2.2.2.2.2.2, ()))
noncomputable def C111 : FnSpec := { ps := [.mbox TGl1Cur, .val TGNetwork], rs := [.val TGAct], fn := fun x => s_l1Cur_act x.1 x.2 }
noncomputable def E111 : Env := { T := [(3, (.int .i64)), (32, (.slice TGLink)), (35, TGNet), (37, (.slice TGParcel)), (39, TGNetwork), (45, (.slice (.int .i64))), (88, TGParcel), (135, TGAct)], G := [(76, C76), (79, C79), (110, C110), (115, C115)], ro := [3], loops := [], joins := [(5, { keep := [3, 5, 15], live := [], outs := [(.normal, [.bx 0 100000 [.pv (.slice (.int .u8)), .pv (.int .i64), .pv (.int .u64)], .bx 4 64 [.pv (.int .i64), .pv (.int .i64), .pv (.int .i64), .pv (.int .i64), .pv (.int .i64)], .tv 16 .bool])] }), (10, { keep := [3, 5], live := [], outs := [(.normal, [.bx 0 100000 [.pv (.slice (.int .u8)), .pv (.int .i64), .pv (.int .u64)], .bx 4 64 [.pv (.int .i64), .pv (.int .i64), .pv (.int .i64), .pv (.int .i64), .pv (.int .i64)]]), (.ret, [.bx 0 100000 [.pv (.slice (.int .u8)), .pv (.int .i64), .pv (.int .u64)], .bx 4 64 [.pv (.int .i64), .pv (.int .i64), .pv (.int .i64), .pv (.int .i64), .pv (.int .i64)]])] })], aside := [(74, 100000)] }
theorem E111_eq : ∀ x, afun E111 Try.f111 C111.ps C111.rs x = C111.fn x := fun x => by kernel_rfl
theorem S111 : Sound Try.prog 111 C111 := fun_sound_box (E := E111) ⟨good_T (by kernel_rfl), (good_cons S76 ⟨_, Try.func76, by kernel_rfl, by kernel_rfl⟩ (good_cons S79 ⟨_, Try.func79, by kernel_rfl, by kernel_rfl⟩ (good_cons S110 ⟨_, Try.func110, by kernel_rfl, by kernel_rfl⟩ (good_cons S115 ⟨_, Try.func115, by kernel_rfl, by kernel_rfl⟩ good_nil)))), mixedOk, ins_nil⟩ Try.func111 rfl E111_eq
noncomputable def s_l1Cur_one (p_c : Gl1Cur) (p_n : Int) : Option (Gl1Cur × Bool) :=
  (s_l1Cur_pick p_c p_n).bind fun r1 =>
  some (r1.1, (decide (r1.2 = 0)))
noncomputable def C112 : FnSpec := { ps := [.mbox TGl1Cur, .val (.int .i64)], rs := [.val .bool], fn := fun x => s_l1Cur_one x.1 x.2 }
noncomputable def E112 : Env := { T := [], G := [(110, C110)], ro := [], loops := [], joins := [] }
theorem E112_eq : ∀ x, afun E112 Try.f112 C112.ps C112.rs x = C112.fn x := fun x => by kernel_rfl
theorem S112 : Sound Try.prog 112 C112 := fun_sound_box (E := E112) ⟨good_T (by kernel_rfl), (good_cons S110 ⟨_, Try.func110, by kernel_rfl, by kernel_rfl⟩ good_nil), mixedOk, ins_nil⟩ Try.func112 rfl E112_eq
noncomputable def s_l1Cur_net (p_c : Gl1Cur) : Option (Gl1Cur × GNet) :=
  (s_l1Cur_pick p_c 6).bind fun r1 =>
  ((s_l1Cur_one r1.1 24).bind fun r2 =>
    bif r2.2 then
      some (r2.1.1, r2.1.2.1, r2.1.2.2.1, [], [], [], [], 16)
    else
      some (r2.1.1, r2.1.2.1, r2.1.2.2.1, [], [], [], [], (w64 (1 + r1.2)))).bind fun j3 =>
  (loopE (fun (st5 : (List Int) × Int × Int × (List GLink) × (List GLink) × (List GLink) × (List GLink)) => (
      bif (decide ((st5.2.2.2.2.2.1.length : Int) < j3.2.2.2.2.2.2.2)) then
        (s_l1Cur_pick (st5.1, st5.2.1, st5.2.2.1, ()) 400).bind fun r6 =>
        (s_l1Cur_among r6.1 [0, 30, 100, 999, r6.2]).bind fun r7 =>
        (s_l1Cur_pick r7.1 400).bind fun r8 =>
        (s_l1Cur_among r8.1 [0, 40, 999, r8.2]).bind fun r9 =>
        (s_l1Cur_among r9.1 [0, 20, 120, 500]).bind fun r10 =>
        bif decide (List.length st5.2.2.2.2.2.1 + List.length [(r7.2, r9.2, r10.2, ())] ≤ lim) then
          some (.inl (r10.1.1, r10.1.2.1, r10.1.2.2.1, st5.2.2.2.1, st5.2.2.2.2.1, (st5.2.2.2.2.2.1 ++ [(r7.2, r9.2, r10.2, ())]), st5.2.2.2.2.2.2))
        else
          none
      else
        some (.inr (st5.1, st5.2.1, st5.2.2.1, st5.2.2.2.1, st5.2.2.2.2.1, st5.2.2.2.2.2.1, st5.2.2.2.2.2.2)) : Option (((List Int) × Int × Int × (List GLink) × (List GLink) × (List GLink) × (List GLink)) ⊕ (((List Int) × Int × Int × (List GLink) × (List GLink) × (List GLink) × (List GLink)))))) (j3.1, j3.2.1, j3.2.2.1, j3.2.2.2.1, j3.2.2.2.2.1, j3.2.2.2.2.2.1, j3.2.2.2.2.2.2.1)).bind fun o11 =>
  (s_l1Cur_among (o11.1, o11.2.1, o11.2.2.1, ()) [2, 2, 3]).bind fun r12 =>
  (loopE (fun (st14 : (List Int) × Int × Int × (List GLink) × (List GLink) × (List GLink) × (List GLink) × Int) => (
      bif (decide (st14.2.2.2.2.2.2.2 < j3.2.2.2.2.2.2.2)) then
        (loopE (fun (st16 : (List Int) × Int × Int × (List GLink) × (List GLink) × (List GLink) × (List GLink) × Int) => (
            (bif (decide (st16.2.2.2.2.2.2.2 < j3.2.2.2.2.2.2.2)) then
                some (decide ((st16.2.2.2.2.2.2.1.length : Int) < 40))
              else
                some false).bind fun c17 =>
            bif c17 then
              (s_l1Cur_one (st16.1, st16.2.1, st16.2.2.1, ()) r12.2).bind fun r18 =>
              bif r18.2 then
                bif true then
                  (s_l1Cur_pick r18.1 30).bind fun r24 =>
                  (s_l1Cur_among r24.1 [1, 5, 10, 10, 60, (w64 (1 + r24.2))]).bind fun r25 =>
                  bif decide (List.length st16.2.2.2.2.2.2.1 + List.length [(st14.2.2.2.2.2.2.2, st16.2.2.2.2.2.2.2, r25.2, ())] ≤ lim) then
                    some (.inl (r25.1.1, r25.1.2.1, r25.1.2.2.1, st16.2.2.2.1, st16.2.2.2.2.1, st16.2.2.2.2.2.1, (st16.2.2.2.2.2.2.1 ++ [(st14.2.2.2.2.2.2.2, st16.2.2.2.2.2.2.2, r25.2, ())]), (w64 (st16.2.2.2.2.2.2.2 + 1))))
                  else
                    none
                else
                  some (.inl (r18.1.1, r18.1.2.1, r18.1.2.2.1, st16.2.2.2.1, st16.2.2.2.2.1, st16.2.2.2.2.2.1, st16.2.2.2.2.2.2.1, (w64 (st16.2.2.2.2.2.2.2 + 1))))
              else
                bif (decide (st16.2.2.2.2.2.2.2 = (w64 (st14.2.2.2.2.2.2.2 + 1)))) then
                  (s_l1Cur_one r18.1 8).bind fun r19 =>
                  bif (!r19.2) then
                    (s_l1Cur_pick r19.1 30).bind fun r20 =>
                    (s_l1Cur_among r20.1 [1, 5, 10, 10, 60, (w64 (1 + r20.2))]).bind fun r21 =>
                    bif decide (List.length st16.2.2.2.2.2.2.1 + List.length [(st14.2.2.2.2.2.2.2, st16.2.2.2.2.2.2.2, r21.2, ())] ≤ lim) then
                      some (.inl (r21.1.1, r21.1.2.1, r21.1.2.2.1, st16.2.2.2.1, st16.2.2.2.2.1, st16.2.2.2.2.2.1, (st16.2.2.2.2.2.2.1 ++ [(st14.2.2.2.2.2.2.2, st16.2.2.2.2.2.2.2, r21.2, ())]), (w64 (st16.2.2.2.2.2.2.2 + 1))))
                    else
                      none
                  else
                    some (.inl (r19.1.1, r19.1.2.1, r19.1.2.2.1, st16.2.2.2.1, st16.2.2.2.2.1, st16.2.2.2.2.2.1, st16.2.2.2.2.2.2.1, (w64 (st16.2.2.2.2.2.2.2 + 1))))
                else
                  bif false then
                    (s_l1Cur_pick r18.1 30).bind fun r22 =>
                    (s_l1Cur_among r22.1 [1, 5, 10, 10, 60, (w64 (1 + r22.2))]).bind fun r23 =>
                    bif decide (List.length st16.2.2.2.2.2.2.1 + List.length [(st14.2.2.2.2.2.2.2, st16.2.2.2.2.2.2.2, r23.2, ())] ≤ lim) then
                      some (.inl (r23.1.1, r23.1.2.1, r23.1.2.2.1, st16.2.2.2.1, st16.2.2.2.2.1, st16.2.2.2.2.2.1, (st16.2.2.2.2.2.2.1 ++ [(st14.2.2.2.2.2.2.2, st16.2.2.2.2.2.2.2, r23.2, ())]), (w64 (st16.2.2.2.2.2.2.2 + 1))))
                    else
                      none
                  else
                    some (.inl (r18.1.1, r18.1.2.1, r18.1.2.2.1, st16.2.2.2.1, st16.2.2.2.2.1, st16.2.2.2.2.2.1, st16.2.2.2.2.2.2.1, (w64 (st16.2.2.2.2.2.2.2 + 1))))
            else
              some (.inr (st16.1, st16.2.1, st16.2.2.1, st16.2.2.2.1, st16.2.2.2.2.1, st16.2.2.2.2.2.1, st16.2.2.2.2.2.2.1)) : Option (((List Int) × Int × Int × (List GLink) × (List GLink) × (List GLink) × (List GLink) × Int) ⊕ (((List Int) × Int × Int × (List GLink) × (List GLink) × (List GLink) × (List GLink)))))) (st14.1, st14.2.1, st14.2.2.1, st14.2.2.2.1, st14.2.2.2.2.1, st14.2.2.2.2.2.1, st14.2.2.2.2.2.2.1, (w64 (st14.2.2.2.2.2.2.2 + 1)))).bind fun o26 =>
        some (.inl (o26.1, o26.2.1, o26.2.2.1, o26.2.2.2.1, o26.2.2.2.2.1, o26.2.2.2.2.2.1, o26.2.2.2.2.2.2, (w64 (st14.2.2.2.2.2.2.2 + 1))))
      else
        some (.inr (st14.1, st14.2.1, st14.2.2.1, st14.2.2.2.1, st14.2.2.2.2.1, st14.2.2.2.2.2.1, st14.2.2.2.2.2.2.1)) : Option (((List Int) × Int × Int × (List GLink) × (List GLink) × (List GLink) × (List GLink) × Int) ⊕ (((List Int) × Int × Int × (List GLink) × (List GLink) × (List GLink) × (List GLink)))))) (r12.1.1, r12.1.2.1, r12.1.2.2.1, o11.2.2.2.1, o11.2.2.2.2.1, o11.2.2.2.2.2.1, o11.2.2.2.2.2.2, 0)).bind fun o27 =>
  some ((o27.1, o27.2.1, o27.2.2.1, ()), (o27.2.2.2.2.2.1, o27.2.2.2.2.2.2, ()))
noncomputable def C147 : FnSpec := { ps := [.mbox TGl1Cur], rs := [.own TGNet], fn := fun x => s_l1Cur_net x }
noncomputable def E147 : Env := { T := [(32, (.slice TGLink)), (33, (.slice TGLink)), (35, TGNet), (45, (.slice (.int .i64))), (109, TGLink), (153, TGLink)], G := [(110, C110), (112, C112), (115, C115)], ro := [24, 29, 32, 81], loops := [(5, { keep := [4, 52, 53, 54, 55, 63, 64, 65, 66, 67, 68, 69, 70, 71], live := [.bx 0 100000 [.pv (.slice (.int .u8)), .pv (.int .i64), .pv (.int .u64)], .bx 2 32 [.own 300032 TGLink true, .own 300033 TGLink true], .bx 3 48 [.own 300048 TGLink true, .own 300049 TGLink true]], outs := [(.exit 0, [.bx 0 100000 [.pv (.slice (.int .u8)), .pv (.int .i64), .pv (.int .u64)], .bx 2 32 [.own 300032 TGLink true, .own 300033 TGLink true], .bx 3 48 [.own 300048 TGLink true, .own 300049 TGLink true]])] }), (9, { keep := [4, 5], live := [.bx 0 100000 [.pv (.slice (.int .u8)), .pv (.int .i64), .pv (.int .u64)], .bx 2 32 [.own 300032 TGLink true, .own 300033 TGLink true], .bx 3 48 [.own 300048 TGLink true, .own 300049 TGLink true], .tv 6 (.int .i64)], outs := [(.exit 2, [.bx 0 100000 [.pv (.slice (.int .u8)), .pv (.int .i64), .pv (.int .u64)], .bx 2 32 [.own 300032 TGLink true, .own 300033 TGLink true], .bx 3 48 [.own 300048 TGLink true, .own 300049 TGLink true]])] }), (12, { keep := [4, 5, 6], live := [.bx 0 100000 [.pv (.slice (.int .u8)), .pv (.int .i64), .pv (.int .u64)], .bx 2 32 [.own 300032 TGLink true, .own 300033 TGLink true], .bx 3 48 [.own 300048 TGLink true, .own 300049 TGLink true], .tv 7 (.int .i64)], outs := [(.exit 4, [.bx 0 100000 [.pv (.slice (.int .u8)), .pv (.int .i64), .pv (.int .u64)], .bx 2 32 [.own 300032 TGLink true, .own 300033 TGLink true], .bx 3 48 [.own 300048 TGLink true, .own 300049 TGLink true]])] })], joins := [(5, { keep := [], live := [], outs := [(.normal, [.bx 0 100000 [.pv (.slice (.int .u8)), .pv (.int .i64), .pv (.int .u64)], .bx 2 32 [.own 300032 TGLink true, .own 300033 TGLink true], .bx 3 48 [.own 300048 TGLink true, .own 300049 TGLink true], .tv 4 (.int .i64)])] })], forks := [62, 67], hoist := [(6, [0, 2, 7]), (15, [0, 2, 3, 4])], aside := [(23, 100000), (25, 100000), (28, 100000), (30, 100000), (33, 100000), (79, 100000), (82, 100000)] }
theorem E147_eq : ∀ x, afun E147 Try.f147 C147.ps C147.rs x = C147.fn x := fun x => by kernel_rfl
theorem S147 : Sound Try.prog 147 C147 := fun_sound_box (E := E147) ⟨good_T (by kernel_rfl), (good_cons S110 ⟨_, Try.func110, by kernel_rfl, by kernel_rfl⟩ (good_cons S112 ⟨_, Try.func112, by kernel_rfl, by kernel_rfl⟩ (good_cons S115 ⟨_, Try.func115, by kernel_rfl, by kernel_rfl⟩ good_nil))), mixedOk, ins_nil⟩ Try.func147 rfl E147_eq
noncomputable def s_l1Cur_anyNet (p_c : Gl1Cur) : Option (Gl1Cur × GNet) :=
  (s_l1Cur_net p_c).bind fun r1 =>
  (s_l1Cur_pick r1.1 (r1.2.1.length : Int)).bind fun r2 =>
  bif decide (0 ≤ r2.2) && decide (r2.2 < (r1.2.1.length : Int)) then
    (s_l1Cur_pick r2.1 36).bind fun r3 =>
    bif (decide (r3.2 = 0)) then
      (s_l1Cur_among r3.1 [(-1), 999, 1000]).bind fun r4 =>
      (r1.2.1[(Int.toNat r2.2)]?).bind fun e5 =>
      some (r4.1, ((r1.2.1.set (Int.toNat r2.2) (r4.2, e5.2)), r1.2.2))
    else
      bif (decide (r3.2 = 1)) then
        (s_l1Cur_among r3.1 [(-1), 999, 1000]).bind fun r6 =>
        (r1.2.1[(Int.toNat r2.2)]?).bind fun e7 =>
        some (r6.1, ((r1.2.1.set (Int.toNat r2.2) (e7.1, r6.2, e7.2.2)), r1.2.2))
      else
        bif (decide (r3.2 = 2)) then
          (s_l1Cur_among r3.1 [(-1), 500, 501]).bind fun r8 =>
          (r1.2.1[(Int.toNat r2.2)]?).bind fun e9 =>
          some (r8.1, ((r1.2.1.set (Int.toNat r2.2) (e9.1, e9.2.1, r8.2, ())), r1.2.2))
        else
          bif (decide (r3.2 = 3)) then
            some (r3.1, ([], r1.2.2))
          else
            bif (decide (r3.2 = 4)) then
              (s_l1Cur_pick r3.1 2).bind fun r10 =>
              (loopE (fun (st12 : (List Int) × Int × Int × (List GLink) × (List GLink) × (List GLink) × (List GLink)) => (
                  bif (decide ((st12.2.2.2.2.2.1.length : Int) < (w64 (16 + r10.2)))) then
                    bif decide (0 ≤ 0) && decide (0 < (st12.2.2.2.2.2.1.length : Int)) then
                      (st12.2.2.2.2.2.1[(Int.toNat 0)]?).bind fun e13 =>
                      bif decide (List.length st12.2.2.2.2.2.1 + List.length [e13] ≤ lim) then
                        some (.inl (st12.1, st12.2.1, st12.2.2.1, st12.2.2.2.1, st12.2.2.2.2.1, (st12.2.2.2.2.2.1 ++ [e13]), st12.2.2.2.2.2.2))
                      else
                        none
                    else
                      none
                  else
                    some (.inr (st12.1, st12.2.1, st12.2.2.1, st12.2.2.2.1, st12.2.2.2.2.1, st12.2.2.2.2.2.1, st12.2.2.2.2.2.2)) : Option (((List Int) × Int × Int × (List GLink) × (List GLink) × (List GLink) × (List GLink)) ⊕ (((List Int) × Int × Int × (List GLink) × (List GLink) × (List GLink) × (List GLink)))))) (r10.1.1, r10.1.2.1, r10.1.2.2.1, [], [], r1.2.1, r1.2.2.1)).bind fun o14 =>
              some ((o14.1, o14.2.1, o14.2.2.1, ()), (o14.2.2.2.2.2.1, o14.2.2.2.2.2.2, ()))
            else
              (bif (decide (r3.2 = 5)) then
                  some (r3.1.1, r3.1.2.1, r3.1.2.2.1, [], [], r1.2.1, r1.2.2.1, (decide (r3.2 = 5)))
                else
                  some (r3.1.1, r3.1.2.1, r3.1.2.2.1, [], [], r1.2.1, r1.2.2.1, (decide (r3.2 = 6)))).bind fun j15 =>
              bif j15.2.2.2.2.2.2.2 then
                bif (decide (0 < (j15.2.2.2.2.2.2.1.length : Int))) then
                  (s_l1Cur_pick (j15.1, j15.2.1, j15.2.2.1, ()) (j15.2.2.2.2.2.2.1.length : Int)).bind fun r16 =>
                  bif decide (0 ≤ r16.2) && decide (r16.2 < (j15.2.2.2.2.2.2.1.length : Int)) then
                    (s_l1Cur_pick r16.1 4).bind fun r17 =>
                    bif (decide (r17.2 = 0)) then
                      (j15.2.2.2.2.2.2.1[(Int.toNat r16.2)]?).bind fun e18 =>
                      (s_l1Cur_among r17.1 [(-1), e18.2.1]).bind fun r19 =>
                      (j15.2.2.2.2.2.2.1[(Int.toNat r16.2)]?).bind fun e20 =>
                      some (r19.1, (j15.2.2.2.2.2.1, (j15.2.2.2.2.2.2.1.set (Int.toNat r16.2) (r19.2, e20.2)), ()))
                    else
                      bif (decide (r17.2 = 1)) then
                        (j15.2.2.2.2.2.2.1[(Int.toNat r16.2)]?).bind fun e21 =>
                        (s_l1Cur_among r17.1 [e21.1, (j15.2.2.2.2.2.1.length : Int)]).bind fun r22 =>
                        (j15.2.2.2.2.2.2.1[(Int.toNat r16.2)]?).bind fun e23 =>
                        some (r22.1, (j15.2.2.2.2.2.1, (j15.2.2.2.2.2.2.1.set (Int.toNat r16.2) (e23.1, r22.2, e23.2.2)), ()))
                      else
                        bif (decide (r17.2 = 2)) then
                          (s_l1Cur_among r17.1 [0, 60, 61]).bind fun r24 =>
                          (j15.2.2.2.2.2.2.1[(Int.toNat r16.2)]?).bind fun e25 =>
                          some (r24.1, (j15.2.2.2.2.2.1, (j15.2.2.2.2.2.2.1.set (Int.toNat r16.2) (e25.1, e25.2.1, r24.2, ())), ()))
                        else
                          bif (decide (r17.2 = 3)) then
                            bif decide (0 ≤ 0) && decide (0 < (j15.2.2.2.2.2.2.1.length : Int)) then
                              (j15.2.2.2.2.2.2.1[(Int.toNat 0)]?).bind fun e26 =>
                              bif decide (List.length j15.2.2.2.2.2.2.1 + List.length [e26] ≤ lim) then
                                some (r17.1, (j15.2.2.2.2.2.1, (j15.2.2.2.2.2.2.1 ++ [e26]), ()))
                              else
                                none
                            else
                              none
                          else
                            some (r17.1, (j15.2.2.2.2.2.1, j15.2.2.2.2.2.2.1, ()))
                  else
                    none
                else
                  some ((j15.1, j15.2.1, j15.2.2.1, ()), (j15.2.2.2.2.2.1, j15.2.2.2.2.2.2.1, ()))
              else
                bif (decide (r3.2 = 7)) then
                  bif decide (0 ≤ 10) && decide (10 ≤ 10) && decide (10 ≤ lim) then
                    (s_l1Cur_pick (j15.1, j15.2.1, j15.2.2.1, ()) 2).bind fun r27 =>
                    (loopE (fun (st29 : (List Int) × Int × Int × (List GLink) × (List GLink) × (List GLink) × (List GLink) × Int) => (
                        bif (decide (st29.2.2.2.2.2.2.2 < 10)) then
                          (loopE (fun (st31 : (List Int) × Int × Int × (List GLink) × (List GLink) × (List GLink) × (List GLink) × Int) => (
                              (bif (decide (st31.2.2.2.2.2.2.2 < 10)) then
                                  some (decide ((st31.2.2.2.2.2.2.1.length : Int) < (w64 (40 + r27.2))))
                                else
                                  some false).bind fun c32 =>
                              bif c32 then
                                bif decide (List.length st31.2.2.2.2.2.2.1 + List.length [(st29.2.2.2.2.2.2.2, st31.2.2.2.2.2.2.2, 5, ())] ≤ lim) then
                                  some (.inl (st31.1, st31.2.1, st31.2.2.1, st31.2.2.2.1, st31.2.2.2.2.1, st31.2.2.2.2.2.1, (st31.2.2.2.2.2.2.1 ++ [(st29.2.2.2.2.2.2.2, st31.2.2.2.2.2.2.2, 5, ())]), (w64 (st31.2.2.2.2.2.2.2 + 1))))
                                else
                                  none
                              else
                                some (.inr (st31.1, st31.2.1, st31.2.2.1, st31.2.2.2.1, st31.2.2.2.2.1, st31.2.2.2.2.2.1, st31.2.2.2.2.2.2.1)) : Option (((List Int) × Int × Int × (List GLink) × (List GLink) × (List GLink) × (List GLink) × Int) ⊕ (((List Int) × Int × Int × (List GLink) × (List GLink) × (List GLink) × (List GLink)))))) (st29.1, st29.2.1, st29.2.2.1, st29.2.2.2.1, st29.2.2.2.2.1, st29.2.2.2.2.2.1, st29.2.2.2.2.2.2.1, (w64 (st29.2.2.2.2.2.2.2 + 1)))).bind fun o33 =>
                          some (.inl (o33.1, o33.2.1, o33.2.2.1, o33.2.2.2.1, o33.2.2.2.2.1, o33.2.2.2.2.2.1, o33.2.2.2.2.2.2, (w64 (st29.2.2.2.2.2.2.2 + 1))))
                        else
                          some (.inr (st29.1, st29.2.1, st29.2.2.1, st29.2.2.2.1, st29.2.2.2.2.1, st29.2.2.2.2.2.1, st29.2.2.2.2.2.2.1)) : Option (((List Int) × Int × Int × (List GLink) × (List GLink) × (List GLink) × (List GLink) × Int) ⊕ (((List Int) × Int × Int × (List GLink) × (List GLink) × (List GLink) × (List GLink)))))) (r27.1.1, r27.1.2.1, r27.1.2.2.1, j15.2.2.2.1, j15.2.2.2.2.1, (List.replicate (Int.toNat 10) ((0, (0, (0, ()))) : GLink)), [], 0)).bind fun o34 =>
                    some ((o34.1, o34.2.1, o34.2.2.1, ()), (o34.2.2.2.2.2.1, o34.2.2.2.2.2.2, ()))
                  else
                    none
                else
                  some ((j15.1, j15.2.1, j15.2.2.1, ()), (j15.2.2.2.2.2.1, j15.2.2.2.2.2.2.1, ()))
  else
    none
noncomputable def C148 : FnSpec := { ps := [.mbox TGl1Cur], rs := [.own TGNet], fn := fun x => s_l1Cur_anyNet x }
noncomputable def E148 : Env := { T := [(3, (.int .i64)), (32, (.slice TGLink)), (33, (.slice TGLink)), (35, TGNet), (45, (.slice (.int .i64))), (109, TGLink), (153, TGLink)], G := [(110, C110), (115, C115), (147, C147)], ro := [], loops := [(14, { keep := [5], live := [.bx 0 100000 [.pv (.slice (.int .u8)), .pv (.int .i64), .pv (.int .u64)], .bx 2 32 [.own 300032 TGLink true, .own 300033 TGLink true], .bx 3 48 [.own 192 TGLink true, .own 193 TGLink true]], outs := [(.exit 1, [.bx 0 100000 [.pv (.slice (.int .u8)), .pv (.int .i64), .pv (.int .u64)], .bx 2 32 [.own 300032 TGLink true, .own 300033 TGLink true], .bx 3 48 [.own 192 TGLink true, .own 193 TGLink true]])] }), (34, { keep := [8], live := [.bx 0 100000 [.pv (.slice (.int .u8)), .pv (.int .i64), .pv (.int .u64)], .bx 2 32 [.own 300032 TGLink true, .own 300033 TGLink true], .bx 3 48 [.own 2128 TGLink true, .own 300049 TGLink true], .tv 9 (.int .i64)], outs := [(.exit 4, [.bx 0 100000 [.pv (.slice (.int .u8)), .pv (.int .i64), .pv (.int .u64)], .bx 2 32 [.own 300032 TGLink true, .own 300033 TGLink true], .bx 3 48 [.own 2128 TGLink true, .own 300049 TGLink true]])] }), (37, { keep := [8, 9], live := [.bx 0 100000 [.pv (.slice (.int .u8)), .pv (.int .i64), .pv (.int .u64)], .bx 2 32 [.own 300032 TGLink true, .own 300033 TGLink true], .bx 3 48 [.own 2128 TGLink true, .own 300049 TGLink true], .tv 10 (.int .i64)], outs := [(.exit 6, [.bx 0 100000 [.pv (.slice (.int .u8)), .pv (.int .i64), .pv (.int .u64)], .bx 2 32 [.own 300032 TGLink true, .own 300033 TGLink true], .bx 3 48 [.own 2128 TGLink true, .own 300049 TGLink true]])] })], joins := [(18, { keep := [22], live := [], outs := [(.normal, [.bx 0 100000 [.pv (.slice (.int .u8)), .pv (.int .i64), .pv (.int .u64)], .bx 2 32 [.own 300032 TGLink true, .own 300033 TGLink true], .bx 3 48 [.own 192 TGLink true, .own 193 TGLink true], .tv 69 .bool])] })], hoist := [(2, [0]), (20, [0]), (25, [0])], aside := [(19, 100000), (81, 100000)] }
theorem E148_eq : ∀ x, afun E148 Try.f148 C148.ps C148.rs x = C148.fn x := fun x => by kernel_rfl
theorem S148 : Sound Try.prog 148 C148 := fun_sound_box (E := E148) ⟨good_T (by kernel_rfl), (good_cons S110 ⟨_, Try.func110, by kernel_rfl, by kernel_rfl⟩ (good_cons S115 ⟨_, Try.func115, by kernel_rfl, by kernel_rfl⟩ (good_cons S147 ⟨_, Try.func147, by kernel_rfl, by kernel_rfl⟩ good_nil))), mixedOk, ins_nil⟩ Try.func148 rfl E148_eq
noncomputable def s_l1Cur_fog (p_c : Gl1Cur) (p_n : GNet) : Option (Gl1Cur × (List GLink)) :=
  (s_l1Cur_pick p_c 4).bind fun r1 =>
  (loopE (fun (st3 : (List Int) × Int × Int × (List GLink) × Int) => (
      bif (decide (st3.2.2.2.2 < (p_n.2.1.length : Int))) then
        (s_l1Cur_pick (st3.1, st3.2.1, st3.2.2.1, ()) 40).bind fun r4 =>
        (s_l1Cur_pick r4.1 (w64 (r1.2 + 1))).bind fun r5 =>
        (loopE (fun (st7 : (List Int) × Int × Int × (List GLink) × Int × Int) => (
            bif (decide (0 < st7.2.2.2.2.2)) then
              (s_l1Cur_pick (st7.1, st7.2.1, st7.2.2.1, ()) 30).bind fun r8 =>
              bif decide (List.length st7.2.2.2.1 + List.length [(st3.2.2.2.2, st7.2.2.2.2.1, (w64 ((w64 (st7.2.2.2.2.1 + 1)) + r8.2)), ())] ≤ lim) then
                (s_l1Cur_pick r8.1 30).bind fun r9 =>
                some (.inl (r9.1.1, r9.1.2.1, r9.1.2.2.1, (st7.2.2.2.1 ++ [(st3.2.2.2.2, st7.2.2.2.2.1, (w64 ((w64 (st7.2.2.2.2.1 + 1)) + r8.2)), ())]), (w64 ((w64 ((w64 ((w64 (st7.2.2.2.2.1 + 1)) + r8.2)) + 1)) + r9.2)), (w64 (st7.2.2.2.2.2 - 1))))
              else
                none
            else
              some (.inr (st7.1, st7.2.1, st7.2.2.1, st7.2.2.2.1)) : Option (((List Int) × Int × Int × (List GLink) × Int × Int) ⊕ (((List Int) × Int × Int × (List GLink)))))) (r5.1.1, r5.1.2.1, r5.1.2.2.1, st3.2.2.2.1, r4.2, r5.2)).bind fun o10 =>
        some (.inl (o10.1, o10.2.1, o10.2.2.1, o10.2.2.2, (w64 (st3.2.2.2.2 + 1))))
      else
        some (.inr (st3.1, st3.2.1, st3.2.2.1, st3.2.2.2.1)) : Option (((List Int) × Int × Int × (List GLink) × Int) ⊕ (((List Int) × Int × Int × (List GLink)))))) (r1.1.1, r1.1.2.1, r1.1.2.2.1, [], 0)).bind fun o11 =>
  (bif (decide (60 < (o11.2.2.2.length : Int))) then
      bif decide (0 ≤ 60) && decide (60 ≤ (o11.2.2.2.length : Int)) then
        some (o11.1, o11.2.1, o11.2.2.1, (List.take (Int.toNat 60) o11.2.2.2))
      else
        none
    else
      some (o11.1, o11.2.1, o11.2.2.1, o11.2.2.2)).bind fun j12 =>
  (bif (decide (0 < (p_n.2.1.length : Int))) then
      (s_l1Cur_one (j12.1, j12.2.1, j12.2.2.1, ()) 24).bind fun r13 =>
      bif r13.2 then
        (s_l1Cur_pick r13.1 2).bind fun r14 =>
        (loopE (fun (st16 : (List Int) × Int × Int × (List GLink)) => (
            bif (decide ((st16.2.2.2.length : Int) < (w64 (60 + r14.2)))) then
              bif decide (List.length st16.2.2.2 + List.length [(0, (w64 (4 * (st16.2.2.2.length : Int))), (w64 ((w64 (4 * (st16.2.2.2.length : Int))) + 2)), ())] ≤ lim) then
                some (.inl (st16.1, st16.2.1, st16.2.2.1, (st16.2.2.2 ++ [(0, (w64 (4 * (st16.2.2.2.length : Int))), (w64 ((w64 (4 * (st16.2.2.2.length : Int))) + 2)), ())])))
              else
                none
            else
              some (.inr (st16.1, st16.2.1, st16.2.2.1, st16.2.2.2)) : Option (((List Int) × Int × Int × (List GLink)) ⊕ (((List Int) × Int × Int × (List GLink)))))) (r14.1.1, r14.1.2.1, r14.1.2.2.1, [])).bind fun o17 =>
        some (o17.1, o17.2.1, o17.2.2.1, o17.2.2.2)
      else
        some (r13.1.1, r13.1.2.1, r13.1.2.2.1, j12.2.2.2)
    else
      bif false then
        (s_l1Cur_pick (j12.1, j12.2.1, j12.2.2.1, ()) 2).bind fun r18 =>
        (loopE (fun (st20 : (List Int) × Int × Int × (List GLink)) => (
            bif (decide ((st20.2.2.2.length : Int) < (w64 (60 + r18.2)))) then
              bif decide (List.length st20.2.2.2 + List.length [(0, (w64 (4 * (st20.2.2.2.length : Int))), (w64 ((w64 (4 * (st20.2.2.2.length : Int))) + 2)), ())] ≤ lim) then
                some (.inl (st20.1, st20.2.1, st20.2.2.1, (st20.2.2.2 ++ [(0, (w64 (4 * (st20.2.2.2.length : Int))), (w64 ((w64 (4 * (st20.2.2.2.length : Int))) + 2)), ())])))
              else
                none
            else
              some (.inr (st20.1, st20.2.1, st20.2.2.1, st20.2.2.2)) : Option (((List Int) × Int × Int × (List GLink)) ⊕ (((List Int) × Int × Int × (List GLink)))))) (r18.1.1, r18.1.2.1, r18.1.2.2.1, [])).bind fun o21 =>
        some (o21.1, o21.2.1, o21.2.2.1, o21.2.2.2)
      else
        some (j12.1, j12.2.1, j12.2.2.1, j12.2.2.2)).bind fun j22 =>
  bif (decide (0 < (j22.2.2.2.length : Int))) then
    (s_l1Cur_pick (j22.1, j22.2.1, j22.2.2.1, ()) (j22.2.2.2.length : Int)).bind fun r23 =>
    bif decide (0 ≤ r23.2) && decide (r23.2 < (j22.2.2.2.length : Int)) then
      (s_l1Cur_pick r23.1 30).bind fun r24 =>
      bif (decide (r24.2 = 0)) then
        (s_l1Cur_among r24.1 [(-1), (p_n.2.1.length : Int)]).bind fun r25 =>
        (j22.2.2.2[(Int.toNat r23.2)]?).bind fun e26 =>
        some (r25.1, (j22.2.2.2.set (Int.toNat r23.2) (r25.2, e26.2)))
      else
        bif (decide (r24.2 = 1)) then
          (j22.2.2.2[(Int.toNat r23.2)]?).bind fun e27 =>
          (s_l1Cur_among r24.1 [(-1), e27.2.2.1]).bind fun r28 =>
          (j22.2.2.2[(Int.toNat r23.2)]?).bind fun e29 =>
          some (r28.1, (j22.2.2.2.set (Int.toNat r23.2) (e29.1, r28.2, e29.2.2)))
        else
          bif (decide (r24.2 = 2)) then
            (j22.2.2.2[(Int.toNat r23.2)]?).bind fun e30 =>
            (s_l1Cur_among r24.1 [e30.2.1, 10000, 10001]).bind fun r31 =>
            (j22.2.2.2[(Int.toNat r23.2)]?).bind fun e32 =>
            some (r31.1, (j22.2.2.2.set (Int.toNat r23.2) (e32.1, e32.2.1, r31.2, ())))
          else
            some (r24.1, j22.2.2.2)
    else
      none
  else
    some ((j22.1, j22.2.1, j22.2.2.1, ()), j22.2.2.2)
noncomputable def C149 : FnSpec := { ps := [.mbox TGl1Cur, .val TGNet], rs := [.own (.slice TGLink)], fn := fun x => s_l1Cur_fog x.1 x.2 }
noncomputable def E149 : Env := { T := [(3, (.int .i64)), (33, (.slice TGLink)), (35, TGNet), (36, (.slice TGLink)), (45, (.slice (.int .i64))), (120, TGLink)], G := [(110, C110), (112, C112), (115, C115)], ro := [3], loops := [(4, { keep := [3, 6, 17, 60, 61], live := [.bx 0 100000 [.pv (.slice (.int .u8)), .pv (.int .i64), .pv (.int .u64)], .own 5 [] 200005 TGLink true, .tv 18 (.int .i64)], outs := [(.exit 0, [.bx 0 100000 [.pv (.slice (.int .u8)), .pv (.int .i64), .pv (.int .u64)], .own 5 [] 200005 TGLink true])] }), (8, { keep := [3, 6, 7, 17, 18, 60, 61], live := [.bx 0 100000 [.pv (.slice (.int .u8)), .pv (.int .i64), .pv (.int .u64)], .own 5 [] 200005 TGLink true, .tv 8 (.int .i64), .tv 9 (.int .i64)], outs := [(.exit 2, [.bx 0 100000 [.pv (.slice (.int .u8)), .pv (.int .i64), .pv (.int .u64)], .own 5 [] 200005 TGLink true])] }), (19, { keep := [3, 11], live := [.bx 0 100000 [.pv (.slice (.int .u8)), .pv (.int .i64), .pv (.int .u64)], .own 5 [] 200005 TGLink true], outs := [(.exit 4, [.bx 0 100000 [.pv (.slice (.int .u8)), .pv (.int .i64), .pv (.int .u64)], .own 5 [] 200005 TGLink true])] })], joins := [(16, { keep := [3], live := [], outs := [(.normal, [.bx 0 100000 [.pv (.slice (.int .u8)), .pv (.int .i64), .pv (.int .u64)], .own 5 [] 200005 TGLink true])] }), (21, { keep := [3], live := [], outs := [(.normal, [.bx 0 100000 [.pv (.slice (.int .u8)), .pv (.int .i64), .pv (.int .u64)], .own 5 [] 200005 TGLink true])] })], forks := [59], hoist := [(12, [0])], aside := [(47, 100000)], trim := [54] }
theorem E149_eq : ∀ x, afun E149 Try.f149 C149.ps C149.rs x = C149.fn x := fun x => by kernel_rfl
theorem S149 : Sound Try.prog 149 C149 := fun_sound_box (E := E149) ⟨good_T (by kernel_rfl), (good_cons S110 ⟨_, Try.func110, by kernel_rfl, by kernel_rfl⟩ (good_cons S112 ⟨_, Try.func112, by kernel_rfl, by kernel_rfl⟩ (good_cons S115 ⟨_, Try.func115, by kernel_rfl, by kernel_rfl⟩ good_nil))), mixedOk, ins_nil⟩ Try.func149 rfl E149_eq
noncomputable def s_l1Cur_foggy (p_c : Gl1Cur) : Option (Gl1Cur × GNet × (List GLink)) :=
  (s_l1Cur_net p_c).bind fun r1 =>
  (s_l1Cur_one r1.1 20).bind fun r2 =>
  bif r2.2 then
    (s_l1Cur_anyNet r2.1).bind fun r3 =>
    (s_l1Cur_fog r3.1 r3.2).bind fun r4 =>
    some (r4.1, r3.2, r4.2)
  else
    (s_l1Cur_fog r2.1 r1.2).bind fun r5 =>
    some (r5.1, r1.2, r5.2)
noncomputable def C117 : FnSpec := { ps := [.mbox TGl1Cur], rs := [.val TGNet, .val (.slice TGLink)], fn := fun x => s_l1Cur_foggy x }
noncomputable def E117 : Env := { T := [(35, TGNet)], G := [(112, C112), (147, C147), (148, C148), (149, C149)], ro := [], loops := [], joins := [], pre := [(4, [160, 161, 96, 97])], aside := [(14, 100000)] }
theorem E117_eq : ∀ x, afun E117 Try.f117 C117.ps C117.rs x = C117.fn x := fun x => by kernel_rfl
theorem S117 : Sound Try.prog 117 C117 := fun_sound_box (E := E117) ⟨good_T (by kernel_rfl), (good_cons S112 ⟨_, Try.func112, by kernel_rfl, by kernel_rfl⟩ (good_cons S147 ⟨_, Try.func147, by kernel_rfl, by kernel_rfl⟩ (good_cons S148 ⟨_, Try.func148, by kernel_rfl, by kernel_rfl⟩ (good_cons S149 ⟨_, Try.func149, by kernel_rfl, by kernel_rfl⟩ good_nil)))), mixedOk, ins_nil⟩ Try.func117 rfl E117_eq
noncomputable def s_l1Cur_network (p_c : Gl1Cur) : Option (Gl1Cur × GNetwork) :=
  (s_l1Cur_foggy p_c).bind fun r1 =>
  (s_NewNetwork r1.2.1 r1.2.2).bind fun r2 =>
  bif (!r2.2) then
    some (r1.1, (r1.2.1, r1.2.2, 0, [], ()))
  else
    (s_l1Cur_pick r1.1 14).bind fun r3 =>
    (loopE (fun (st6 : (List Int) × Int × Int × (List GLink) × (List GLink) × (List GLink) × Int × (List GParcel) × (List GLink) × (List GLink) × (List GLink) × Int × (List GParcel) × Int) => (
        bif (decide (0 < st6.2.2.2.2.2.2.2.2.2.2.2.2.2)) then
          (s_l1Cur_act (st6.1, st6.2.1, st6.2.2.1, ()) ((st6.2.2.2.2.2.2.2.2.1, st6.2.2.2.2.2.2.2.2.2.1, ()), st6.2.2.2.2.2.2.2.2.2.2.1, st6.2.2.2.2.2.2.2.2.2.2.2.1, st6.2.2.2.2.2.2.2.2.2.2.2.2.1, ())).bind fun r7 =>
          (s_nwAct ((st6.2.2.2.2.2.2.2.2.1, st6.2.2.2.2.2.2.2.2.2.1, ()), st6.2.2.2.2.2.2.2.2.2.2.1, st6.2.2.2.2.2.2.2.2.2.2.2.1, st6.2.2.2.2.2.2.2.2.2.2.2.2.1, ()) r7.2).bind fun r8 =>
          bif r8.2 then
            some (.inl (r7.1.1, r7.1.2.1, r7.1.2.2.1, st6.2.2.2.1, st6.2.2.2.2.1, st6.2.2.2.2.2.1, st6.2.2.2.2.2.2.1, st6.2.2.2.2.2.2.2.1, r8.1.1.1, r8.1.1.2.1, r8.1.2.1, r8.1.2.2.1, r8.1.2.2.2.1, (w64 (st6.2.2.2.2.2.2.2.2.2.2.2.2.2 - 1))))
          else
            some (.inl (r7.1.1, r7.1.2.1, r7.1.2.2.1, st6.2.2.2.1, st6.2.2.2.2.1, st6.2.2.2.2.2.1, st6.2.2.2.2.2.2.1, st6.2.2.2.2.2.2.2.1, st6.2.2.2.2.2.2.2.2.1, st6.2.2.2.2.2.2.2.2.2.1, st6.2.2.2.2.2.2.2.2.2.2.1, st6.2.2.2.2.2.2.2.2.2.2.2.1, st6.2.2.2.2.2.2.2.2.2.2.2.2.1, (w64 (st6.2.2.2.2.2.2.2.2.2.2.2.2.2 - 1))))
        else
          some (.inr (st6.1, st6.2.1, st6.2.2.1, st6.2.2.2.1, st6.2.2.2.2.1, st6.2.2.2.2.2.1, st6.2.2.2.2.2.2.1, st6.2.2.2.2.2.2.2.1, st6.2.2.2.2.2.2.2.2.1, st6.2.2.2.2.2.2.2.2.2.1, st6.2.2.2.2.2.2.2.2.2.2.1, st6.2.2.2.2.2.2.2.2.2.2.2.1, st6.2.2.2.2.2.2.2.2.2.2.2.2.1)) : Option (((List Int) × Int × Int × (List GLink) × (List GLink) × (List GLink) × Int × (List GParcel) × (List GLink) × (List GLink) × (List GLink) × Int × (List GParcel) × Int) ⊕ (((List Int) × Int × Int × (List GLink) × (List GLink) × (List GLink) × Int × (List GParcel) × (List GLink) × (List GLink) × (List GLink) × Int × (List GParcel)))))) (r3.1.1, r3.1.2.1, r3.1.2.2.1, [], [], [], 0, [], r2.1.1.1, r2.1.1.2.1, r2.1.2.1, r2.1.2.2.1, r2.1.2.2.2.1, r3.2)).bind fun o9 =>
    (s_nwOwn ((o9.2.2.2.2.2.2.2.2.1, o9.2.2.2.2.2.2.2.2.2.1, ()), o9.2.2.2.2.2.2.2.2.2.2.1, o9.2.2.2.2.2.2.2.2.2.2.2.1, o9.2.2.2.2.2.2.2.2.2.2.2.2, ())).bind fun r10 =>
    (bif (decide (0 < (r10.2.2.2.1.length : Int))) then
        (s_l1Cur_pick (o9.1, o9.2.1, o9.2.2.1, ()) (r10.2.2.2.1.length : Int)).bind fun r11 =>
        bif decide (0 ≤ r11.2) && decide (r11.2 < (r10.2.2.2.1.length : Int)) then
          (s_l1Cur_pick r11.1 30).bind fun r12 =>
          bif (decide (r12.2 = 0)) then
            (s_l1Cur_among r12.1 [0, 1, 999, 1000]).bind fun r13 =>
            (r10.2.2.2.1[(Int.toNat r11.2)]?).bind fun e14 =>
            some (r13.1.1, r13.1.2.1, r13.1.2.2.1, o9.2.2.2.1, o9.2.2.2.2.1, o9.2.2.2.2.2.1, o9.2.2.2.2.2.2.1, o9.2.2.2.2.2.2.2.1, r10.1.1, r10.1.2.1, r10.2.1, r10.2.2.1, (r10.2.2.2.1.set (Int.toNat r11.2) (r13.2, e14.2)))
          else
            bif (decide (r12.2 = 1)) then
              (r10.2.2.2.1[(Int.toNat r11.2)]?).bind fun e15 =>
              (s_l1Cur_among r12.1 [(-1), 0, 1, e15.2.2.1]).bind fun r16 =>
              (r10.2.2.2.1[(Int.toNat r11.2)]?).bind fun e17 =>
              some (r16.1.1, r16.1.2.1, r16.1.2.2.1, o9.2.2.2.1, o9.2.2.2.2.1, o9.2.2.2.2.2.1, o9.2.2.2.2.2.2.1, o9.2.2.2.2.2.2.2.1, r10.1.1, r10.1.2.1, r10.2.1, r10.2.2.1, (r10.2.2.2.1.set (Int.toNat r11.2) (e17.1, r16.2, e17.2.2)))
            else
              bif (decide (r12.2 = 2)) then
                (s_l1Cur_among r12.1 [0, 1, 2, 9, 10]).bind fun r18 =>
                (r10.2.2.2.1[(Int.toNat r11.2)]?).bind fun e19 =>
                some (r18.1.1, r18.1.2.1, r18.1.2.2.1, o9.2.2.2.1, o9.2.2.2.2.1, o9.2.2.2.2.2.1, o9.2.2.2.2.2.2.1, o9.2.2.2.2.2.2.2.1, r10.1.1, r10.1.2.1, r10.2.1, r10.2.2.1, (r10.2.2.2.1.set (Int.toNat r11.2) (e19.1, e19.2.1, r18.2, e19.2.2.2)))
              else
                bif (decide (r12.2 = 3)) then
                  (s_l1Cur_among r12.1 [(-1), (r10.1.1.length : Int)]).bind fun r20 =>
                  (r10.2.2.2.1[(Int.toNat r11.2)]?).bind fun e21 =>
                  some (r20.1.1, r20.1.2.1, r20.1.2.2.1, o9.2.2.2.1, o9.2.2.2.2.1, o9.2.2.2.2.2.1, o9.2.2.2.2.2.2.1, o9.2.2.2.2.2.2.2.1, r10.1.1, r10.1.2.1, r10.2.1, r10.2.2.1, (r10.2.2.2.1.set (Int.toNat r11.2) (e21.1, e21.2.1, e21.2.2.1, r20.2, e21.2.2.2.2)))
                else
                  bif (decide (r12.2 = 4)) then
                    (s_l1Cur_among r12.1 [(-1), 0, (r10.1.1.length : Int)]).bind fun r22 =>
                    (r10.2.2.2.1[(Int.toNat r11.2)]?).bind fun e23 =>
                    some (r22.1.1, r22.1.2.1, r22.1.2.2.1, o9.2.2.2.1, o9.2.2.2.2.1, o9.2.2.2.2.2.1, o9.2.2.2.2.2.2.1, o9.2.2.2.2.2.2.2.1, r10.1.1, r10.1.2.1, r10.2.1, r10.2.2.1, (r10.2.2.2.1.set (Int.toNat r11.2) (e23.1, e23.2.1, e23.2.2.1, e23.2.2.2.1, r22.2, e23.2.2.2.2.2)))
                  else
                    bif (decide (r12.2 = 5)) then
                      (s_l1Cur_among r12.1 [(-1), 20000, 20001]).bind fun r24 =>
                      (r10.2.2.2.1[(Int.toNat r11.2)]?).bind fun e25 =>
                      some (r24.1.1, r24.1.2.1, r24.1.2.2.1, o9.2.2.2.1, o9.2.2.2.2.1, o9.2.2.2.2.2.1, o9.2.2.2.2.2.2.1, o9.2.2.2.2.2.2.2.1, r10.1.1, r10.1.2.1, r10.2.1, r10.2.2.1, (r10.2.2.2.1.set (Int.toNat r11.2) (e25.1, e25.2.1, e25.2.2.1, e25.2.2.2.1, e25.2.2.2.2.1, r24.2, ())))
                    else
                      bif (decide (r12.2 = 6)) then
                        bif decide (0 ≤ 0) && (decide (0 ≤ r11.2) && decide (r11.2 ≤ (r10.2.2.2.1.length : Int))) then
                          bif decide (0 ≤ (w64 (r11.2 + 1))) && (decide ((w64 (r11.2 + 1)) ≤ (r10.2.2.2.1.length : Int)) && decide ((r10.2.2.2.1.length : Int) ≤ (r10.2.2.2.1.length : Int))) then
                            bif Nat.ble (Int.toNat r11.2) (Int.toNat (w64 (r11.2 + 1))) && decide (List.length r10.2.2.2.1 ≤ lim) then
                              some (r12.1.1, r12.1.2.1, r12.1.2.2.1, o9.2.2.2.1, o9.2.2.2.2.1, o9.2.2.2.2.2.1, o9.2.2.2.2.2.2.1, o9.2.2.2.2.2.2.2.1, r10.1.1, r10.1.2.1, r10.2.1, r10.2.2.1, (List.take (Int.toNat r11.2) r10.2.2.2.1 ++ List.drop (Int.toNat (w64 (r11.2 + 1))) (List.take (Int.toNat (r10.2.2.2.1.length : Int)) r10.2.2.2.1)))
                            else
                              none
                          else
                            none
                        else
                          none
                      else
                        some (r12.1.1, r12.1.2.1, r12.1.2.2.1, o9.2.2.2.1, o9.2.2.2.2.1, o9.2.2.2.2.2.1, o9.2.2.2.2.2.2.1, o9.2.2.2.2.2.2.2.1, r10.1.1, r10.1.2.1, r10.2.1, r10.2.2.1, r10.2.2.2.1)
        else
          none
      else
        some (o9.1, o9.2.1, o9.2.2.1, o9.2.2.2.1, o9.2.2.2.2.1, o9.2.2.2.2.2.1, o9.2.2.2.2.2.2.1, o9.2.2.2.2.2.2.2.1, r10.1.1, r10.1.2.1, r10.2.1, r10.2.2.1, r10.2.2.2.1)).bind fun j26 =>
    ((s_l1Cur_one (j26.1, j26.2.1, j26.2.2.1, ()) 24).bind fun r27 =>
      bif r27.2 then
        (s_l1Cur_among r27.1 [(-1), 9999, 10000, 10001]).bind fun r28 =>
        some (r28.1.1, r28.1.2.1, r28.1.2.2.1, j26.2.2.2.1, j26.2.2.2.2.1, j26.2.2.2.2.2.1, j26.2.2.2.2.2.2.1, j26.2.2.2.2.2.2.2.1, j26.2.2.2.2.2.2.2.2.1, j26.2.2.2.2.2.2.2.2.2.1, j26.2.2.2.2.2.2.2.2.2.2.1, r28.2, j26.2.2.2.2.2.2.2.2.2.2.2.2)
      else
        some (r27.1.1, r27.1.2.1, r27.1.2.2.1, j26.2.2.2.1, j26.2.2.2.2.1, j26.2.2.2.2.2.1, j26.2.2.2.2.2.2.1, j26.2.2.2.2.2.2.2.1, j26.2.2.2.2.2.2.2.2.1, j26.2.2.2.2.2.2.2.2.2.1, j26.2.2.2.2.2.2.2.2.2.2.1, j26.2.2.2.2.2.2.2.2.2.2.2.1, j26.2.2.2.2.2.2.2.2.2.2.2.2)).bind fun j29 =>
    (s_l1Cur_one (j29.1, j29.2.1, j29.2.2.1, ()) 24).bind fun r30 =>
    bif r30.2 then
      (s_l1Cur_pick r30.1 2).bind fun r31 =>
      (loopE (fun (st33 : (List Int) × Int × Int × (List GLink) × (List GLink) × (List GLink) × Int × (List GParcel) × (List GLink) × (List GLink) × (List GLink) × Int × (List GParcel)) => (
          bif (decide ((st33.2.2.2.2.2.2.2.2.2.2.2.2.length : Int) < (w64 (40 + r31.2)))) then
            bif decide (List.length st33.2.2.2.2.2.2.2.2.2.2.2.2 + List.length [((w64 (1 + (st33.2.2.2.2.2.2.2.2.2.2.2.2.length : Int))), 0, 1, 0, 0, 0, ())] ≤ lim) then
              some (.inl (st33.1, st33.2.1, st33.2.2.1, st33.2.2.2.1, st33.2.2.2.2.1, st33.2.2.2.2.2.1, st33.2.2.2.2.2.2.1, st33.2.2.2.2.2.2.2.1, st33.2.2.2.2.2.2.2.2.1, st33.2.2.2.2.2.2.2.2.2.1, st33.2.2.2.2.2.2.2.2.2.2.1, st33.2.2.2.2.2.2.2.2.2.2.2.1, (st33.2.2.2.2.2.2.2.2.2.2.2.2 ++ [((w64 (1 + (st33.2.2.2.2.2.2.2.2.2.2.2.2.length : Int))), 0, 1, 0, 0, 0, ())])))
            else
              none
          else
            some (.inr (st33.1, st33.2.1, st33.2.2.1, st33.2.2.2.1, st33.2.2.2.2.1, st33.2.2.2.2.2.1, st33.2.2.2.2.2.2.1, st33.2.2.2.2.2.2.2.1, st33.2.2.2.2.2.2.2.2.1, st33.2.2.2.2.2.2.2.2.2.1, st33.2.2.2.2.2.2.2.2.2.2.1, st33.2.2.2.2.2.2.2.2.2.2.2.1, st33.2.2.2.2.2.2.2.2.2.2.2.2)) : Option (((List Int) × Int × Int × (List GLink) × (List GLink) × (List GLink) × Int × (List GParcel) × (List GLink) × (List GLink) × (List GLink) × Int × (List GParcel)) ⊕ (((List Int) × Int × Int × (List GLink) × (List GLink) × (List GLink) × Int × (List GParcel) × (List GLink) × (List GLink) × (List GLink) × Int × (List GParcel)))))) (r31.1.1, r31.1.2.1, r31.1.2.2.1, j29.2.2.2.1, j29.2.2.2.2.1, j29.2.2.2.2.2.1, j29.2.2.2.2.2.2.1, j29.2.2.2.2.2.2.2.1, j29.2.2.2.2.2.2.2.2.1, j29.2.2.2.2.2.2.2.2.2.1, j29.2.2.2.2.2.2.2.2.2.2.1, j29.2.2.2.2.2.2.2.2.2.2.2.1, [])).bind fun o34 =>
      some ((o34.1, o34.2.1, o34.2.2.1, ()), ((o34.2.2.2.2.2.2.2.2.1, o34.2.2.2.2.2.2.2.2.2.1, ()), o34.2.2.2.2.2.2.2.2.2.2.1, o34.2.2.2.2.2.2.2.2.2.2.2.1, o34.2.2.2.2.2.2.2.2.2.2.2.2, ()))
    else
      some (r30.1, ((j29.2.2.2.2.2.2.2.2.1, j29.2.2.2.2.2.2.2.2.2.1, ()), j29.2.2.2.2.2.2.2.2.2.2.1, j29.2.2.2.2.2.2.2.2.2.2.2.1, j29.2.2.2.2.2.2.2.2.2.2.2.2, ()))
noncomputable def C109 : FnSpec := { ps := [.mbox TGl1Cur], rs := [.val TGNetwork], fn := fun x => s_l1Cur_network x }
noncomputable def E109 : Env := { T := [(3, (.int .i64)), (32, (.slice TGLink)), (35, TGNet), (37, (.slice TGParcel)), (39, TGNetwork), (45, (.slice (.int .i64))), (88, TGParcel)], G := [(30, C30), (86, C86), (105, C105), (110, C110), (111, C111), (112, C112), (115, C115), (117, C117)], ro := [], loops := [(6, { keep := [], live := [.bx 0 100000 [.pv (.slice (.int .u8)), .pv (.int .i64), .pv (.int .u64)], .bx 2 32 [.own 300032 TGLink true, .own 300033 TGLink true, .own 300034 TGLink true, .pv (.int .i64), .own 300036 TGParcel true], .bx 5 80 [.pv (.slice TGLink), .pv (.slice TGLink), .pv (.slice TGLink), .pv (.int .i64), .pv (.slice TGParcel)], .tv 7 (.int .i64)], outs := [(.exit 0, [.bx 0 100000 [.pv (.slice (.int .u8)), .pv (.int .i64), .pv (.int .u64)], .bx 2 32 [.own 300032 TGLink true, .own 300033 TGLink true, .own 300034 TGLink true, .pv (.int .i64), .own 300036 TGParcel true], .bx 5 80 [.pv (.slice TGLink), .pv (.slice TGLink), .pv (.slice TGLink), .pv (.int .i64), .pv (.slice TGParcel)]])] }), (35, { keep := [12], live := [.bx 0 100000 [.pv (.slice (.int .u8)), .pv (.int .i64), .pv (.int .u64)], .bx 2 32 [.own 300032 TGLink true, .own 300033 TGLink true, .own 300034 TGLink true, .pv (.int .i64), .own 300036 TGParcel true], .bx 5 80 [.own 736 TGLink true, .own 737 TGLink true, .own 738 TGLink true, .pv (.int .i64), .own 300084 TGParcel true]], outs := [(.exit 3, [.bx 0 100000 [.pv (.slice (.int .u8)), .pv (.int .i64), .pv (.int .u64)], .bx 2 32 [.own 300032 TGLink true, .own 300033 TGLink true, .own 300034 TGLink true, .pv (.int .i64), .own 300036 TGParcel true], .bx 5 80 [.own 736 TGLink true, .own 737 TGLink true, .own 738 TGLink true, .pv (.int .i64), .own 300084 TGParcel true]])] })], joins := [(30, { keep := [], live := [], outs := [(.normal, [.bx 0 100000 [.pv (.slice (.int .u8)), .pv (.int .i64), .pv (.int .u64)], .bx 2 32 [.own 300032 TGLink true, .own 300033 TGLink true, .own 300034 TGLink true, .pv (.int .i64), .own 300036 TGParcel true], .bx 5 80 [.own 736 TGLink true, .own 737 TGLink true, .own 738 TGLink true, .pv (.int .i64), .own 739 TGParcel true]])] }), (32, { keep := [], live := [], outs := [(.normal, [.bx 0 100000 [.pv (.slice (.int .u8)), .pv (.int .i64), .pv (.int .u64)], .bx 2 32 [.own 300032 TGLink true, .own 300033 TGLink true, .own 300034 TGLink true, .pv (.int .i64), .own 300036 TGParcel true], .bx 5 80 [.own 736 TGLink true, .own 737 TGLink true, .own 738 TGLink true, .pv (.int .i64), .own 739 TGParcel true]])] })], pre := [(8, [336, 337, 338, 339])], aside := [(39, 100000)], swaps := [(8, [(7, 9)])], win := [127, 132] }
theorem E109_eq : ∀ x, afun E109 Try.f109 C109.ps C109.rs x = C109.fn x := fun x => by kernel_rfl
theorem S109 : Sound Try.prog 109 C109 := fun_sound_box (E := E109) ⟨good_T (by kernel_rfl), (good_cons S30 ⟨_, Try.func30, by kernel_rfl, by kernel_rfl⟩ (good_cons S86 ⟨_, Try.func86, by kernel_rfl, by kernel_rfl⟩ (good_cons S105 ⟨_, Try.func105, by kernel_rfl, by kernel_rfl⟩ (good_cons S110 ⟨_, Try.func110, by kernel_rfl, by kernel_rfl⟩ (good_cons S111 ⟨_, Try.func111, by kernel_rfl, by kernel_rfl⟩ (good_cons S112 ⟨_, Try.func112, by kernel_rfl, by kernel_rfl⟩ (good_cons S115 ⟨_, Try.func115, by kernel_rfl, by kernel_rfl⟩ (good_cons S117 ⟨_, Try.func117, by kernel_rfl, by kernel_rfl⟩ good_nil)))))))), mixedOk, ins_nil⟩ Try.func109 rfl E109_eq
noncomputable def s_l1Cur_tower (p_c : Gl1Cur) (p_n : GNet) : Option (Gl1Cur × Int) :=
  (s_l1Cur_pick p_c 16).bind fun r1 =>
  (s_l1Cur_pick r1.1 (w64 ((p_n.1.length : Int) + (w64 (Int.tdiv r1.2 15))))).bind fun r2 =>
  (s_l1Cur_pick r2.1 24).bind fun r3 =>
  some (r3.1, (w64 (r2.2 - (w64 (Int.tdiv r3.2 23)))))
noncomputable def C116 : FnSpec := { ps := [.mbox TGl1Cur, .val TGNet], rs := [.val (.int .i64)], fn := fun x => s_l1Cur_tower x.1 x.2 }
noncomputable def E116 : Env := { T := [(32, (.slice TGLink)), (35, TGNet)], G := [(110, C110)], ro := [3], loops := [], joins := [], hoist := [(1, [0])], aside := [(10, 100000), (13, 100000)] }
theorem E116_eq : ∀ x, afun E116 Try.f116 C116.ps C116.rs x = C116.fn x := fun x => by kernel_rfl
theorem S116 : Sound Try.prog 116 C116 := fun_sound_box (E := E116) ⟨good_T (by kernel_rfl), (good_cons S110 ⟨_, Try.func110, by kernel_rfl, by kernel_rfl⟩ good_nil), mixedOk, ins_nil⟩ Try.func116 rfl E116_eq
noncomputable def i_NewNetwork (p_n : GNet) (p_f : List GLink) : Option (GNetwork × Bool) :=
  (i_IsNet p_n).bind fun r1 =>
  (bif (!r1) then
      some true
    else
      (i_areFogs p_n p_f).bind fun r2 =>
      some (!r2)).bind fun c3 =>
  bif c3 then
    some ((([], [], ()), [], 0, [], ()), false)
  else
    (i_cloneNet p_n).bind fun r4 =>
    (slices_Clone_Fog p_f).bind fun r5 =>
    some ((r4, r5, 0, [], ()), true)
noncomputable def C33 : FnSpec := { ps := [.val TGNet, .val (.slice TGLink)], rs := [.own TGNetwork, .val .bool], fn := fun x => i_NewNetwork x.1 x.2 }
noncomputable def E33 : Env := { T := [(35, TGNet), (39, TGNetwork)], G := [(72, C72), (73, C73), (90, C90), (91, C91)], ro := [2], loops := [], joins := [] }
theorem E33_eq : ∀ x, afun E33 Try.f33 C33.ps C33.rs x = C33.fn x := fun x => by kernel_rfl
theorem S33 : Sound Try.prog 33 C33 := fun_sound (E := E33) ⟨good_T (by kernel_rfl), (good_cons S72 ⟨_, Try.func72, by kernel_rfl, by kernel_rfl⟩ (good_cons S73 ⟨_, Try.func73, by kernel_rfl, by kernel_rfl⟩ (good_cons S90 ⟨_, Try.func90, by kernel_rfl, by kernel_rfl⟩ (good_cons S91 ⟨_, Try.func91, by kernel_rfl, by kernel_rfl⟩ good_nil)))), mixedOk, ins_nil⟩ Try.func33 rfl E33_eq
noncomputable def s_AcceptParcels (p_w : GNetwork) (p_message : Int) (p_from : Int) (p_to : Int) (p_parts : Int) : Option (GNetwork × Bool) :=
  (s_nwAsked p_w (1, p_message, p_from, p_to, p_parts, ())).bind fun r1 =>
  some (r1.1, r1.2)
noncomputable def C46 : FnSpec := { ps := [.val TGNetwork, .val (.int .i64), .val (.int .i64), .val (.int .i64), .val (.int .i64)], rs := [.own TGNetwork, .val .bool], fn := fun x => s_AcceptParcels x.1 x.2.1 x.2.2.1 x.2.2.2.1 x.2.2.2.2 }
noncomputable def E46 : Env := { T := [(39, TGNetwork), (135, TGAct)], G := [(103, C103)], ro := [5], loops := [], joins := [] }
theorem E46_eq : ∀ x, afun E46 Try.f46 C46.ps C46.rs x = C46.fn x := fun x => by kernel_rfl
theorem S46 : Sound Try.prog 46 C46 := fun_sound (E := E46) ⟨good_T (by kernel_rfl), (good_cons S103 ⟨_, Try.func103, by kernel_rfl, by kernel_rfl⟩ good_nil), mixedOk, ins_nil⟩ Try.func46 rfl E46_eq
noncomputable def i_AcceptParcels (p_w : GNetwork) (p_message : Int) (p_from : Int) (p_to : Int) (p_parts : Int) : Option (GNetwork × Bool) :=
  (i_IsNetwork p_w).bind fun r1 =>
  bif (!r1) then
    some ((([], [], ()), [], 0, [], ()), false)
  else
    (i_actOn p_w (1, p_message, p_from, p_to, p_parts, ())).bind fun r2 =>
    some (r2.1, r2.2)
noncomputable def C47 : FnSpec := { ps := [.val TGNetwork, .val (.int .i64), .val (.int .i64), .val (.int .i64), .val (.int .i64)], rs := [.own TGNetwork, .val .bool], fn := fun x => i_AcceptParcels x.1 x.2.1 x.2.2.1 x.2.2.2.1 x.2.2.2.2 }
noncomputable def E47 : Env := { T := [(39, TGNetwork), (135, TGAct)], G := [(18, C18), (104, C104)], ro := [5], loops := [], joins := [] }
theorem E47_eq : ∀ x, afun E47 Try.f47 C47.ps C47.rs x = C47.fn x := fun x => by kernel_rfl
theorem S47 : Sound Try.prog 47 C47 := fun_sound (E := E47) ⟨good_T (by kernel_rfl), (good_cons S18 ⟨_, Try.func18, by kernel_rfl, by kernel_rfl⟩ (good_cons S104 ⟨_, Try.func104, by kernel_rfl, by kernel_rfl⟩ good_nil)), mixedOk, ins_nil⟩ Try.func47 rfl E47_eq
noncomputable def s_RunActs (p_w : GNetwork) (p_l : List GAct) : Option (GNetwork × Int × Bool) :=
  (s_nwGood p_w).bind fun r1 =>
  (bif (!r1) then
      some true
    else
      some (decide (100 < (p_l.length : Int)))).bind fun c2 =>
  bif c2 then
    some ((([], [], ()), [], 0, [], ()), 0, false)
  else
    (s_nwOwn p_w).bind fun r3 =>
    (loopE (fun (st5 : (List GLink) × (List GLink) × (List GLink) × Int × (List GParcel) × (List GLink) × (List GLink) × (List GLink) × Int × (List GParcel) × Int) => (
        bif (decide (st5.2.2.2.2.2.2.2.2.2.2 < (p_l.length : Int))) then
          (idx p_l st5.2.2.2.2.2.2.2.2.2.2).bind fun e6 =>
          (s_nwAct ((st5.2.2.2.2.2.1, st5.2.2.2.2.2.2.1, ()), st5.2.2.2.2.2.2.2.1, st5.2.2.2.2.2.2.2.2.1, st5.2.2.2.2.2.2.2.2.2.1, ()) e6).bind fun r7 =>
          bif (!r7.2) then
            some (.inr (.inr (st5.2.2.2.2.2.1, st5.2.2.2.2.2.2.1, st5.2.2.2.2.2.2.2.1, st5.2.2.2.2.2.2.2.2.1, st5.2.2.2.2.2.2.2.2.2.1, st5.2.2.2.2.2.2.2.2.2.2, true)))
          else
            some (.inl (st5.1, st5.2.1, st5.2.2.1, st5.2.2.2.1, st5.2.2.2.2.1, r7.1.1.1, r7.1.1.2.1, r7.1.2.1, r7.1.2.2.1, r7.1.2.2.2.1, (w64 (st5.2.2.2.2.2.2.2.2.2.2 + 1))))
        else
          some (.inr (.inl (st5.1, st5.2.1, st5.2.2.1, st5.2.2.2.1, st5.2.2.2.2.1, st5.2.2.2.2.2.1, st5.2.2.2.2.2.2.1, st5.2.2.2.2.2.2.2.1, st5.2.2.2.2.2.2.2.2.1, st5.2.2.2.2.2.2.2.2.2.1))) : Option (((List GLink) × (List GLink) × (List GLink) × Int × (List GParcel) × (List GLink) × (List GLink) × (List GLink) × Int × (List GParcel) × Int) ⊕ (((List GLink) × (List GLink) × (List GLink) × Int × (List GParcel) × (List GLink) × (List GLink) × (List GLink) × Int × (List GParcel)) ⊕ ((List GLink) × (List GLink) × (List GLink) × Int × (List GParcel) × Int × Bool))))) ([], [], [], 0, [], r3.1.1, r3.1.2.1, r3.2.1, r3.2.2.1, r3.2.2.2.1, 0)).bind fun o8 =>
    match o8 with
    | .inl x9 =>
      some (((x9.2.2.2.2.2.1, x9.2.2.2.2.2.2.1, ()), x9.2.2.2.2.2.2.2.1, x9.2.2.2.2.2.2.2.2.1, x9.2.2.2.2.2.2.2.2.2, ()), (p_l.length : Int), true)
    | .inr y10 =>
      some (((y10.1, y10.2.1, ()), y10.2.2.1, y10.2.2.2.1, y10.2.2.2.2.1, ()), y10.2.2.2.2.2.1, y10.2.2.2.2.2.2)
noncomputable def C53 : FnSpec := { ps := [.val TGNetwork, .val (.slice TGAct)], rs := [.own TGNetwork, .val (.int .i64), .val .bool], fn := fun x => s_RunActs x.1 x.2 }
noncomputable def E53 : Env := { T := [(39, TGNetwork), (78, (.slice TGAct)), (135, TGAct)], G := [(70, C70), (86, C86), (105, C105)], ro := [2], loops := [(5, { keep := [1, 23, 24], live := [.bx 4 64 [.own 300064 TGLink true, .own 300065 TGLink true, .own 300066 TGLink true, .pv (.int .i64), .own 300068 TGParcel true], .bx 7 112 [.own 352 TGLink true, .own 353 TGLink true, .own 354 TGLink true, .pv (.int .i64), .own 355 TGParcel true], .tv 25 (.int .i64)], outs := [(.exit 0, [.bx 4 64 [.own 300064 TGLink true, .own 300065 TGLink true, .own 300066 TGLink true, .pv (.int .i64), .own 300068 TGParcel true], .bx 7 112 [.own 352 TGLink true, .own 353 TGLink true, .own 354 TGLink true, .pv (.int .i64), .own 355 TGParcel true]]), (.ret, [.bx 4 64 [.own 352 TGLink true, .own 353 TGLink true, .own 354 TGLink true, .pv (.int .i64), .own 355 TGParcel true], .tv 5 (.int .i64), .tv 6 .bool])] })], joins := [] }
theorem E53_eq : ∀ x, afun E53 Try.f53 C53.ps C53.rs x = C53.fn x := fun x => by kernel_rfl
theorem S53 : Sound Try.prog 53 C53 := fun_sound (E := E53) ⟨good_T (by kernel_rfl), (good_cons S70 ⟨_, Try.func70, by kernel_rfl, by kernel_rfl⟩ (good_cons S86 ⟨_, Try.func86, by kernel_rfl, by kernel_rfl⟩ (good_cons S105 ⟨_, Try.func105, by kernel_rfl, by kernel_rfl⟩ good_nil))), mixedOk, ins_nil⟩ Try.func53 rfl E53_eq
noncomputable def i_RunActs (p_w : GNetwork) (p_l : List GAct) : Option (GNetwork × Int × Bool) :=
  (i_IsNetwork p_w).bind fun r1 =>
  (bif (!r1) then
      some true
    else
      some (decide (100 < (p_l.length : Int)))).bind fun c2 =>
  bif c2 then
    some ((([], [], ()), [], 0, [], ()), 0, false)
  else
    (i_cloneNetwork p_w).bind fun r3 =>
    (loopE (fun (st5 : (List GLink) × (List GLink) × (List GLink) × Int × (List GParcel) × (List GLink) × (List GLink) × (List GLink) × Int × (List GParcel) × Int) => (
        bif (decide (st5.2.2.2.2.2.2.2.2.2.2 < (p_l.length : Int))) then
          (idx p_l st5.2.2.2.2.2.2.2.2.2.2).bind fun e6 =>
          (i_actOn ((st5.1, st5.2.1, ()), st5.2.2.1, st5.2.2.2.1, st5.2.2.2.2.1, ()) e6).bind fun r7 =>
          bif (!r7.2) then
            some (.inr (.inr (st5.1, st5.2.1, st5.2.2.1, st5.2.2.2.1, st5.2.2.2.2.1, st5.2.2.2.2.2.2.2.2.2.2, true)))
          else
            some (.inl (r7.1.1.1, r7.1.1.2.1, r7.1.2.1, r7.1.2.2.1, r7.1.2.2.2.1, st5.2.2.2.2.2.1, st5.2.2.2.2.2.2.1, st5.2.2.2.2.2.2.2.1, st5.2.2.2.2.2.2.2.2.1, st5.2.2.2.2.2.2.2.2.2.1, (w64 (st5.2.2.2.2.2.2.2.2.2.2 + 1))))
        else
          some (.inr (.inl (st5.1, st5.2.1, st5.2.2.1, st5.2.2.2.1, st5.2.2.2.2.1, st5.2.2.2.2.2.1, st5.2.2.2.2.2.2.1, st5.2.2.2.2.2.2.2.1, st5.2.2.2.2.2.2.2.2.1, st5.2.2.2.2.2.2.2.2.2.1))) : Option (((List GLink) × (List GLink) × (List GLink) × Int × (List GParcel) × (List GLink) × (List GLink) × (List GLink) × Int × (List GParcel) × Int) ⊕ (((List GLink) × (List GLink) × (List GLink) × Int × (List GParcel) × (List GLink) × (List GLink) × (List GLink) × Int × (List GParcel)) ⊕ ((List GLink) × (List GLink) × (List GLink) × Int × (List GParcel) × Int × Bool))))) (r3.1.1, r3.1.2.1, r3.2.1, r3.2.2.1, r3.2.2.2.1, [], [], [], 0, [], 0)).bind fun o8 =>
    match o8 with
    | .inl x9 =>
      some (((x9.1, x9.2.1, ()), x9.2.2.1, x9.2.2.2.1, x9.2.2.2.2.1, ()), (p_l.length : Int), true)
    | .inr y10 =>
      some (((y10.1, y10.2.1, ()), y10.2.2.1, y10.2.2.2.1, y10.2.2.2.2.1, ()), y10.2.2.2.2.2.1, y10.2.2.2.2.2.2)
noncomputable def C55 : FnSpec := { ps := [.val TGNetwork, .val (.slice TGAct)], rs := [.own TGNetwork, .val (.int .i64), .val .bool], fn := fun x => i_RunActs x.1 x.2 }
noncomputable def E55 : Env := { T := [(39, TGNetwork), (78, (.slice TGAct)), (135, TGAct)], G := [(18, C18), (104, C104), (107, C107)], ro := [], loops := [(5, { keep := [1, 22, 23], live := [.bx 2 32 [.own 336 TGLink true, .own 337 TGLink true, .own 338 TGLink true, .pv (.int .i64), .own 339 TGParcel true], .bx 4 64 [.own 300064 TGLink true, .own 300065 TGLink true, .own 300066 TGLink true, .pv (.int .i64), .own 300068 TGParcel true], .tv 24 (.int .i64)], outs := [(.exit 0, [.bx 2 32 [.own 336 TGLink true, .own 337 TGLink true, .own 338 TGLink true, .pv (.int .i64), .own 339 TGParcel true], .bx 4 64 [.own 300064 TGLink true, .own 300065 TGLink true, .own 300066 TGLink true, .pv (.int .i64), .own 300068 TGParcel true]]), (.ret, [.bx 4 64 [.own 336 TGLink true, .own 337 TGLink true, .own 338 TGLink true, .pv (.int .i64), .own 339 TGParcel true], .tv 5 (.int .i64), .tv 6 .bool])] })], joins := [] }
theorem E55_eq : ∀ x, afun E55 Try.f55 C55.ps C55.rs x = C55.fn x := fun x => by kernel_rfl
theorem S55 : Sound Try.prog 55 C55 := fun_sound (E := E55) ⟨good_T (by kernel_rfl), (good_cons S18 ⟨_, Try.func18, by kernel_rfl, by kernel_rfl⟩ (good_cons S104 ⟨_, Try.func104, by kernel_rfl, by kernel_rfl⟩ (good_cons S107 ⟨_, Try.func107, by kernel_rfl, by kernel_rfl⟩ good_nil))), mixedOk, ins_nil⟩ Try.func55 rfl E55_eq
noncomputable def s_DrawRunActs (p_code : List Int) : Option (GNetwork × (List GAct)) :=
  (s_l1Cur_network (p_code, 0, 0, ())).bind fun r1 =>
  (s_l1Cur_pick r1.1 9).bind fun r2 =>
  (loopE (fun (st4 : (List GLink) × (List GLink) × (List GLink) × Int × (List GParcel) × (List Int) × Int × Int × (List GLink) × (List GLink) × (List GLink) × Int × (List GParcel) × (List GAct) × (List GLink) × (List GLink) × (List GLink) × Int × (List GParcel) × Int) => (
      bif (decide (0 < st4.2.2.2.2.2.2.2.2.2.2.2.2.2.2.2.2.2.2.2)) then
        (s_l1Cur_act (st4.2.2.2.2.2.1, st4.2.2.2.2.2.2.1, st4.2.2.2.2.2.2.2.1, ()) ((st4.2.2.2.2.2.2.2.2.2.2.2.2.2.2.1, st4.2.2.2.2.2.2.2.2.2.2.2.2.2.2.2.1, ()), st4.2.2.2.2.2.2.2.2.2.2.2.2.2.2.2.2.1, st4.2.2.2.2.2.2.2.2.2.2.2.2.2.2.2.2.2.1, st4.2.2.2.2.2.2.2.2.2.2.2.2.2.2.2.2.2.2.1, ())).bind fun r5 =>
        (s_nwGood ((st4.2.2.2.2.2.2.2.2.2.2.2.2.2.2.1, st4.2.2.2.2.2.2.2.2.2.2.2.2.2.2.2.1, ()), st4.2.2.2.2.2.2.2.2.2.2.2.2.2.2.2.2.1, st4.2.2.2.2.2.2.2.2.2.2.2.2.2.2.2.2.2.1, st4.2.2.2.2.2.2.2.2.2.2.2.2.2.2.2.2.2.2.1, ())).bind fun r6 =>
        bif r6 then
          (s_nwAct ((st4.2.2.2.2.2.2.2.2.2.2.2.2.2.2.1, st4.2.2.2.2.2.2.2.2.2.2.2.2.2.2.2.1, ()), st4.2.2.2.2.2.2.2.2.2.2.2.2.2.2.2.2.1, st4.2.2.2.2.2.2.2.2.2.2.2.2.2.2.2.2.2.1, st4.2.2.2.2.2.2.2.2.2.2.2.2.2.2.2.2.2.2.1, ()) r5.2).bind fun r7 =>
          bif r7.2 then
            bif decide (List.length st4.2.2.2.2.2.2.2.2.2.2.2.2.2.1 + List.length [r5.2] ≤ lim) then
              some (.inl (st4.1, st4.2.1, st4.2.2.1, st4.2.2.2.1, st4.2.2.2.2.1, r5.1.1, r5.1.2.1, r5.1.2.2.1, st4.2.2.2.2.2.2.2.2.1, st4.2.2.2.2.2.2.2.2.2.1, st4.2.2.2.2.2.2.2.2.2.2.1, st4.2.2.2.2.2.2.2.2.2.2.2.1, st4.2.2.2.2.2.2.2.2.2.2.2.2.1, (st4.2.2.2.2.2.2.2.2.2.2.2.2.2.1 ++ [r5.2]), r7.1.1.1, r7.1.1.2.1, r7.1.2.1, r7.1.2.2.1, r7.1.2.2.2.1, (w64 (st4.2.2.2.2.2.2.2.2.2.2.2.2.2.2.2.2.2.2.2 - 1))))
            else
              none
          else
            (s_l1Cur_one r5.1 8).bind fun r8 =>
            bif (!r8.2) then
              some (.inl (st4.1, st4.2.1, st4.2.2.1, st4.2.2.2.1, st4.2.2.2.2.1, r8.1.1, r8.1.2.1, r8.1.2.2.1, st4.2.2.2.2.2.2.2.2.1, st4.2.2.2.2.2.2.2.2.2.1, st4.2.2.2.2.2.2.2.2.2.2.1, st4.2.2.2.2.2.2.2.2.2.2.2.1, st4.2.2.2.2.2.2.2.2.2.2.2.2.1, st4.2.2.2.2.2.2.2.2.2.2.2.2.2.1, st4.2.2.2.2.2.2.2.2.2.2.2.2.2.2.1, st4.2.2.2.2.2.2.2.2.2.2.2.2.2.2.2.1, st4.2.2.2.2.2.2.2.2.2.2.2.2.2.2.2.2.1, st4.2.2.2.2.2.2.2.2.2.2.2.2.2.2.2.2.2.1, st4.2.2.2.2.2.2.2.2.2.2.2.2.2.2.2.2.2.2.1, (w64 (st4.2.2.2.2.2.2.2.2.2.2.2.2.2.2.2.2.2.2.2 - 1))))
            else
              bif decide (List.length st4.2.2.2.2.2.2.2.2.2.2.2.2.2.1 + List.length [r5.2] ≤ lim) then
                some (.inl (st4.1, st4.2.1, st4.2.2.1, st4.2.2.2.1, st4.2.2.2.2.1, r8.1.1, r8.1.2.1, r8.1.2.2.1, st4.2.2.2.2.2.2.2.2.1, st4.2.2.2.2.2.2.2.2.2.1, st4.2.2.2.2.2.2.2.2.2.2.1, st4.2.2.2.2.2.2.2.2.2.2.2.1, st4.2.2.2.2.2.2.2.2.2.2.2.2.1, (st4.2.2.2.2.2.2.2.2.2.2.2.2.2.1 ++ [r5.2]), st4.2.2.2.2.2.2.2.2.2.2.2.2.2.2.1, st4.2.2.2.2.2.2.2.2.2.2.2.2.2.2.2.1, st4.2.2.2.2.2.2.2.2.2.2.2.2.2.2.2.2.1, st4.2.2.2.2.2.2.2.2.2.2.2.2.2.2.2.2.2.1, st4.2.2.2.2.2.2.2.2.2.2.2.2.2.2.2.2.2.2.1, (w64 (st4.2.2.2.2.2.2.2.2.2.2.2.2.2.2.2.2.2.2.2 - 1))))
              else
                none
        else
          bif decide (List.length st4.2.2.2.2.2.2.2.2.2.2.2.2.2.1 + List.length [r5.2] ≤ lim) then
            some (.inl (st4.1, st4.2.1, st4.2.2.1, st4.2.2.2.1, st4.2.2.2.2.1, r5.1.1, r5.1.2.1, r5.1.2.2.1, st4.2.2.2.2.2.2.2.2.1, st4.2.2.2.2.2.2.2.2.2.1, st4.2.2.2.2.2.2.2.2.2.2.1, st4.2.2.2.2.2.2.2.2.2.2.2.1, st4.2.2.2.2.2.2.2.2.2.2.2.2.1, (st4.2.2.2.2.2.2.2.2.2.2.2.2.2.1 ++ [r5.2]), st4.2.2.2.2.2.2.2.2.2.2.2.2.2.2.1, st4.2.2.2.2.2.2.2.2.2.2.2.2.2.2.2.1, st4.2.2.2.2.2.2.2.2.2.2.2.2.2.2.2.2.1, st4.2.2.2.2.2.2.2.2.2.2.2.2.2.2.2.2.2.1, st4.2.2.2.2.2.2.2.2.2.2.2.2.2.2.2.2.2.2.1, (w64 (st4.2.2.2.2.2.2.2.2.2.2.2.2.2.2.2.2.2.2.2 - 1))))
          else
            none
      else
        some (.inr (st4.1, st4.2.1, st4.2.2.1, st4.2.2.2.1, st4.2.2.2.2.1, st4.2.2.2.2.2.1, st4.2.2.2.2.2.2.1, st4.2.2.2.2.2.2.2.1, st4.2.2.2.2.2.2.2.2.1, st4.2.2.2.2.2.2.2.2.2.1, st4.2.2.2.2.2.2.2.2.2.2.1, st4.2.2.2.2.2.2.2.2.2.2.2.1, st4.2.2.2.2.2.2.2.2.2.2.2.2.1, st4.2.2.2.2.2.2.2.2.2.2.2.2.2.1)) : Option (((List GLink) × (List GLink) × (List GLink) × Int × (List GParcel) × (List Int) × Int × Int × (List GLink) × (List GLink) × (List GLink) × Int × (List GParcel) × (List GAct) × (List GLink) × (List GLink) × (List GLink) × Int × (List GParcel) × Int) ⊕ (((List GLink) × (List GLink) × (List GLink) × Int × (List GParcel) × (List Int) × Int × Int × (List GLink) × (List GLink) × (List GLink) × Int × (List GParcel) × (List GAct)))))) ([], [], [], 0, [], r2.1.1, r2.1.2.1, r2.1.2.2.1, r1.2.1.1, r1.2.1.2.1, r1.2.2.1, r1.2.2.2.1, r1.2.2.2.2.1, [], r1.2.1.1, r1.2.1.2.1, r1.2.2.1, r1.2.2.2.1, r1.2.2.2.2.1, r2.2)).bind fun o9 =>
  (s_l1Cur_one (o9.2.2.2.2.2.1, o9.2.2.2.2.2.2.1, o9.2.2.2.2.2.2.2.1, ()) 24).bind fun r10 =>
  bif r10.2 then
    (s_l1Cur_pick r10.1 2).bind fun r11 =>
    (loopE (fun (st13 : (List GLink) × (List GLink) × (List GLink) × Int × (List GParcel) × (List GLink) × (List GLink) × (List GLink) × Int × (List GParcel) × (List GAct)) => (
        bif (decide ((st13.2.2.2.2.2.2.2.2.2.2.length : Int) < (w64 (100 + r11.2)))) then
          bif decide (List.length st13.2.2.2.2.2.2.2.2.2.2 + List.length [(3, 0, 0, 0, 1, ())] ≤ lim) then
            some (.inl (st13.1, st13.2.1, st13.2.2.1, st13.2.2.2.1, st13.2.2.2.2.1, st13.2.2.2.2.2.1, st13.2.2.2.2.2.2.1, st13.2.2.2.2.2.2.2.1, st13.2.2.2.2.2.2.2.2.1, st13.2.2.2.2.2.2.2.2.2.1, (st13.2.2.2.2.2.2.2.2.2.2 ++ [(3, 0, 0, 0, 1, ())])))
          else
            none
        else
          some (.inr (st13.1, st13.2.1, st13.2.2.1, st13.2.2.2.1, st13.2.2.2.2.1, st13.2.2.2.2.2.1, st13.2.2.2.2.2.2.1, st13.2.2.2.2.2.2.2.1, st13.2.2.2.2.2.2.2.2.1, st13.2.2.2.2.2.2.2.2.2.1, st13.2.2.2.2.2.2.2.2.2.2)) : Option (((List GLink) × (List GLink) × (List GLink) × Int × (List GParcel) × (List GLink) × (List GLink) × (List GLink) × Int × (List GParcel) × (List GAct)) ⊕ (((List GLink) × (List GLink) × (List GLink) × Int × (List GParcel) × (List GLink) × (List GLink) × (List GLink) × Int × (List GParcel) × (List GAct)))))) (o9.1, o9.2.1, o9.2.2.1, o9.2.2.2.1, o9.2.2.2.2.1, o9.2.2.2.2.2.2.2.2.1, o9.2.2.2.2.2.2.2.2.2.1, o9.2.2.2.2.2.2.2.2.2.2.1, o9.2.2.2.2.2.2.2.2.2.2.2.1, o9.2.2.2.2.2.2.2.2.2.2.2.2.1, o9.2.2.2.2.2.2.2.2.2.2.2.2.2)).bind fun o14 =>
    some (((o14.2.2.2.2.2.1, o14.2.2.2.2.2.2.1, ()), o14.2.2.2.2.2.2.2.1, o14.2.2.2.2.2.2.2.2.1, o14.2.2.2.2.2.2.2.2.2.1, ()), o14.2.2.2.2.2.2.2.2.2.2)
  else
    some (((o9.2.2.2.2.2.2.2.2.1, o9.2.2.2.2.2.2.2.2.2.1, ()), o9.2.2.2.2.2.2.2.2.2.2.1, o9.2.2.2.2.2.2.2.2.2.2.2.1, o9.2.2.2.2.2.2.2.2.2.2.2.2.1, ()), o9.2.2.2.2.2.2.2.2.2.2.2.2.2)
noncomputable def C59 : FnSpec := { ps := [.val (.slice (.int .u8))], rs := [.val TGNetwork, .val (.slice TGAct)], fn := fun x => s_DrawRunActs x }
noncomputable def E59 : Env := { T := [(39, TGNetwork), (78, (.slice TGAct)), (135, TGAct), (142, TGl1Cur)], G := [(70, C70), (105, C105), (109, C109), (110, C110), (111, C111), (112, C112)], ro := [], loops := [(6, { keep := [], live := [.bx 2 32 [.own 300032 TGLink true, .own 300033 TGLink true, .own 300034 TGLink true, .pv (.int .i64), .own 300036 TGParcel true], .bx 4 240 [.pv (.slice (.int .u8)), .pv (.int .i64), .pv (.int .u64)], .bx 5 80 [.pv (.slice TGLink), .pv (.slice TGLink), .pv (.slice TGLink), .pv (.int .i64), .pv (.slice TGParcel)], .own 6 [] 200006 TGAct true, .bx 7 112 [.pv (.slice TGLink), .pv (.slice TGLink), .pv (.slice TGLink), .pv (.int .i64), .pv (.slice TGParcel)], .tv 8 (.int .i64)], outs := [(.exit 0, [.bx 2 32 [.own 300032 TGLink true, .own 300033 TGLink true, .own 300034 TGLink true, .pv (.int .i64), .own 300036 TGParcel true], .bx 4 240 [.pv (.slice (.int .u8)), .pv (.int .i64), .pv (.int .u64)], .bx 5 80 [.pv (.slice TGLink), .pv (.slice TGLink), .pv (.slice TGLink), .pv (.int .i64), .pv (.slice TGParcel)], .own 6 [] 200006 TGAct true])] }), (17, { keep := [12], live := [.bx 2 32 [.own 300032 TGLink true, .own 300033 TGLink true, .own 300034 TGLink true, .pv (.int .i64), .own 300036 TGParcel true], .bx 5 80 [.pv (.slice TGLink), .pv (.slice TGLink), .pv (.slice TGLink), .pv (.int .i64), .pv (.slice TGParcel)], .own 6 [] 200006 TGAct true], outs := [(.exit 2, [.bx 2 32 [.own 300032 TGLink true, .own 300033 TGLink true, .own 300034 TGLink true, .pv (.int .i64), .own 300036 TGParcel true], .bx 5 80 [.pv (.slice TGLink), .pv (.slice TGLink), .pv (.slice TGLink), .pv (.int .i64), .pv (.slice TGParcel)], .own 6 [] 200006 TGAct true])] })], joins := [] }
theorem E59_eq : ∀ x, afun E59 Try.f59 C59.ps C59.rs x = C59.fn x := fun x => by kernel_rfl
theorem S59 : Sound Try.prog 59 C59 := fun_sound (E := E59) ⟨good_T (by kernel_rfl), (good_cons S70 ⟨_, Try.func70, by kernel_rfl, by kernel_rfl⟩ (good_cons S105 ⟨_, Try.func105, by kernel_rfl, by kernel_rfl⟩ (good_cons S109 ⟨_, Try.func109, by kernel_rfl, by kernel_rfl⟩ (good_cons S110 ⟨_, Try.func110, by kernel_rfl, by kernel_rfl⟩ (good_cons S111 ⟨_, Try.func111, by kernel_rfl, by kernel_rfl⟩ (good_cons S112 ⟨_, Try.func112, by kernel_rfl, by kernel_rfl⟩ good_nil)))))), mixedOk, ins_nil⟩ Try.func59 rfl E59_eq
noncomputable def s_DrawAcceptParcels (p_code : List Int) : Option (GNetwork × Int × Int × Int × Int) :=
  (s_l1Cur_network (p_code, 0, 0, ())).bind fun r1 =>
  (s_l1Cur_among r1.1 [0, 1000]).bind fun r2 =>
  (s_l1Cur_among r2.1 [1, 3, 7, 999, r2.2]).bind fun r3 =>
  (s_l1Cur_tower r3.1 r1.2.1).bind fun r4 =>
  (s_l1Cur_tower r4.1 r1.2.1).bind fun r5 =>
  (s_l1Cur_among r5.1 [0, 10]).bind fun r6 =>
  (s_l1Cur_among r6.1 [1, 2, 9, r6.2]).bind fun r7 =>
  some (r1.2, r3.2, r4.2, r5.2, r7.2)
noncomputable def C61 : FnSpec := { ps := [.val (.slice (.int .u8))], rs := [.val TGNetwork, .val (.int .i64), .val (.int .i64), .val (.int .i64), .val (.int .i64)], fn := fun x => s_DrawAcceptParcels x }
noncomputable def E61 : Env := { T := [(35, TGNet), (39, TGNetwork), (45, (.slice (.int .i64))), (142, TGl1Cur)], G := [(109, C109), (115, C115), (116, C116)], ro := [17, 19, 31, 33], loops := [], joins := [], hoist := [(3, [1, 15])], aside := [(18, 176), (20, 176), (24, 176), (28, 176), (32, 176), (34, 176)] }
theorem E61_eq : ∀ x, afun E61 Try.f61 C61.ps C61.rs x = C61.fn x := fun x => by kernel_rfl
theorem S61 : Sound Try.prog 61 C61 := fun_sound (E := E61) ⟨good_T (by kernel_rfl), (good_cons S109 ⟨_, Try.func109, by kernel_rfl, by kernel_rfl⟩ (good_cons S115 ⟨_, Try.func115, by kernel_rfl, by kernel_rfl⟩ (good_cons S116 ⟨_, Try.func116, by kernel_rfl, by kernel_rfl⟩ good_nil))), mixedOk, ins_nil⟩ Try.func61 rfl E61_eq
noncomputable def s_DrawNewNetwork (p_code : List Int) : Option (GNet × (List GLink)) :=
  (s_l1Cur_foggy (p_code, 0, 0, ())).bind fun r1 =>
  some (r1.2.1, r1.2.2)
noncomputable def C63 : FnSpec := { ps := [.val (.slice (.int .u8))], rs := [.val TGNet, .val (.slice TGLink)], fn := fun x => s_DrawNewNetwork x }
noncomputable def E63 : Env := { T := [(35, TGNet), (142, TGl1Cur)], G := [(117, C117)], ro := [], loops := [], joins := [] }
theorem E63_eq : ∀ x, afun E63 Try.f63 C63.ps C63.rs x = C63.fn x := fun x => by kernel_rfl
theorem S63 : Sound Try.prog 63 C63 := fun_sound (E := E63) ⟨good_T (by kernel_rfl), (good_cons S117 ⟨_, Try.func117, by kernel_rfl, by kernel_rfl⟩ good_nil), mixedOk, ins_nil⟩ Try.func63 rfl E63_eq
noncomputable def s_DrawWhereIs (p_code : List Int) : Option (GNetwork × Int) :=
  (s_l1Cur_network (p_code, 0, 0, ())).bind fun r1 =>
  bif (decide (0 < (r1.2.2.2.2.1.length : Int))) then
    (s_l1Cur_one r1.1 4).bind fun r2 =>
    bif (!r2.2) then
      (s_l1Cur_pick r2.1 (r1.2.2.2.2.1.length : Int)).bind fun r3 =>
      (idx r1.2.2.2.2.1 r3.2).bind fun e4 =>
      some (r1.2, e4.1)
    else
      (s_l1Cur_pick r2.1 9).bind fun r5 =>
      some (r1.2, r5.2)
  else
    bif false then
      (s_l1Cur_pick r1.1 (r1.2.2.2.2.1.length : Int)).bind fun r6 =>
      (idx r1.2.2.2.2.1 r6.2).bind fun e7 =>
      some (r1.2, e7.1)
    else
      (s_l1Cur_pick r1.1 9).bind fun r8 =>
      some (r1.2, r8.2)
noncomputable def C64 : FnSpec := { ps := [.val (.slice (.int .u8))], rs := [.val TGNetwork, .val (.int .i64)], fn := fun x => s_DrawWhereIs x }
noncomputable def E64 : Env := { T := [(3, (.int .i64)), (37, (.slice TGParcel)), (39, TGNetwork), (88, TGParcel), (142, TGl1Cur)], G := [(109, C109), (110, C110), (112, C112)], ro := [], loops := [], joins := [], forks := [15], hoist := [(4, [1])], aside := [(27, 128), (33, 128)], astore := [(2, 32)] }
theorem E64_eq : ∀ x, afun E64 Try.f64 C64.ps C64.rs x = C64.fn x := fun x => by kernel_rfl
theorem S64 : Sound Try.prog 64 C64 := fun_sound (E := E64) ⟨good_T (by kernel_rfl), (good_cons S109 ⟨_, Try.func109, by kernel_rfl, by kernel_rfl⟩ (good_cons S110 ⟨_, Try.func110, by kernel_rfl, by kernel_rfl⟩ (good_cons S112 ⟨_, Try.func112, by kernel_rfl, by kernel_rfl⟩ good_nil))), mixedOk, ins_nil⟩ Try.func64 rfl E64_eq
noncomputable def l_FnActs (p_code : List Int) (p_more : List Int) : Option (Bool) :=
  (l_big p_code p_more).bind fun r1 =>
  bif r1 then
    some true
  else
    (s_DrawRunActs p_code).bind fun r2 =>
    (i_RunActs r2.1 r2.2).bind fun r3 =>
    (s_RunActs r2.1 r2.2).bind fun r4 =>
    (bif (r3.2.2 != r4.2.2) then
        some true
      else
        (l_pSameNetwork r3.1 r4.1).bind fun r5 =>
        some (!r5)).bind fun c6 =>
    (bif c6 then
        some true
      else
        some (!decide (r3.2.1 = r4.2.1))).bind fun c7 =>
    bif c7 then
      some false
    else
      ((bif r3.2.2 then
            (sub r2.2 0 (w64 (Int.tdiv r4.2.1 2))).bind fun l8 =>
            (i_RunActs r2.1 l8).bind fun r9 =>
            (sub r2.2 (w64 (Int.tdiv r4.2.1 2)) r4.2.1).bind fun l10 =>
            (i_RunActs r9.1 l10).bind fun r11 =>
            (i_IsNetwork r3.1).bind fun r12 =>
            (bif (!r12) then
                some true
              else
                some (!r9.2.2)).bind fun c13 =>
            (bif c13 then
                some true
              else
                some (!decide (r9.2.1 = (w64 (Int.tdiv r4.2.1 2))))).bind fun c14 =>
            (bif c14 then
                some true
              else
                some (!r11.2.2)).bind fun c15 =>
            (bif c15 then
                some true
              else
                some (!decide (r11.2.1 = (w64 (r4.2.1 - (w64 (Int.tdiv r4.2.1 2))))))).bind fun c16 =>
            (bif c16 then
                some true
              else
                (l_pSameNetwork r11.1 r4.1).bind fun r17 =>
                some (!r17)).bind fun c18 =>
            (bif c18 then
                some true
              else
                some (decide ((r4.1.2.2.2.1.length : Int) < (r2.1.2.2.2.1.length : Int)))).bind fun c19 =>
            bif c19 then
              some (.inr false)
            else
              (loopE (fun (st21 : (List GLink) × (List GLink) × (List GLink) × Int × (List GParcel) × Int × (List GParcel) × Int) => (
                  bif (decide (st21.2.2.2.2.2.2.2 < (r4.1.2.2.2.1.length : Int))) then
                    bif decide (0 ≤ st21.2.2.2.2.2.2.2) && decide (st21.2.2.2.2.2.2.2 < (st21.2.2.2.2.2.2.1.length : Int)) then
                      (st21.2.2.2.2.2.2.1[(Int.toNat st21.2.2.2.2.2.2.2)]?).bind fun e22 =>
                      (bif (decide (st21.2.2.2.2.2.1 < (st21.2.2.2.2.1.length : Int))) then
                          (idx st21.2.2.2.2.1 st21.2.2.2.2.2.1).bind fun e23 =>
                          some (decide (e23.1 = e22.1))
                        else
                          some false).bind fun c24 =>
                      (bif c24 then
                          (idx st21.2.2.2.2.1 st21.2.2.2.2.2.1).bind fun e25 =>
                          some (decide (e25.2.1 = e22.2.1))
                        else
                          some false).bind fun c26 =>
                      bif c26 then
                        some (.inl (st21.1, st21.2.1, st21.2.2.1, st21.2.2.2.1, st21.2.2.2.2.1, (w64 (st21.2.2.2.2.2.1 + 1)), st21.2.2.2.2.2.2.1, (w64 (st21.2.2.2.2.2.2.2 + 1))))
                      else
                        some (.inl (st21.1, st21.2.1, st21.2.2.1, st21.2.2.2.1, st21.2.2.2.2.1, st21.2.2.2.2.2.1, st21.2.2.2.2.2.2.1, (w64 (st21.2.2.2.2.2.2.2 + 1))))
                    else
                      none
                  else
                    some (.inr (st21.1, st21.2.1, st21.2.2.1, st21.2.2.2.1, st21.2.2.2.2.1, st21.2.2.2.2.2.1)) : Option (((List GLink) × (List GLink) × (List GLink) × Int × (List GParcel) × Int × (List GParcel) × Int) ⊕ (((List GLink) × (List GLink) × (List GLink) × Int × (List GParcel) × Int))))) (r2.1.1.1, r2.1.1.2.1, r2.1.2.1, r2.1.2.2.1, r2.1.2.2.2.1, 0, r4.1.2.2.2.1, 0)).bind fun o27 =>
              bif (!decide (o27.2.2.2.2.2 = (o27.2.2.2.2.1.length : Int))) then
                some (.inr false)
              else
                some (.inl ())
          else
            some (.inl ()) : Option (Unit ⊕ Bool))).bind fun j28 =>
      match j28 with
      | .inl _ =>
        (s_DrawAcceptParcels p_more).bind fun r31 =>
        (i_AcceptParcels r31.1 r31.2.1 r31.2.2.1 r31.2.2.2.1 r31.2.2.2.2).bind fun r32 =>
        (s_AcceptParcels r31.1 r31.2.1 r31.2.2.1 r31.2.2.2.1 r31.2.2.2.2).bind fun r33 =>
        (bif (r32.2 != r33.2) then
            some true
          else
            (l_pSameNetwork r32.1 r33.1).bind fun r34 =>
            some (!r34)).bind fun c35 =>
        bif c35 then
          some false
        else
          ((bif r32.2 then
                (i_WhereIs r32.1 r31.2.1).bind fun r36 =>
                (s_WhereIs r33.1 r31.2.1).bind fun r37 =>
                (bif (!r36.2) then
                    some true
                  else
                    some (!r37.2)).bind fun c38 =>
                (bif c38 then
                    some true
                  else
                    (l_sameInts r36.1 r37.1).bind fun r39 =>
                    some (!r39)).bind fun c40 =>
                (bif c40 then
                    some true
                  else
                    some (!decide ((r37.1.length : Int) = r31.2.2.2.2))).bind fun c41 =>
                (bif c41 then
                    some true
                  else
                    (i_IsNetwork r32.1).bind fun r42 =>
                    some (!r42)).bind fun c43 =>
                bif c43 then
                  some (.inr false)
                else
                  (loopE (fun (st45 : (List Int) × Int) => (
                      bif (decide (st45.2 < (r37.1.length : Int))) then
                        bif decide (0 ≤ st45.2) && decide (st45.2 < (st45.1.length : Int)) then
                          (st45.1[(Int.toNat st45.2)]?).bind fun e46 =>
                          bif (!decide (e46 = r31.2.2.1)) then
                            some (.inr (.inr false))
                          else
                            some (.inl (st45.1, (w64 (st45.2 + 1))))
                        else
                          none
                      else
                        some (.inr (.inl ())) : Option (((List Int) × Int) ⊕ (Unit ⊕ Bool)))) (r37.1, 0)).bind fun o47 =>
                  match o47 with
                  | .inl _ =>
                    some (.inl ())
                  | .inr y49 =>
                    some (.inr y49)
              else
                some (.inl ()) : Option (Unit ⊕ Bool))).bind fun j50 =>
          match j50 with
          | .inl _ =>
            (s_DrawNewNetwork p_more).bind fun r53 =>
            (i_NewNetwork r53.1 r53.2).bind fun r54 =>
            (s_NewNetwork r53.1 r53.2).bind fun r55 =>
            (s_DrawWhereIs p_more).bind fun r56 =>
            (i_WhereIs r56.1 r56.2).bind fun r57 =>
            (s_WhereIs r56.1 r56.2).bind fun r58 =>
            (bif (r54.2 == r55.2) then
                (l_pSameNetwork r54.1 r55.1).bind fun r59 =>
                some r59
              else
                some false).bind fun c60 =>
            (bif c60 then
                some (r57.2 == r58.2)
              else
                some false).bind fun c61 =>
            (bif c61 then
                (l_sameInts r57.1 r58.1).bind fun r62 =>
                some r62
              else
                some false).bind fun c63 =>
            some c63
          | .inr y52 =>
            some y52
      | .inr y30 =>
        some y30
noncomputable def C13 : FnSpec := { ps := [.val (.slice (.int .u8)), .val (.slice (.int .u8))], rs := [.val .bool], fn := fun x => l_FnActs x.1 x.2 }
noncomputable def E13 : Env := { T := [(3, (.int .i64)), (4, .bool), (35, TGNet), (37, (.slice TGParcel)), (39, TGNetwork), (45, (.slice (.int .i64))), (78, (.slice TGAct)), (88, TGParcel)], G := [(18, C18), (22, C22), (23, C23), (30, C30), (33, C33), (46, C46), (47, C47), (53, C53), (55, C55), (58, C58), (59, C59), (60, C60), (61, C61), (62, C62), (63, C63), (64, C64)], ro := [], loops := [(15, { keep := [1, 149, 219, 220, 221, 222, 240, 241, 244, 245, 246, 247, 250, 251, 252, 253, 256, 257, 258, 308, 309, 310, 313, 314, 315, 318, 319, 320], live := [.bx 5 80 [.pv (.slice TGLink), .pv (.slice TGLink), .pv (.slice TGLink), .pv (.int .i64), .pv (.slice TGParcel)], .tv 19 (.int .i64), .own 148 [] 1075 TGParcel true, .tv 150 (.int .i64)], outs := [(.exit 0, [.bx 5 80 [.pv (.slice TGLink), .pv (.slice TGLink), .pv (.slice TGLink), .pv (.int .i64), .pv (.slice TGParcel)], .tv 19 (.int .i64)])] }), (33, { keep := [1, 24, 261, 308, 309, 310, 313, 314, 315, 318, 319, 320], live := [.own 260 [] 3744 (.int .i64) true, .tv 262 (.int .i64)], outs := [(.exit 2, []), (.ret, [.tv 4 .bool])] })], joins := [(22, { keep := [1], live := [], outs := [(.normal, []), (.ret, [.tv 4 .bool])] }), (38, { keep := [1], live := [], outs := [(.normal, []), (.ret, [.tv 4 .bool])] })], swaps := [(9, [(8, 11), (9, 11)]), (10, [(9, 12), (10, 12)])] }
theorem E13_eq : ∀ x, afun E13 Try.f13 C13.ps C13.rs x = C13.fn x := fun x => by kernel_rfl
theorem S13 : Sound Try.prog 13 C13 := fun_sound (E := E13) ⟨good_T (by kernel_rfl), (good_cons S18 ⟨_, Try.func18, by kernel_rfl, by kernel_rfl⟩ (good_cons S22 ⟨_, Try.func22, by kernel_rfl, by kernel_rfl⟩ (good_cons S23 ⟨_, Try.func23, by kernel_rfl, by kernel_rfl⟩ (good_cons S30 ⟨_, Try.func30, by kernel_rfl, by kernel_rfl⟩ (good_cons S33 ⟨_, Try.func33, by kernel_rfl, by kernel_rfl⟩ (good_cons S46 ⟨_, Try.func46, by kernel_rfl, by kernel_rfl⟩ (good_cons S47 ⟨_, Try.func47, by kernel_rfl, by kernel_rfl⟩ (good_cons S53 ⟨_, Try.func53, by kernel_rfl, by kernel_rfl⟩ (good_cons S55 ⟨_, Try.func55, by kernel_rfl, by kernel_rfl⟩ (good_cons S58 ⟨_, Try.func58, by kernel_rfl, by kernel_rfl⟩ (good_cons S59 ⟨_, Try.func59, by kernel_rfl, by kernel_rfl⟩ (good_cons S60 ⟨_, Try.func60, by kernel_rfl, by kernel_rfl⟩ (good_cons S61 ⟨_, Try.func61, by kernel_rfl, by kernel_rfl⟩ (good_cons S62 ⟨_, Try.func62, by kernel_rfl, by kernel_rfl⟩ (good_cons S63 ⟨_, Try.func63, by kernel_rfl, by kernel_rfl⟩ (good_cons S64 ⟨_, Try.func64, by kernel_rfl, by kernel_rfl⟩ good_nil)))))))))))))))), mixedOk, ins_nil⟩ Try.func13 rfl E13_eq
end Go.Proofs.Ytlalabdgkkfjpaa.Sh
