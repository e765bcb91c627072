/-
  The functions that the statement reaches, as plain functions; each with its contract.
-/
import Derived.Test.YtmiadogpbadniaaXLift
import Derived.Test.YtmiadogpbadniaaChecked
import Derived.KernelRfl
namespace Go.Proofs.Ytmiadogpbadniaa.Sh
open Go Go.Ab Go.Proofs
set_option maxRecDepth 100000
abbrev TGerrorAddressString : Ty := .pair .str (.pair (.int .u64) .unit)
abbrev GerrorAddressString : Type := Bytes × Int × Unit
abbrev TGPhrase : Ty := .pair .str (.pair (.slice (.int .i64)) .unit)
abbrev GPhrase : Type := Bytes × (List Int) × Unit
abbrev TGboundsError : Ty := .pair (.int .i64) (.pair (.int .i64) (.pair .bool (.pair (.int .u8) .unit)))
abbrev GboundsError : Type := Int × Int × Bool × Int × Unit
abbrev TGPrice : Ty := .pair (.int .i64) (.pair (.int .i64) (.pair (.int .i64) (.pair (.int .i64) .unit)))
abbrev GPrice : Type := Int × Int × Int × Int × Unit
abbrev TGSent : Ty := .pair (.int .i64) (.pair (.int .i64) (.pair .bool (.pair (.int .i64) .unit)))
abbrev GSent : Type := Int × Int × Bool × Int × Unit
abbrev TGBook : Ty := .pair (.slice TGPhrase) .unit
abbrev GBook : Type := (List GPhrase) × Unit
theorem mixedOk : Try.prog.follows .mixedOrders = true := by kernel_rfl
/-- laws.szIntS -/
noncomputable def l_szIntS (p_a : List Int) (p_left : Int) : Option (Int) :=
  bif (decide ((w64 (p_left - (p_a.length : Int))) < 0)) then
    some (-1)
  else
    some (w64 (p_left - (p_a.length : Int)))
noncomputable def C29 : FnSpec := { ps := [.val (.slice (.int .i64)), .val (.int .i64)], rs := [.val (.int .i64)], fn := fun x => l_szIntS x.1 x.2 }
noncomputable def E29 : Env := { T := [(48, (.slice (.int .i64)))], G := [], ro := [], loops := [], joins := [] }
theorem E29_eq : ∀ x, afun E29 Try.f29 C29.ps C29.rs x = C29.fn x := fun x => by kernel_rfl
theorem S29 : Sound Try.prog 29 C29 := fun_sound (E := E29) ⟨good_T (by kernel_rfl), good_nil, mixedOk⟩ Try.func29 rfl E29_eq
/-- laws.szPhrase -/
noncomputable def l_szPhrase (p_a : GPhrase) (p_left : Int) : Option (Int) :=
  bif (decide ((w64 (p_left - (p_a.1.length : Int))) < 0)) then
    some (-1)
  else
    (l_szIntS p_a.2.1 (w64 (p_left - (p_a.1.length : Int)))).bind fun r1 =>
    bif (decide (r1 < 0)) then
      some (-1)
    else
      some r1
noncomputable def C21 : FnSpec := { ps := [.val TGPhrase, .val (.int .i64)], rs := [.val (.int .i64)], fn := fun x => l_szPhrase x.1 x.2 }
noncomputable def E21 : Env := { T := [(9, .str), (48, (.slice (.int .i64))), (50, TGPhrase)], G := [(29, C29)], ro := [2], loops := [], joins := [] }
theorem E21_eq : ∀ x, afun E21 Try.f21 C21.ps C21.rs x = C21.fn x := fun x => by kernel_rfl
theorem S21 : Sound Try.prog 21 C21 := fun_sound (E := E21) ⟨good_T (by kernel_rfl), (good_cons S29 ⟨_, Try.func29, by kernel_rfl, by kernel_rfl⟩ good_nil), mixedOk⟩ Try.func21 rfl E21_eq
/-- laws.szPhraseS -/
noncomputable def l_szPhraseS (p_a : List GPhrase) (p_left : Int) : Option (Int) :=
  bif (decide ((w64 (p_left - (p_a.length : Int))) < 0)) then
    some (-1)
  else
    (loopE (fun (st2 : Int × Int) => (
        bif (decide (st2.2 < (p_a.length : Int))) then
          (idx p_a st2.2).bind fun e3 =>
          (l_szPhrase e3 st2.1).bind fun r4 =>
          bif (decide (r4 < 0)) then
            some (.inr (.inr (-1)))
          else
            some (.inl (r4, (w64 (st2.2 + 1))))
        else
          some (.inr (.inl st2.1)) : Option ((Int × Int) ⊕ (Int ⊕ Int)))) ((w64 (p_left - (p_a.length : Int))), 0)).bind fun o5 =>
    match o5 with
    | .inl x6 =>
      some x6
    | .inr y7 =>
      some y7
noncomputable def C10 : FnSpec := { ps := [.val (.slice TGPhrase), .val (.int .i64)], rs := [.val (.int .i64)], fn := fun x => l_szPhraseS x.1 x.2 }
noncomputable def E10 : Env := { T := [(24, (.slice TGPhrase)), (50, TGPhrase)], G := [(21, C21)], ro := [], loops := [(5, { keep := [0], live := [.tv 1 (.int .i64), .tv 5 (.int .i64)], outs := [(.exit 0, [.tv 1 (.int .i64)]), (.ret, [.tv 4 (.int .i64)])] })], joins := [] }
theorem E10_eq : ∀ x, afun E10 Try.f10 C10.ps C10.rs x = C10.fn x := fun x => by kernel_rfl
theorem S10 : Sound Try.prog 10 C10 := fun_sound (E := E10) ⟨good_T (by kernel_rfl), (good_cons S21 ⟨_, Try.func21, by kernel_rfl, by kernel_rfl⟩ good_nil), mixedOk⟩ Try.func10 rfl E10_eq
/-- laws.szBook -/
noncomputable def l_szBook (p_a : GBook) (p_left : Int) : Option (Int) :=
  (l_szPhraseS p_a.1 p_left).bind fun r1 =>
  bif (decide (r1 < 0)) then
    some (-1)
  else
    some r1
noncomputable def C4 : FnSpec := { ps := [.val TGBook, .val (.int .i64)], rs := [.val (.int .i64)], fn := fun x => l_szBook x.1 x.2 }
noncomputable def E4 : Env := { T := [(24, (.slice TGPhrase)), (26, TGBook)], G := [(10, C10)], ro := [2], loops := [], joins := [] }
theorem E4_eq : ∀ x, afun E4 Try.f4 C4.ps C4.rs x = C4.fn x := fun x => by kernel_rfl
theorem S4 : Sound Try.prog 4 C4 := fun_sound (E := E4) ⟨good_T (by kernel_rfl), (good_cons S10 ⟨_, Try.func10, by kernel_rfl, by kernel_rfl⟩ good_nil), mixedOk⟩ Try.func4 rfl E4_eq
/-- spec.l1In -/
noncomputable def s_l1In (p_n : Int) (p_lo : Int) (p_hi : Int) : Option (Bool) :=
  (bif (decide (p_lo ≤ p_n)) then
      some (decide (p_n ≤ p_hi))
    else
      some false).bind fun c1 =>
  some c1
noncomputable def C24 : FnSpec := { ps := [.val (.int .i64), .val (.int .i64), .val (.int .i64)], rs := [.val .bool], fn := fun x => s_l1In x.1 x.2.1 x.2.2 }
noncomputable def E24 : Env := { T := [], G := [], ro := [], loops := [], joins := [] }
theorem E24_eq : ∀ x, afun E24 Try.f24 C24.ps C24.rs x = C24.fn x := fun x => by kernel_rfl
theorem S24 : Sound Try.prog 24 C24 := fun_sound (E := E24) ⟨good_T (by kernel_rfl), good_nil, mixedOk⟩ Try.func24 rfl E24_eq
/-- spec.bkLetters -/
noncomputable def s_bkLetters (p_s : Bytes) : Option (Bool) :=
  (loopE (fun (st2 : Int) => (
      bif (decide (st2 < (p_s.length : Int))) then
        (idx p_s st2).bind fun b3 =>
        (bif (decide ((b3.toNat : Int) < 97)) then
            some true
          else
            (idx p_s st2).bind fun b4 =>
            some (decide (122 < (b4.toNat : Int)))).bind fun c5 =>
        bif c5 then
          some (.inr (.inr false))
        else
          some (.inl (w64 (st2 + 1)))
      else
        some (.inr (.inl ())) : Option ((Int) ⊕ (Unit ⊕ Bool)))) 0).bind fun o6 =>
  match o6 with
  | .inl _ =>
    some (decide ((p_s.length : Int) ≤ 12))
  | .inr y8 =>
    some y8
noncomputable def C42 : FnSpec := { ps := [.val .str], rs := [.val .bool], fn := fun x => s_bkLetters x }
noncomputable def E42 : Env := { T := [(9, .str)], G := [], ro := [], loops := [(2, { keep := [0], live := [.tv 3 (.int .i64)], outs := [(.exit 0, []), (.ret, [.tv 2 .bool])] })], joins := [] }
theorem E42_eq : ∀ x, afun E42 Try.f42 C42.ps C42.rs x = C42.fn x := fun x => by kernel_rfl
theorem S42 : Sound Try.prog 42 C42 := fun_sound (E := E42) ⟨good_T (by kernel_rfl), good_nil, mixedOk⟩ Try.func42 rfl E42_eq
/-- spec.bkPhraseText -/
noncomputable def s_bkPhraseText (p_s : Bytes) : Option (Bool) :=
  (s_bkLetters p_s).bind fun r1 =>
  (bif r1 then
      some (!decide (p_s = []))
    else
      some false).bind fun c2 =>
  some c2
noncomputable def C36 : FnSpec := { ps := [.val .str], rs := [.val .bool], fn := fun x => s_bkPhraseText x }
noncomputable def E36 : Env := { T := [], G := [(42, C42)], ro := [], loops := [], joins := [] }
theorem E36_eq : ∀ x, afun E36 Try.f36 C36.ps C36.rs x = C36.fn x := fun x => by kernel_rfl
theorem S36 : Sound Try.prog 36 C36 := fun_sound (E := E36) ⟨good_T (by kernel_rfl), (good_cons S42 ⟨_, Try.func42, by kernel_rfl, by kernel_rfl⟩ good_nil), mixedOk⟩ Try.func36 rfl E36_eq
/-- spec.l1All -/
noncomputable def s_l1All (p_l : List Int) (p_lo : Int) (p_hi : Int) : Option (Bool) :=
  (loopE (fun (st2 : Int) => (
      bif (decide (st2 < (p_l.length : Int))) then
        (idx p_l st2).bind fun e3 =>
        (s_l1In e3 p_lo p_hi).bind fun r4 =>
        bif (!r4) then
          some (.inr (.inr false))
        else
          some (.inl (w64 (st2 + 1)))
      else
        some (.inr (.inl ())) : Option ((Int) ⊕ (Unit ⊕ Bool)))) 0).bind fun o5 =>
  match o5 with
  | .inl _ =>
    some true
  | .inr y7 =>
    some y7
noncomputable def C43 : FnSpec := { ps := [.val (.slice (.int .i64)), .val (.int .i64), .val (.int .i64)], rs := [.val .bool], fn := fun x => s_l1All x.1 x.2.1 x.2.2 }
noncomputable def E43 : Env := { T := [(3, (.int .i64)), (48, (.slice (.int .i64)))], G := [(24, C24)], ro := [], loops := [(2, { keep := [1, 2, 9, 10], live := [.tv 11 (.int .i64)], outs := [(.exit 0, []), (.ret, [.tv 6 .bool])] })], joins := [] }
theorem E43_eq : ∀ x, afun E43 Try.f43 C43.ps C43.rs x = C43.fn x := fun x => by kernel_rfl
theorem S43 : Sound Try.prog 43 C43 := fun_sound (E := E43) ⟨good_T (by kernel_rfl), (good_cons S24 ⟨_, Try.func24, by kernel_rfl, by kernel_rfl⟩ good_nil), mixedOk⟩ Try.func43 rfl E43_eq
/-- spec.bkSignals -/
noncomputable def s_bkSignals (p_l : List Int) : Option (Bool) :=
  (s_l1In (p_l.length : Int) 1 3).bind fun r1 =>
  (bif r1 then
      (s_l1All p_l 1 60).bind fun r2 =>
      some r2
    else
      some false).bind fun c3 =>
  some c3
noncomputable def C37 : FnSpec := { ps := [.val (.slice (.int .i64))], rs := [.val .bool], fn := fun x => s_bkSignals x }
noncomputable def E37 : Env := { T := [(48, (.slice (.int .i64)))], G := [(24, C24), (43, C43)], ro := [], loops := [], joins := [] }
theorem E37_eq : ∀ x, afun E37 Try.f37 C37.ps C37.rs x = C37.fn x := fun x => by kernel_rfl
theorem S37 : Sound Try.prog 37 C37 := fun_sound (E := E37) ⟨good_T (by kernel_rfl), (good_cons S24 ⟨_, Try.func24, by kernel_rfl, by kernel_rfl⟩ (good_cons S43 ⟨_, Try.func43, by kernel_rfl, by kernel_rfl⟩ good_nil)), mixedOk⟩ Try.func37 rfl E37_eq
/-- spec.l1Same -/
noncomputable def s_l1Same (p_a : List Int) (p_b : List Int) : Option (Bool) :=
  bif (!decide ((p_a.length : Int) = (p_b.length : Int))) then
    some false
  else
    (loopE (fun (st2 : Int) => (
        bif (decide (st2 < (p_a.length : Int))) then
          (idx p_a st2).bind fun e3 =>
          (idx p_b st2).bind fun e4 =>
          bif (!decide (e3 = e4)) then
            some (.inr (.inr false))
          else
            some (.inl (w64 (st2 + 1)))
        else
          some (.inr (.inl ())) : Option ((Int) ⊕ (Unit ⊕ Bool)))) 0).bind fun o5 =>
    match o5 with
    | .inl _ =>
      some true
    | .inr y7 =>
      some y7
noncomputable def C44 : FnSpec := { ps := [.val (.slice (.int .i64)), .val (.slice (.int .i64))], rs := [.val .bool], fn := fun x => s_l1Same x.1 x.2 }
noncomputable def E44 : Env := { T := [(3, (.int .i64)), (48, (.slice (.int .i64)))], G := [], ro := [], loops := [(4, { keep := [0, 1, 12], live := [.tv 13 (.int .i64)], outs := [(.exit 0, []), (.ret, [.tv 4 .bool])] })], joins := [] }
theorem E44_eq : ∀ x, afun E44 Try.f44 C44.ps C44.rs x = C44.fn x := fun x => by kernel_rfl
theorem S44 : Sound Try.prog 44 C44 := fun_sound (E := E44) ⟨good_T (by kernel_rfl), good_nil, mixedOk⟩ Try.func44 rfl E44_eq
/-- spec.bkOf -/
noncomputable def s_bkOf (p_b : GBook) (p_l : List Int) : Option (Int) :=
  (loopE (fun (st2 : Int) => (
      bif (decide (st2 < (p_b.1.length : Int))) then
        (idx p_b.1 st2).bind fun e3 =>
        (s_l1Same e3.2.1 p_l).bind fun r4 =>
        bif r4 then
          some (.inr (.inr st2))
        else
          some (.inl (w64 (st2 + 1)))
      else
        some (.inr (.inl ())) : Option ((Int) ⊕ (Unit ⊕ Int)))) 0).bind fun o5 =>
  match o5 with
  | .inl _ =>
    some (-1)
  | .inr y7 =>
    some y7
noncomputable def C38 : FnSpec := { ps := [.val TGBook, .val (.slice (.int .i64))], rs := [.val (.int .i64)], fn := fun x => s_bkOf x.1 x.2 }
noncomputable def E38 : Env := { T := [(32, (.slice TGPhrase)), (34, TGBook), (48, (.slice (.int .i64))), (54, TGPhrase)], G := [(44, C44)], ro := [2], loops := [(2, { keep := [1, 8, 9], live := [.tv 10 (.int .i64)], outs := [(.exit 0, []), (.ret, [.tv 4 (.int .i64)])] })], joins := [] }
theorem E38_eq : ∀ x, afun E38 Try.f38 C38.ps C38.rs x = C38.fn x := fun x => by kernel_rfl
theorem S38 : Sound Try.prog 38 C38 := fun_sound (E := E38) ⟨good_T (by kernel_rfl), (good_cons S44 ⟨_, Try.func44, by kernel_rfl, by kernel_rfl⟩ good_nil), mixedOk⟩ Try.func38 rfl E38_eq
/-- spec.bkGood -/
noncomputable def s_bkGood (p_b : GBook) : Option (Bool) :=
  (loopE (fun (st2 : Int) => (
      bif (decide (st2 < (p_b.1.length : Int))) then
        (idx p_b.1 st2).bind fun e3 =>
        (s_bkPhraseText e3.1).bind fun r4 =>
        (bif (!r4) then
            some true
          else
            (s_bkSignals e3.2.1).bind fun r5 =>
            some (!r5)).bind fun c6 =>
        (bif c6 then
            some true
          else
            (bif (decide (0 < st2)) then
                (idx p_b.1 (w64 (st2 - 1))).bind fun e7 =>
                some (!Op.bytesLess e7.1 e3.1)
              else
                some false).bind fun c8 =>
            some c8).bind fun c9 =>
        (bif c9 then
            some true
          else
            (s_bkOf p_b e3.2.1).bind fun r10 =>
            some (!decide (r10 = st2))).bind fun c11 =>
        bif c11 then
          some (.inr (.inr false))
        else
          some (.inl (w64 (st2 + 1)))
      else
        some (.inr (.inl ())) : Option ((Int) ⊕ (Unit ⊕ Bool)))) 0).bind fun o12 =>
  match o12 with
  | .inl _ =>
    (s_l1In (p_b.1.length : Int) 1 40).bind fun r15 =>
    some r15
  | .inr y14 =>
    some y14
noncomputable def C30 : FnSpec := { ps := [.val TGBook], rs := [.val .bool], fn := fun x => s_bkGood x }
noncomputable def E30 : Env := { T := [(9, .str), (32, (.slice TGPhrase)), (34, TGBook), (48, (.slice (.int .i64))), (54, TGPhrase)], G := [(24, C24), (36, C36), (37, C37), (38, C38)], ro := [1], loops := [(2, { keep := [1, 6, 7], live := [.tv 8 (.int .i64)], outs := [(.exit 0, []), (.ret, [.tv 2 .bool])] })], joins := [] }
theorem E30_eq : ∀ x, afun E30 Try.f30 C30.ps C30.rs x = C30.fn x := fun x => by kernel_rfl
theorem S30 : Sound Try.prog 30 C30 := fun_sound (E := E30) ⟨good_T (by kernel_rfl), (good_cons S24 ⟨_, Try.func24, by kernel_rfl, by kernel_rfl⟩ (good_cons S36 ⟨_, Try.func36, by kernel_rfl, by kernel_rfl⟩ (good_cons S37 ⟨_, Try.func37, by kernel_rfl, by kernel_rfl⟩ (good_cons S38 ⟨_, Try.func38, by kernel_rfl, by kernel_rfl⟩ good_nil)))), mixedOk⟩ Try.func30 rfl E30_eq
/-- spec.spLetters -/
noncomputable def s_spLetters (p_s : Bytes) : Option (Bool) :=
  (loopE (fun (st2 : Int) => (
      bif (decide (st2 < (p_s.length : Int))) then
        (idx p_s st2).bind fun b3 =>
        (bif (decide ((b3.toNat : Int) < 97)) then
            some true
          else
            (idx p_s st2).bind fun b4 =>
            some (decide (122 < (b4.toNat : Int)))).bind fun c5 =>
        bif c5 then
          some (.inr (.inr false))
        else
          some (.inl (w64 (st2 + 1)))
      else
        some (.inr (.inl ())) : Option ((Int) ⊕ (Unit ⊕ Bool)))) 0).bind fun o6 =>
  match o6 with
  | .inl _ =>
    some (decide ((p_s.length : Int) ≤ 40))
  | .inr y8 =>
    some y8
noncomputable def C31 : FnSpec := { ps := [.val .str], rs := [.val .bool], fn := fun x => s_spLetters x }
noncomputable def E31 : Env := { T := [(9, .str)], G := [], ro := [], loops := [(2, { keep := [0], live := [.tv 3 (.int .i64)], outs := [(.exit 0, []), (.ret, [.tv 2 .bool])] })], joins := [] }
theorem E31_eq : ∀ x, afun E31 Try.f31 C31.ps C31.rs x = C31.fn x := fun x => by kernel_rfl
theorem S31 : Sound Try.prog 31 C31 := fun_sound (E := E31) ⟨good_T (by kernel_rfl), good_nil, mixedOk⟩ Try.func31 rfl E31_eq
/-- spec.spAsked -/
noncomputable def s_spAsked (p_b : GBook) (p_s : Bytes) : Option (Bool) :=
  (s_bkGood p_b).bind fun r1 =>
  (bif r1 then
      (s_spLetters p_s).bind fun r2 =>
      some r2
    else
      some false).bind fun c3 =>
  some c3
noncomputable def C22 : FnSpec := { ps := [.val TGBook, .val .str], rs := [.val .bool], fn := fun x => s_spAsked x.1 x.2 }
noncomputable def E22 : Env := { T := [(34, TGBook)], G := [(30, C30), (31, C31)], ro := [2], loops := [], joins := [] }
theorem E22_eq : ∀ x, afun E22 Try.f22 C22.ps C22.rs x = C22.fn x := fun x => by kernel_rfl
theorem S22 : Sound Try.prog 22 C22 := fun_sound (E := E22) ⟨good_T (by kernel_rfl), (good_cons S30 ⟨_, Try.func30, by kernel_rfl, by kernel_rfl⟩ (good_cons S31 ⟨_, Try.func31, by kernel_rfl, by kernel_rfl⟩ good_nil)), mixedOk⟩ Try.func22 rfl E22_eq
/-- spec.spBegins -/
noncomputable def s_spBegins (p_s : Bytes) (p_text : Bytes) : Option (Bool) :=
  (bif (decide ((p_text.length : Int) ≤ (p_s.length : Int))) then
      (sub p_s 0 (p_text.length : Int)).bind fun l1 =>
      some (decide (l1 = p_text))
    else
      some false).bind fun c2 =>
  some c2
noncomputable def C32 : FnSpec := { ps := [.val .str, .val .str], rs := [.val .bool], fn := fun x => s_spBegins x.1 x.2 }
noncomputable def E32 : Env := { T := [(9, .str)], G := [], ro := [], loops := [], joins := [] }
theorem E32_eq : ∀ x, afun E32 Try.f32 C32.ps C32.rs x = C32.fn x := fun x => by kernel_rfl
theorem S32 : Sound Try.prog 32 C32 := fun_sound (E := E32) ⟨good_T (by kernel_rfl), good_nil, mixedOk⟩ Try.func32 rfl E32_eq
/-- spec.spTable -/
noncomputable def s_spTable (p_b : GBook) (p_s : Bytes) : Option ((List Int)) :=
  bif decide (0 ≤ (w64 ((p_s.length : Int) + 1))) && decide ((w64 ((p_s.length : Int) + 1)) ≤ (w64 ((p_s.length : Int) + 1))) && decide ((w64 ((p_s.length : Int) + 1)) ≤ lim) then
    (loopE (fun (st2 : (List Int) × Int) => (
        bif (decide (0 ≤ st2.2)) then
          bif decide (0 ≤ st2.2) && decide (st2.2 < (st2.1.length : Int)) then
            (loopE (fun (st4 : (List Int) × Int) => (
                bif (decide (st4.2 < (p_b.1.length : Int))) then
                  (idx p_b.1 st4.2).bind fun e5 =>
                  (sub p_s st2.2 (p_s.length : Int)).bind fun l6 =>
                  (s_spBegins l6 e5.1).bind fun r7 =>
                  (bif (!r7) then
                      some true
                    else
                      bif decide (0 ≤ (w64 (st2.2 + (e5.1.length : Int)))) && decide ((w64 (st2.2 + (e5.1.length : Int))) < (st4.1.length : Int)) then
                        (st4.1[(Int.toNat (w64 (st2.2 + (e5.1.length : Int))))]?).bind fun e8 =>
                        some (decide (e8 < 0))
                      else
                        none).bind fun c9 =>
                  bif c9 then
                    some (.inl (st4.1, (w64 (st4.2 + 1))))
                  else
                    bif decide (0 ≤ (w64 (st2.2 + (e5.1.length : Int)))) && decide ((w64 (st2.2 + (e5.1.length : Int))) < (st4.1.length : Int)) then
                      (st4.1[(Int.toNat (w64 (st2.2 + (e5.1.length : Int))))]?).bind fun e10 =>
                      bif decide (0 ≤ st2.2) && decide (st2.2 < (st4.1.length : Int)) then
                        (st4.1[(Int.toNat st2.2)]?).bind fun e11 =>
                        (bif (decide (e11 < 0)) then
                            some true
                          else
                            bif decide (0 ≤ st2.2) && decide (st2.2 < (st4.1.length : Int)) then
                              (st4.1[(Int.toNat st2.2)]?).bind fun e12 =>
                              some (decide ((w64 ((e5.2.1.length : Int) + e10)) < e12))
                            else
                              none).bind fun c13 =>
                        bif c13 then
                          bif decide (0 ≤ st2.2) && decide (st2.2 < (st4.1.length : Int)) then
                            some (.inl ((st4.1.set (Int.toNat st2.2) (w64 ((e5.2.1.length : Int) + e10))), (w64 (st4.2 + 1))))
                          else
                            none
                        else
                          some (.inl (st4.1, (w64 (st4.2 + 1))))
                      else
                        none
                    else
                      none
                else
                  some (.inr st4.1) : Option (((List Int) × Int) ⊕ ((List Int))))) ((st2.1.set (Int.toNat st2.2) (-1)), 0)).bind fun o14 =>
            some (.inl (o14, (w64 (st2.2 - 1))))
          else
            none
        else
          some (.inr st2.1) : Option (((List Int) × Int) ⊕ ((List Int))))) ((List.replicate (Int.toNat (w64 ((p_s.length : Int) + 1))) (0 : Int)), (w64 ((p_s.length : Int) - 1)))).bind fun o15 =>
    some o15
  else
    none
noncomputable def C23 : FnSpec := { ps := [.val TGBook, .val .str], rs := [.own (.slice (.int .i64))], fn := fun x => s_spTable x.1 x.2 }
noncomputable def E23 : Env := { T := [(3, (.int .i64)), (9, .str), (32, (.slice TGPhrase)), (34, TGBook), (48, (.slice (.int .i64))), (54, TGPhrase)], G := [(32, C32)], ro := [2], loops := [(3, { keep := [1, 2], live := [.own 5 [] 208 (.int .i64) true, .tv 6 (.int .i64)], outs := [(.exit 0, [.own 5 [] 208 (.int .i64) true])] }), (7, { keep := [1, 2, 6, 25, 26], live := [.own 5 [] 208 (.int .i64) true, .tv 27 (.int .i64)], outs := [(.exit 2, [.own 5 [] 208 (.int .i64) true])] })], joins := [] }
theorem E23_eq : ∀ x, afun E23 Try.f23 C23.ps C23.rs x = C23.fn x := fun x => by kernel_rfl
theorem S23 : Sound Try.prog 23 C23 := fun_sound (E := E23) ⟨good_T (by kernel_rfl), (good_cons S32 ⟨_, Try.func32, by kernel_rfl, by kernel_rfl⟩ good_nil), mixedOk⟩ Try.func23 rfl E23_eq
/-- spec.LeastSignals -/
noncomputable def s_LeastSignals (p_b : GBook) (p_s : Bytes) : Option (Int × Bool) :=
  (s_spAsked p_b p_s).bind fun r1 =>
  (bif (!r1) then
      some true
    else
      (s_spTable p_b p_s).bind fun r2 =>
      bif decide (0 ≤ 0) && decide (0 < (r2.length : Int)) then
        (r2[(Int.toNat 0)]?).bind fun e3 =>
        some (decide (e3 < 0))
      else
        none).bind fun c4 =>
  bif c4 then
    some (0, false)
  else
    (s_spTable p_b p_s).bind fun r5 =>
    bif decide (0 ≤ 0) && decide (0 < (r5.length : Int)) then
      (r5[(Int.toNat 0)]?).bind fun e6 =>
      some (e6, true)
    else
      none
noncomputable def C11 : FnSpec := { ps := [.val TGBook, .val .str], rs := [.val (.int .i64), .val .bool], fn := fun x => s_LeastSignals x.1 x.2 }
noncomputable def E11 : Env := { T := [(3, (.int .i64)), (34, TGBook), (48, (.slice (.int .i64)))], G := [(22, C22), (23, C23)], ro := [2], loops := [], joins := [] }
theorem E11_eq : ∀ x, afun E11 Try.f11 C11.ps C11.rs x = C11.fn x := fun x => by kernel_rfl
theorem S11 : Sound Try.prog 11 C11 := fun_sound (E := E11) ⟨good_T (by kernel_rfl), (good_cons S22 ⟨_, Try.func22, by kernel_rfl, by kernel_rfl⟩ (good_cons S23 ⟨_, Try.func23, by kernel_rfl, by kernel_rfl⟩ good_nil)), mixedOk⟩ Try.func11 rfl E11_eq
/-- spec.pcPrice -/
noncomputable def s_pcPrice (p_p : GPrice) : Option (Bool) :=
  (s_l1In p_p.1 0 10000).bind fun r1 =>
  (bif r1 then
      (s_l1In p_p.2.1 0 100).bind fun r2 =>
      some r2
    else
      some false).bind fun c3 =>
  (bif c3 then
      (s_l1In p_p.2.2.1 0 1000).bind fun r4 =>
      some r4
    else
      some false).bind fun c5 =>
  (bif c5 then
      (s_l1In p_p.2.2.2.1 0 200).bind fun r6 =>
      some r6
    else
      some false).bind fun c7 =>
  some c7
noncomputable def C12 : FnSpec := { ps := [.val TGPrice], rs := [.val .bool], fn := fun x => s_pcPrice x }
noncomputable def E12 : Env := { T := [(3, (.int .i64)), (30, TGPrice)], G := [(24, C24)], ro := [1], loops := [], joins := [] }
theorem E12_eq : ∀ x, afun E12 Try.f12 C12.ps C12.rs x = C12.fn x := fun x => by kernel_rfl
theorem S12 : Sound Try.prog 12 C12 := fun_sound (E := E12) ⟨good_T (by kernel_rfl), (good_cons S24 ⟨_, Try.func24, by kernel_rfl, by kernel_rfl⟩ good_nil), mixedOk⟩ Try.func12 rfl E12_eq
/-- spec.pcSent -/
noncomputable def s_pcSent (p_x : GSent) : Option (Bool) :=
  (s_l1In p_x.1 1 72).bind fun r1 =>
  (bif r1 then
      (s_l1In p_x.2.1 1 16).bind fun r2 =>
      some r2
    else
      some false).bind fun c3 =>
  (bif c3 then
      (s_l1In p_x.2.2.2.1 0 10000).bind fun r4 =>
      some r4
    else
      some false).bind fun c5 =>
  some c5
noncomputable def C13 : FnSpec := { ps := [.val TGSent], rs := [.val .bool], fn := fun x => s_pcSent x }
noncomputable def E13 : Env := { T := [(3, (.int .i64)), (41, TGSent)], G := [(24, C24)], ro := [1], loops := [], joins := [] }
theorem E13_eq : ∀ x, afun E13 Try.f13 C13.ps C13.rs x = C13.fn x := fun x => by kernel_rfl
theorem S13 : Sound Try.prog 13 C13 := fun_sound (E := E13) ⟨good_T (by kernel_rfl), (good_cons S24 ⟨_, Try.func24, by kernel_rfl, by kernel_rfl⟩ good_nil), mixedOk⟩ Try.func13 rfl E13_eq
/-- spec.pcCost -/
noncomputable def s_pcCost (p_p : GPrice) (p_x : GSent) : Option (Int) :=
  bif p_x.2.2.1 then
    some (w64 ((w64 ((w64 (p_p.1 + (w64 ((w64 (p_p.2.1 * p_x.1)) * p_x.2.1)))) + (w64 (p_p.2.2.1 * p_x.2.1)))) + (w64 (Int.tdiv (w64 ((w64 ((w64 (p_p.1 + (w64 ((w64 (p_p.2.1 * p_x.1)) * p_x.2.1)))) + (w64 (p_p.2.2.1 * p_x.2.1)))) * p_p.2.2.2.1)) 100))))
  else
    some (w64 ((w64 (p_p.1 + (w64 ((w64 (p_p.2.1 * p_x.1)) * p_x.2.1)))) + (w64 (p_p.2.2.1 * p_x.2.1))))
noncomputable def C14 : FnSpec := { ps := [.val TGPrice, .val TGSent], rs := [.val (.int .i64)], fn := fun x => s_pcCost x.1 x.2 }
noncomputable def E14 : Env := { T := [(3, (.int .i64)), (4, .bool), (30, TGPrice), (41, TGSent)], G := [], ro := [2, 3], loops := [], joins := [] }
theorem E14_eq : ∀ x, afun E14 Try.f14 C14.ps C14.rs x = C14.fn x := fun x => by kernel_rfl
theorem S14 : Sound Try.prog 14 C14 := fun_sound (E := E14) ⟨good_T (by kernel_rfl), good_nil, mixedOk⟩ Try.func14 rfl E14_eq
/-- spec.PriceOfLetters -/
noncomputable def s_PriceOfLetters (p_p : GPrice) (p_b : GBook) (p_s : Bytes) (p_towers : Int) : Option (Int × Bool) :=
  (s_LeastSignals p_b p_s).bind fun r1 =>
  (bif (!r1.2) then
      some true
    else
      (s_pcPrice p_p).bind fun r2 =>
      some (!r2)).bind fun c3 =>
  (bif c3 then
      some true
    else
      (s_pcSent (r1.1, p_towers, false, 0, ())).bind fun r4 =>
      some (!r4)).bind fun c5 =>
  bif c5 then
    some (0, false)
  else
    (s_pcCost p_p (r1.1, p_towers, false, 0, ())).bind fun r6 =>
    some (r6, true)
noncomputable def C5 : FnSpec := { ps := [.val TGPrice, .val TGBook, .val .str, .val (.int .i64)], rs := [.val (.int .i64), .val .bool], fn := fun x => s_PriceOfLetters x.1 x.2.1 x.2.2.1 x.2.2.2 }
noncomputable def E5 : Env := { T := [(30, TGPrice), (34, TGBook), (41, TGSent)], G := [(11, C11), (12, C12), (13, C13), (14, C14)], ro := [4, 5], loops := [], joins := [] }
theorem E5_eq : ∀ x, afun E5 Try.f5 C5.ps C5.rs x = C5.fn x := fun x => by kernel_rfl
theorem S5 : Sound Try.prog 5 C5 := fun_sound (E := E5) ⟨good_T (by kernel_rfl), (good_cons S11 ⟨_, Try.func11, by kernel_rfl, by kernel_rfl⟩ (good_cons S12 ⟨_, Try.func12, by kernel_rfl, by kernel_rfl⟩ (good_cons S13 ⟨_, Try.func13, by kernel_rfl, by kernel_rfl⟩ (good_cons S14 ⟨_, Try.func14, by kernel_rfl, by kernel_rfl⟩ good_nil)))), mixedOk⟩ Try.func5 rfl E5_eq
/-- laws.toPrice -/
noncomputable def l_toPrice (p_a : GPrice) : Option (GPrice) :=
  some p_a
noncomputable def C6 : FnSpec := { ps := [.val TGPrice], rs := [.val TGPrice], fn := fun x => l_toPrice x }
noncomputable def E6 : Env := { T := [(3, (.int .i64)), (23, TGPrice), (30, TGPrice)], G := [], ro := [1], loops := [], joins := [] }
theorem E6_eq : ∀ x, afun E6 Try.f6 C6.ps C6.rs x = C6.fn x := fun x => by kernel_rfl
theorem S6 : Sound Try.prog 6 C6 := fun_sound (E := E6) ⟨good_T (by kernel_rfl), good_nil, mixedOk⟩ Try.func6 rfl E6_eq
/-- laws.toIntS -/
noncomputable def l_toIntS (p_a : List Int) : Option ((List Int)) :=
  bif decide (0 ≤ (p_a.length : Int)) && decide ((p_a.length : Int) ≤ (p_a.length : Int)) && decide ((p_a.length : Int) ≤ lim) then
    (loopE (fun (st2 : (List Int) × Int) => (
        bif (decide (st2.2 < (p_a.length : Int))) then
          (idx p_a st2.2).bind fun e3 =>
          bif decide (0 ≤ st2.2) && decide (st2.2 < (st2.1.length : Int)) then
            some (.inl ((st2.1.set (Int.toNat st2.2) e3), (w64 (st2.2 + 1))))
          else
            none
        else
          some (.inr st2.1) : Option (((List Int) × Int) ⊕ ((List Int))))) ((List.replicate (Int.toNat (p_a.length : Int)) (0 : Int)), 0)).bind fun o4 =>
    some o4
  else
    none
noncomputable def C33 : FnSpec := { ps := [.val (.slice (.int .i64))], rs := [.own (.slice (.int .i64))], fn := fun x => l_toIntS x }
noncomputable def E33 : Env := { T := [(3, (.int .i64)), (48, (.slice (.int .i64)))], G := [], ro := [], loops := [(3, { keep := [0], live := [.own 3 [] 112 (.int .i64) true, .tv 4 (.int .i64)], outs := [(.exit 0, [.own 3 [] 112 (.int .i64) true])] })], joins := [] }
theorem E33_eq : ∀ x, afun E33 Try.f33 C33.ps C33.rs x = C33.fn x := fun x => by kernel_rfl
theorem S33 : Sound Try.prog 33 C33 := fun_sound (E := E33) ⟨good_T (by kernel_rfl), good_nil, mixedOk⟩ Try.func33 rfl E33_eq
/-- laws.toPhrase -/
noncomputable def l_toPhrase (p_a : GPhrase) : Option (GPhrase) :=
  (l_toIntS p_a.2.1).bind fun r1 =>
  some (p_a.1, r1, ())
noncomputable def C25 : FnSpec := { ps := [.val TGPhrase], rs := [.own TGPhrase], fn := fun x => l_toPhrase x }
noncomputable def E25 : Env := { T := [(9, .str), (48, (.slice (.int .i64))), (50, TGPhrase), (54, TGPhrase)], G := [(33, C33)], ro := [1], loops := [], joins := [] }
theorem E25_eq : ∀ x, afun E25 Try.f25 C25.ps C25.rs x = C25.fn x := fun x => by kernel_rfl
theorem S25 : Sound Try.prog 25 C25 := fun_sound (E := E25) ⟨good_T (by kernel_rfl), (good_cons S33 ⟨_, Try.func33, by kernel_rfl, by kernel_rfl⟩ good_nil), mixedOk⟩ Try.func25 rfl E25_eq
/-- laws.toPhraseS -/
noncomputable def l_toPhraseS (p_a : List GPhrase) : Option ((List GPhrase)) :=
  bif decide (0 ≤ (p_a.length : Int)) && decide ((p_a.length : Int) ≤ (p_a.length : Int)) && decide ((p_a.length : Int) ≤ lim) then
    (loopE (fun (st3 : (List GPhrase) × Int) => (
        bif (decide (st3.2 < (p_a.length : Int))) then
          (idx p_a st3.2).bind fun e4 =>
          (l_toPhrase e4).bind fun r5 =>
          bif decide (0 ≤ st3.2) && decide (st3.2 < (st3.1.length : Int)) then
            some (.inl ((st3.1.set (Int.toNat st3.2) r5), (w64 (st3.2 + 1))))
          else
            none
        else
          some (.inr st3.1) : Option (((List GPhrase) × Int) ⊕ ((List GPhrase))))) ((List.replicate (Int.toNat (p_a.length : Int)) (([], ([], ())) : GPhrase)), 0)).bind fun o6 =>
    some o6
  else
    none
noncomputable def C15 : FnSpec := { ps := [.val (.slice TGPhrase)], rs := [.val (.slice TGPhrase)], fn := fun x => l_toPhraseS x }
noncomputable def E15 : Env := { T := [(24, (.slice TGPhrase)), (32, (.slice TGPhrase)), (50, TGPhrase), (54, TGPhrase)], G := [(25, C25)], ro := [], loops := [(3, { keep := [0], live := [.own 3 [] 112 TGPhrase false, .tv 4 (.int .i64)], outs := [(.exit 0, [.own 3 [] 112 TGPhrase false])] })], joins := [] }
theorem E15_eq : ∀ x, afun E15 Try.f15 C15.ps C15.rs x = C15.fn x := fun x => by kernel_rfl
theorem S15 : Sound Try.prog 15 C15 := fun_sound (E := E15) ⟨good_T (by kernel_rfl), (good_cons S25 ⟨_, Try.func25, by kernel_rfl, by kernel_rfl⟩ good_nil), mixedOk⟩ Try.func15 rfl E15_eq
/-- laws.toBook -/
noncomputable def l_toBook (p_a : GBook) : Option (GBook) :=
  (l_toPhraseS p_a.1).bind fun r1 =>
  some (r1, ())
noncomputable def C7 : FnSpec := { ps := [.val TGBook], rs := [.val TGBook], fn := fun x => l_toBook x }
noncomputable def E7 : Env := { T := [(24, (.slice TGPhrase)), (26, TGBook), (32, (.slice TGPhrase)), (34, TGBook)], G := [(15, C15)], ro := [1], loops := [], joins := [] }
theorem E7_eq : ∀ x, afun E7 Try.f7 C7.ps C7.rs x = C7.fn x := fun x => by kernel_rfl
theorem S7 : Sound Try.prog 7 C7 := fun_sound (E := E7) ⟨good_T (by kernel_rfl), (good_cons S15 ⟨_, Try.func15, by kernel_rfl, by kernel_rfl⟩ good_nil), mixedOk⟩ Try.func7 rfl E7_eq
/-- impl.within -/
noncomputable def i_within (p_n : Int) (p_low : Int) (p_high : Int) : Option (Bool) :=
  (bif (decide (p_low ≤ p_n)) then
      some (decide (p_n ≤ p_high))
    else
      some false).bind fun c1 =>
  some c1
noncomputable def C27 : FnSpec := { ps := [.val (.int .i64), .val (.int .i64), .val (.int .i64)], rs := [.val .bool], fn := fun x => i_within x.1 x.2.1 x.2.2 }
noncomputable def E27 : Env := { T := [], G := [], ro := [], loops := [], joins := [] }
theorem E27_eq : ∀ x, afun E27 Try.f27 C27.ps C27.rs x = C27.fn x := fun x => by kernel_rfl
theorem S27 : Sound Try.prog 27 C27 := fun_sound (E := E27) ⟨good_T (by kernel_rfl), good_nil, mixedOk⟩ Try.func27 rfl E27_eq
/-- impl.isSmall -/
noncomputable def i_isSmall (p_s : Bytes) : Option (Bool) :=
  (loopE (fun (st2 : Int) => (
      bif (decide (st2 < (p_s.length : Int))) then
        (idx p_s st2).bind fun b3 =>
        (bif (decide ((b3.toNat : Int) < 97)) then
            some true
          else
            (idx p_s st2).bind fun b4 =>
            some (decide (122 < (b4.toNat : Int)))).bind fun c5 =>
        bif c5 then
          some (.inr (.inr false))
        else
          some (.inl (w64 (st2 + 1)))
      else
        some (.inr (.inl ())) : Option ((Int) ⊕ (Unit ⊕ Bool)))) 0).bind fun o6 =>
  match o6 with
  | .inl _ =>
    some true
  | .inr y8 =>
    some y8
noncomputable def C47 : FnSpec := { ps := [.val .str], rs := [.val .bool], fn := fun x => i_isSmall x }
noncomputable def E47 : Env := { T := [(9, .str)], G := [], ro := [], loops := [(2, { keep := [0], live := [.tv 3 (.int .i64)], outs := [(.exit 0, []), (.ret, [.tv 2 .bool])] })], joins := [] }
theorem E47_eq : ∀ x, afun E47 Try.f47 C47.ps C47.rs x = C47.fn x := fun x => by kernel_rfl
theorem S47 : Sound Try.prog 47 C47 := fun_sound (E := E47) ⟨good_T (by kernel_rfl), good_nil, mixedOk⟩ Try.func47 rfl E47_eq
/-- impl.IsPhraseText -/
noncomputable def i_IsPhraseText (p_s : Bytes) : Option (Bool) :=
  (bif (decide (1 ≤ (p_s.length : Int))) then
      some (decide ((p_s.length : Int) ≤ 12))
    else
      some false).bind fun c1 =>
  (bif c1 then
      (i_isSmall p_s).bind fun r2 =>
      some r2
    else
      some false).bind fun c3 =>
  some c3
noncomputable def C49 : FnSpec := { ps := [.val .str], rs := [.val .bool], fn := fun x => i_IsPhraseText x }
noncomputable def E49 : Env := { T := [(9, .str)], G := [(47, C47)], ro := [], loops := [], joins := [] }
theorem E49_eq : ∀ x, afun E49 Try.f49 C49.ps C49.rs x = C49.fn x := fun x => by kernel_rfl
theorem S49 : Sound Try.prog 49 C49 := fun_sound (E := E49) ⟨good_T (by kernel_rfl), (good_cons S47 ⟨_, Try.func47, by kernel_rfl, by kernel_rfl⟩ good_nil), mixedOk⟩ Try.func49 rfl E49_eq
/-- impl.allWithin -/
noncomputable def i_allWithin (p_l : List Int) (p_low : Int) (p_high : Int) : Option (Bool) :=
  (loopE (fun (st2 : Int) => (
      bif (decide (st2 < (p_l.length : Int))) then
        (idx p_l st2).bind fun e3 =>
        (i_within e3 p_low p_high).bind fun r4 =>
        bif (!r4) then
          some (.inr (.inr false))
        else
          some (.inl (w64 (st2 + 1)))
      else
        some (.inr (.inl ())) : Option ((Int) ⊕ (Unit ⊕ Bool)))) 0).bind fun o5 =>
  match o5 with
  | .inl _ =>
    some true
  | .inr y7 =>
    some y7
noncomputable def C50 : FnSpec := { ps := [.val (.slice (.int .i64)), .val (.int .i64), .val (.int .i64)], rs := [.val .bool], fn := fun x => i_allWithin x.1 x.2.1 x.2.2 }
noncomputable def E50 : Env := { T := [(3, (.int .i64)), (48, (.slice (.int .i64)))], G := [(27, C27)], ro := [], loops := [(2, { keep := [1, 2, 9, 10], live := [.tv 11 (.int .i64)], outs := [(.exit 0, []), (.ret, [.tv 6 .bool])] })], joins := [] }
theorem E50_eq : ∀ x, afun E50 Try.f50 C50.ps C50.rs x = C50.fn x := fun x => by kernel_rfl
theorem S50 : Sound Try.prog 50 C50 := fun_sound (E := E50) ⟨good_T (by kernel_rfl), (good_cons S27 ⟨_, Try.func27, by kernel_rfl, by kernel_rfl⟩ good_nil), mixedOk⟩ Try.func50 rfl E50_eq
/-- impl.isPhrase -/
noncomputable def i_isPhrase (p_x : GPhrase) : Option (Bool) :=
  (i_IsPhraseText p_x.1).bind fun r1 =>
  (bif r1 then
      (i_within (p_x.2.1.length : Int) 1 3).bind fun r2 =>
      some r2
    else
      some false).bind fun c3 =>
  (bif c3 then
      (i_allWithin p_x.2.1 1 60).bind fun r4 =>
      some r4
    else
      some false).bind fun c5 =>
  some c5
noncomputable def C45 : FnSpec := { ps := [.val TGPhrase], rs := [.val .bool], fn := fun x => i_isPhrase x }
noncomputable def E45 : Env := { T := [(9, .str), (48, (.slice (.int .i64))), (54, TGPhrase)], G := [(27, C27), (49, C49), (50, C50)], ro := [1], loops := [], joins := [] }
theorem E45_eq : ∀ x, afun E45 Try.f45 C45.ps C45.rs x = C45.fn x := fun x => by kernel_rfl
theorem S45 : Sound Try.prog 45 C45 := fun_sound (E := E45) ⟨good_T (by kernel_rfl), (good_cons S27 ⟨_, Try.func27, by kernel_rfl, by kernel_rfl⟩ (good_cons S49 ⟨_, Try.func49, by kernel_rfl, by kernel_rfl⟩ (good_cons S50 ⟨_, Try.func50, by kernel_rfl, by kernel_rfl⟩ good_nil))), mixedOk⟩ Try.func45 rfl E45_eq
/-- slices.Equal[[]int,int] -/
noncomputable def slices_Equal_int (p_s1 : List Int) (p_s2 : List Int) : Option (Bool) :=
  bif (!decide ((p_s1.length : Int) = (p_s2.length : Int))) then
    some false
  else
    (loopE (fun (st2 : Int) => (
        bif (decide (st2 < (p_s1.length : Int))) then
          (idx p_s1 st2).bind fun e3 =>
          (idx p_s2 st2).bind fun e4 =>
          bif (!decide (e3 = e4)) then
            some (.inr (.inr false))
          else
            some (.inl (w64 (st2 + 1)))
        else
          some (.inr (.inl ())) : Option ((Int) ⊕ (Unit ⊕ Bool)))) 0).bind fun o5 =>
    match o5 with
    | .inl _ =>
      some true
    | .inr y7 =>
      some y7
noncomputable def C53 : FnSpec := { ps := [.val (.slice (.int .i64)), .val (.slice (.int .i64))], rs := [.val .bool], fn := fun x => slices_Equal_int x.1 x.2 }
noncomputable def E53 : Env := { T := [(3, (.int .i64)), (48, (.slice (.int .i64)))], G := [], ro := [], loops := [(4, { keep := [0, 1, 12], live := [.tv 13 (.int .i64)], outs := [(.exit 0, []), (.ret, [.tv 4 .bool])] })], joins := [] }
theorem E53_eq : ∀ x, afun E53 Try.f53 C53.ps C53.rs x = C53.fn x := fun x => by kernel_rfl
theorem S53 : Sound Try.prog 53 C53 := fun_sound (E := E53) ⟨good_T (by kernel_rfl), good_nil, mixedOk⟩ Try.func53 rfl E53_eq
/-- impl.phraseIndex$1 -/
noncomputable def i_phraseIndex_1 (p_x : GPhrase) (p_a1 : List Int) : Option (Bool) :=
  (slices_Equal_int p_x.2.1 p_a1).bind fun r1 =>
  some r1
noncomputable def C52 : FnSpec := { ps := [.val TGPhrase, .rp (.slice (.int .i64))], rs := [.val .bool], fn := fun x => i_phraseIndex_1 x.1 x.2 }
noncomputable def E52 : Env := { T := [(48, (.slice (.int .i64))), (54, TGPhrase)], G := [(53, C53)], ro := [2], loops := [], joins := [] }
theorem E52_eq : ∀ x, afun E52 Try.f52 C52.ps C52.rs x = C52.fn x := fun x => by kernel_rfl
theorem S52 : Sound Try.prog 52 C52 := fun_sound (E := E52) ⟨good_T (by kernel_rfl), (good_cons S53 ⟨_, Try.func53, by kernel_rfl, by kernel_rfl⟩ good_nil), mixedOk⟩ Try.func52 rfl E52_eq
/-- slices.IndexFunc[[]impl.Phrase,impl.Phrase] -/
noncomputable def slices_IndexFunc_Phrase_52 (p_s : List GPhrase) (p_f : (List Int) × Unit) : Option (Int) :=
  (loopE (fun (st2 : Int) => (
      bif (decide (st2 < (p_s.length : Int))) then
        (idx p_s st2).bind fun e3 =>
        (i_phraseIndex_1 e3 p_f.1).bind fun r4 =>
        bif r4 then
          some (.inr (.inr st2))
        else
          some (.inl (w64 (st2 + 1)))
      else
        some (.inr (.inl ())) : Option ((Int) ⊕ (Unit ⊕ Int)))) 0).bind fun o5 =>
  match o5 with
  | .inl _ =>
    some (-1)
  | .inr y7 =>
    some y7
noncomputable def C51_52 : FnSpec := { ps := [.val (.slice TGPhrase), .fn 52 [(.slice (.int .i64))]], rs := [.val (.int .i64)], fn := fun x => slices_IndexFunc_Phrase_52 x.1 x.2 }
noncomputable def E51_52 : Env := { T := [(32, (.slice TGPhrase)), (54, TGPhrase)], G := [(52, C52)], ro := [], loops := [(2, { keep := [0, 1, 7], live := [.tv 8 (.int .i64)], outs := [(.exit 0, []), (.ret, [.tv 4 (.int .i64)])] })], joins := [] }
theorem E51_52_eq : ∀ x, afun E51_52 Try.f51 C51_52.ps C51_52.rs x = C51_52.fn x := fun x => by kernel_rfl
theorem S51_52 : Sound Try.prog 51 C51_52 := fun_sound (E := E51_52) ⟨good_T (by kernel_rfl), (good_cons S52 ⟨_, Try.func52, by kernel_rfl, by kernel_rfl⟩ good_nil), mixedOk⟩ Try.func51 rfl E51_52_eq
/-- impl.phraseIndex -/
noncomputable def i_phraseIndex (p_b : GBook) (p_signals : List Int) : Option (Int) :=
  (slices_IndexFunc_Phrase_52 p_b.1 (p_signals, ())).bind fun r1 =>
  some r1
noncomputable def C46 : FnSpec := { ps := [.val TGBook, .val (.slice (.int .i64))], rs := [.val (.int .i64)], fn := fun x => i_phraseIndex x.1 x.2 }
noncomputable def E46 : Env := { T := [(32, (.slice TGPhrase)), (34, TGBook), (48, (.slice (.int .i64)))], G := [(51, C51_52)], ro := [2, 3], loops := [], joins := [] }
theorem E46_eq : ∀ x, afun E46 Try.f46 C46.ps C46.rs x = C46.fn x := fun x => by kernel_rfl
theorem S46 : Sound Try.prog 46 C46 := fun_sound (E := E46) ⟨good_T (by kernel_rfl), (good_cons S51_52 ⟨_, Try.func51, by kernel_rfl, by kernel_rfl⟩ good_nil), mixedOk⟩ Try.func46 rfl E46_eq
/-- impl.IsBook -/
noncomputable def i_IsBook (p_b : GBook) : Option (Bool) :=
  (i_within (p_b.1.length : Int) 1 40).bind fun r1 =>
  bif (!r1) then
    some false
  else
    (loopE (fun (st3 : Int) => (
        bif (decide (st3 < (p_b.1.length : Int))) then
          (idx p_b.1 st3).bind fun e4 =>
          (i_isPhrase e4).bind fun r5 =>
          (bif (!r5) then
              some true
            else
              (bif (decide (0 < st3)) then
                  (idx p_b.1 (w64 (st3 - 1))).bind fun e6 =>
                  some (!Op.bytesLess e6.1 e4.1)
                else
                  some false).bind fun c7 =>
              some c7).bind fun c8 =>
          (bif c8 then
              some true
            else
              (sub p_b.1 0 st3).bind fun l9 =>
              (i_phraseIndex (l9, ()) e4.2.1).bind fun r10 =>
              some (decide (0 ≤ r10))).bind fun c11 =>
          bif c11 then
            some (.inr (.inr false))
          else
            some (.inl (w64 (st3 + 1)))
        else
          some (.inr (.inl ())) : Option ((Int) ⊕ (Unit ⊕ Bool)))) 0).bind fun o12 =>
    match o12 with
    | .inl _ =>
      some true
    | .inr y14 =>
      some y14
noncomputable def C39 : FnSpec := { ps := [.val TGBook], rs := [.val .bool], fn := fun x => i_IsBook x }
noncomputable def E39 : Env := { T := [(9, .str), (32, (.slice TGPhrase)), (34, TGBook), (48, (.slice (.int .i64))), (54, TGPhrase)], G := [(27, C27), (45, C45), (46, C46)], ro := [1], loops := [(4, { keep := [1, 11, 12], live := [.tv 13 (.int .i64)], outs := [(.exit 0, []), (.ret, [.tv 2 .bool])] })], joins := [] }
theorem E39_eq : ∀ x, afun E39 Try.f39 C39.ps C39.rs x = C39.fn x := fun x => by kernel_rfl
theorem S39 : Sound Try.prog 39 C39 := fun_sound (E := E39) ⟨good_T (by kernel_rfl), (good_cons S27 ⟨_, Try.func27, by kernel_rfl, by kernel_rfl⟩ (good_cons S45 ⟨_, Try.func45, by kernel_rfl, by kernel_rfl⟩ (good_cons S46 ⟨_, Try.func46, by kernel_rfl, by kernel_rfl⟩ good_nil))), mixedOk⟩ Try.func39 rfl E39_eq
/-- impl.isLetters -/
noncomputable def i_isLetters (p_s : Bytes) : Option (Bool) :=
  (bif (decide ((p_s.length : Int) ≤ 40)) then
      (i_isSmall p_s).bind fun r1 =>
      some r1
    else
      some false).bind fun c2 =>
  some c2
noncomputable def C40 : FnSpec := { ps := [.val .str], rs := [.val .bool], fn := fun x => i_isLetters x }
noncomputable def E40 : Env := { T := [(9, .str)], G := [(47, C47)], ro := [], loops := [], joins := [] }
theorem E40_eq : ∀ x, afun E40 Try.f40 C40.ps C40.rs x = C40.fn x := fun x => by kernel_rfl
theorem S40 : Sound Try.prog 40 C40 := fun_sound (E := E40) ⟨good_T (by kernel_rfl), (good_cons S47 ⟨_, Try.func47, by kernel_rfl, by kernel_rfl⟩ good_nil), mixedOk⟩ Try.func40 rfl E40_eq
/-- internal/stringslite.HasPrefix -/
noncomputable def internal_stringslite_HasPrefix (p_s : Bytes) (p_prefix : Bytes) : Option (Bool) :=
  (bif (decide ((p_prefix.length : Int) ≤ (p_s.length : Int))) then
      (sub p_s 0 (p_prefix.length : Int)).bind fun l1 =>
      some (decide (l1 = p_prefix))
    else
      some false).bind fun c2 =>
  some c2
noncomputable def C54 : FnSpec := { ps := [.val .str, .val .str], rs := [.val .bool], fn := fun x => internal_stringslite_HasPrefix x.1 x.2 }
noncomputable def E54 : Env := { T := [(9, .str)], G := [], ro := [], loops := [], joins := [] }
theorem E54_eq : ∀ x, afun E54 Try.f54 C54.ps C54.rs x = C54.fn x := fun x => by kernel_rfl
theorem S54 : Sound Try.prog 54 C54 := fun_sound (E := E54) ⟨good_T (by kernel_rfl), good_nil, mixedOk⟩ Try.func54 rfl E54_eq
/-- strings.HasPrefix -/
noncomputable def strings_HasPrefix (p_s : Bytes) (p_prefix : Bytes) : Option (Bool) :=
  (internal_stringslite_HasPrefix p_s p_prefix).bind fun r1 =>
  some r1
noncomputable def C48 : FnSpec := { ps := [.val .str, .val .str], rs := [.val .bool], fn := fun x => strings_HasPrefix x.1 x.2 }
noncomputable def E48 : Env := { T := [], G := [(54, C54)], ro := [], loops := [], joins := [] }
theorem E48_eq : ∀ x, afun E48 Try.f48 C48.ps C48.rs x = C48.fn x := fun x => by kernel_rfl
theorem S48 : Sound Try.prog 48 C48 := fun_sound (E := E48) ⟨good_T (by kernel_rfl), (good_cons S54 ⟨_, Try.func54, by kernel_rfl, by kernel_rfl⟩ good_nil), mixedOk⟩ Try.func48 rfl E48_eq
/-- impl.spell -/
noncomputable def i_spell (p_b : GBook) (p_s : Bytes) : Option ((List Int) × Bool) :=
  bif decide (0 ≤ (w64 ((p_s.length : Int) + 1))) && decide ((w64 ((p_s.length : Int) + 1)) ≤ (w64 ((p_s.length : Int) + 1))) && decide ((w64 ((p_s.length : Int) + 1)) ≤ lim) then
    bif decide (0 ≤ (w64 ((p_s.length : Int) + 1))) && decide ((w64 ((p_s.length : Int) + 1)) ≤ (w64 ((p_s.length : Int) + 1))) && decide ((w64 ((p_s.length : Int) + 1)) ≤ lim) then
      (loopE (fun (st2 : (List Int) × (List Int) × Int) => (
          bif (decide (0 ≤ st2.2.2)) then
            bif decide (0 ≤ st2.2.2) && decide (st2.2.2 < (st2.1.length : Int)) then
              (loopE (fun (st4 : (List Int) × (List Int) × Int) => (
                  bif (decide (st4.2.2 < (p_b.1.length : Int))) then
                    (idx p_b.1 st4.2.2).bind fun e5 =>
                    (sub p_s st2.2.2 (p_s.length : Int)).bind fun l6 =>
                    (strings_HasPrefix l6 e5.1).bind fun r7 =>
                    bif (!r7) then
                      some (.inl (st4.1, st4.2.1, (w64 (st4.2.2 + 1))))
                    else
                      bif decide (0 ≤ (w64 (st2.2.2 + (e5.1.length : Int)))) && decide ((w64 (st2.2.2 + (e5.1.length : Int))) < (st4.1.length : Int)) then
                        (st4.1[(Int.toNat (w64 (st2.2.2 + (e5.1.length : Int))))]?).bind fun e8 =>
                        bif decide (0 ≤ st2.2.2) && decide (st2.2.2 < (st4.1.length : Int)) then
                          (st4.1[(Int.toNat st2.2.2)]?).bind fun e9 =>
                          bif (decide ((w64 (e8 + (e5.2.1.length : Int))) < e9)) then
                            bif decide (0 ≤ st2.2.2) && decide (st2.2.2 < (st4.1.length : Int)) then
                              bif decide (0 ≤ st2.2.2) && decide (st2.2.2 < (st4.2.1.length : Int)) then
                                some (.inl ((st4.1.set (Int.toNat st2.2.2) (w64 (e8 + (e5.2.1.length : Int)))), (st4.2.1.set (Int.toNat st2.2.2) st4.2.2), (w64 (st4.2.2 + 1))))
                              else
                                none
                            else
                              none
                          else
                            some (.inl (st4.1, st4.2.1, (w64 (st4.2.2 + 1))))
                        else
                          none
                      else
                        none
                  else
                    some (.inr (st4.1, st4.2.1)) : Option (((List Int) × (List Int) × Int) ⊕ (((List Int) × (List Int)))))) ((st2.1.set (Int.toNat st2.2.2) 1073741824), st2.2.1, 0)).bind fun o10 =>
              some (.inl (o10.1, o10.2, (w64 (st2.2.2 - 1))))
            else
              none
          else
            some (.inr (st2.1, st2.2.1)) : Option (((List Int) × (List Int) × Int) ⊕ (((List Int) × (List Int)))))) ((List.replicate (Int.toNat (w64 ((p_s.length : Int) + 1))) (0 : Int)), (List.replicate (Int.toNat (w64 ((p_s.length : Int) + 1))) (0 : Int)), (w64 ((p_s.length : Int) - 1)))).bind fun o11 =>
      bif decide (0 ≤ 0) && decide (0 < (o11.1.length : Int)) then
        (o11.1[(Int.toNat 0)]?).bind fun e12 =>
        bif (decide (1073741824 ≤ e12)) then
          some ([], false)
        else
          (loopE (fun (st14 : (List Int) × (List Int) × Int) => (
              bif (decide (st14.2.2 < (p_s.length : Int))) then
                bif decide (0 ≤ st14.2.2) && decide (st14.2.2 < (st14.1.length : Int)) then
                  (st14.1[(Int.toNat st14.2.2)]?).bind fun e15 =>
                  bif decide (List.length st14.2.1 + List.length [e15] ≤ lim) then
                    bif decide (0 ≤ st14.2.2) && decide (st14.2.2 < (st14.1.length : Int)) then
                      (st14.1[(Int.toNat st14.2.2)]?).bind fun e16 =>
                      (idx p_b.1 e16).bind fun e17 =>
                      some (.inl (st14.1, (st14.2.1 ++ [e15]), (w64 (st14.2.2 + (e17.1.length : Int)))))
                    else
                      none
                  else
                    none
                else
                  none
              else
                some (.inr st14.2.1) : Option (((List Int) × (List Int) × Int) ⊕ ((List Int))))) (o11.2, [], 0)).bind fun o18 =>
          some (o18, true)
      else
        none
    else
      none
  else
    none
noncomputable def C41 : FnSpec := { ps := [.val TGBook, .val .str], rs := [.own (.slice (.int .i64)), .val .bool], fn := fun x => i_spell x.1 x.2 }
noncomputable def E41 : Env := { T := [(3, (.int .i64)), (9, .str), (32, (.slice TGPhrase)), (34, TGBook), (48, (.slice (.int .i64))), (54, TGPhrase)], G := [(48, C48)], ro := [2], loops := [(4, { keep := [1, 2], live := [.own 6 [] 272 (.int .i64) true, .own 7 [] 336 (.int .i64) true, .tv 8 (.int .i64)], outs := [(.exit 0, [.own 6 [] 272 (.int .i64) true, .own 7 [] 336 (.int .i64) true])] }), (8, { keep := [1, 2, 8, 33, 34], live := [.own 6 [] 272 (.int .i64) true, .own 7 [] 336 (.int .i64) true, .tv 35 (.int .i64)], outs := [(.exit 2, [.own 6 [] 272 (.int .i64) true, .own 7 [] 336 (.int .i64) true])] }), (19, { keep := [1, 2], live := [.own 7 [] 336 (.int .i64) true, .own 12 [] 200012 (.int .i64) true, .tv 13 (.int .i64)], outs := [(.exit 4, [.own 12 [] 200012 (.int .i64) true])] })], joins := [] }
theorem E41_eq : ∀ x, afun E41 Try.f41 C41.ps C41.rs x = C41.fn x := fun x => by kernel_rfl
theorem S41 : Sound Try.prog 41 C41 := fun_sound (E := E41) ⟨good_T (by kernel_rfl), (good_cons S48 ⟨_, Try.func48, by kernel_rfl, by kernel_rfl⟩ good_nil), mixedOk⟩ Try.func41 rfl E41_eq
/-- impl.SpellMessage -/
noncomputable def i_SpellMessage (p_b : GBook) (p_s : Bytes) : Option ((List Int) × Bool) :=
  (i_IsBook p_b).bind fun r1 =>
  (bif (!r1) then
      some true
    else
      (i_isLetters p_s).bind fun r2 =>
      some (!r2)).bind fun c3 =>
  bif c3 then
    some ([], false)
  else
    (i_spell p_b p_s).bind fun r4 =>
    some (r4.1, r4.2)
noncomputable def C34 : FnSpec := { ps := [.val TGBook, .val .str], rs := [.own (.slice (.int .i64)), .val .bool], fn := fun x => i_SpellMessage x.1 x.2 }
noncomputable def E34 : Env := { T := [(34, TGBook)], G := [(39, C39), (40, C40), (41, C41)], ro := [2], loops := [], joins := [] }
theorem E34_eq : ∀ x, afun E34 Try.f34 C34.ps C34.rs x = C34.fn x := fun x => by kernel_rfl
theorem S34 : Sound Try.prog 34 C34 := fun_sound (E := E34) ⟨good_T (by kernel_rfl), (good_cons S39 ⟨_, Try.func39, by kernel_rfl, by kernel_rfl⟩ (good_cons S40 ⟨_, Try.func40, by kernel_rfl, by kernel_rfl⟩ (good_cons S41 ⟨_, Try.func41, by kernel_rfl, by kernel_rfl⟩ good_nil))), mixedOk⟩ Try.func34 rfl E34_eq
/-- impl.EncodeMessage -/
noncomputable def i_EncodeMessage (p_b : GBook) (p_s : Bytes) : Option ((List Int) × Bool) :=
  (i_SpellMessage p_b p_s).bind fun r1 =>
  (loopE (fun (st3 : (List Int) × (List Int) × Int) => (
      bif (decide (st3.2.2 < (r1.1.length : Int))) then
        bif decide (0 ≤ st3.2.2) && decide (st3.2.2 < (st3.2.1.length : Int)) then
          (st3.2.1[(Int.toNat st3.2.2)]?).bind fun e4 =>
          (idx p_b.1 e4).bind fun e5 =>
          bif decide (List.length st3.1 + List.length e5.2.1 ≤ lim) then
            some (.inl ((st3.1 ++ e5.2.1), st3.2.1, (w64 (st3.2.2 + 1))))
          else
            none
        else
          none
      else
        some (.inr st3.1) : Option (((List Int) × (List Int) × Int) ⊕ ((List Int))))) ([], r1.1, 0)).bind fun o6 =>
  some (o6, r1.2)
noncomputable def C26 : FnSpec := { ps := [.val TGBook, .val .str], rs := [.own (.slice (.int .i64)), .val .bool], fn := fun x => i_EncodeMessage x.1 x.2 }
noncomputable def E26 : Env := { T := [(3, (.int .i64)), (32, (.slice TGPhrase)), (34, TGBook), (48, (.slice (.int .i64))), (54, TGPhrase)], G := [(34, C34)], ro := [2], loops := [(4, { keep := [2, 7, 18], live := [.own 8 [] 200008 (.int .i64) true, .own 17 [] 224 (.int .i64) true, .tv 19 (.int .i64)], outs := [(.exit 0, [.own 8 [] 200008 (.int .i64) true])] })], joins := [] }
theorem E26_eq : ∀ x, afun E26 Try.f26 C26.ps C26.rs x = C26.fn x := fun x => by kernel_rfl
theorem S26 : Sound Try.prog 26 C26 := fun_sound (E := E26) ⟨good_T (by kernel_rfl), (good_cons S34 ⟨_, Try.func34, by kernel_rfl, by kernel_rfl⟩ good_nil), mixedOk⟩ Try.func26 rfl E26_eq
/-- impl.LeastSignals -/
noncomputable def i_LeastSignals (p_b : GBook) (p_s : Bytes) : Option (Int × Bool) :=
  (i_EncodeMessage p_b p_s).bind fun r1 =>
  some ((r1.1.length : Int), r1.2)
noncomputable def C16 : FnSpec := { ps := [.val TGBook, .val .str], rs := [.val (.int .i64), .val .bool], fn := fun x => i_LeastSignals x.1 x.2 }
noncomputable def E16 : Env := { T := [(34, TGBook), (48, (.slice (.int .i64)))], G := [(26, C26)], ro := [2], loops := [], joins := [] }
theorem E16_eq : ∀ x, afun E16 Try.f16 C16.ps C16.rs x = C16.fn x := fun x => by kernel_rfl
theorem S16 : Sound Try.prog 16 C16 := fun_sound (E := E16) ⟨good_T (by kernel_rfl), (good_cons S26 ⟨_, Try.func26, by kernel_rfl, by kernel_rfl⟩ good_nil), mixedOk⟩ Try.func16 rfl E16_eq
/-- impl.IsPrice -/
noncomputable def i_IsPrice (p_p : GPrice) : Option (Bool) :=
  (i_within p_p.1 0 10000).bind fun r1 =>
  (bif r1 then
      (i_within p_p.2.1 0 100).bind fun r2 =>
      some r2
    else
      some false).bind fun c3 =>
  (bif c3 then
      (i_within p_p.2.2.1 0 1000).bind fun r4 =>
      some r4
    else
      some false).bind fun c5 =>
  (bif c5 then
      (i_within p_p.2.2.2.1 0 200).bind fun r6 =>
      some r6
    else
      some false).bind fun c7 =>
  some c7
noncomputable def C17 : FnSpec := { ps := [.val TGPrice], rs := [.val .bool], fn := fun x => i_IsPrice x }
noncomputable def E17 : Env := { T := [(3, (.int .i64)), (30, TGPrice)], G := [(27, C27)], ro := [1], loops := [], joins := [] }
theorem E17_eq : ∀ x, afun E17 Try.f17 C17.ps C17.rs x = C17.fn x := fun x => by kernel_rfl
theorem S17 : Sound Try.prog 17 C17 := fun_sound (E := E17) ⟨good_T (by kernel_rfl), (good_cons S27 ⟨_, Try.func27, by kernel_rfl, by kernel_rfl⟩ good_nil), mixedOk⟩ Try.func17 rfl E17_eq
/-- impl.isSent -/
noncomputable def i_isSent (p_x : GSent) : Option (Bool) :=
  (i_within p_x.1 1 72).bind fun r1 =>
  (bif r1 then
      (i_within p_x.2.1 1 16).bind fun r2 =>
      some r2
    else
      some false).bind fun c3 =>
  (bif c3 then
      (i_within p_x.2.2.2.1 0 10000).bind fun r4 =>
      some r4
    else
      some false).bind fun c5 =>
  some c5
noncomputable def C18 : FnSpec := { ps := [.val TGSent], rs := [.val .bool], fn := fun x => i_isSent x }
noncomputable def E18 : Env := { T := [(3, (.int .i64)), (41, TGSent)], G := [(27, C27)], ro := [1], loops := [], joins := [] }
theorem E18_eq : ∀ x, afun E18 Try.f18 C18.ps C18.rs x = C18.fn x := fun x => by kernel_rfl
theorem S18 : Sound Try.prog 18 C18 := fun_sound (E := E18) ⟨good_T (by kernel_rfl), (good_cons S27 ⟨_, Try.func27, by kernel_rfl, by kernel_rfl⟩ good_nil), mixedOk⟩ Try.func18 rfl E18_eq
/-- impl.priceOf -/
noncomputable def i_priceOf (p_p : GPrice) (p_x : GSent) : Option (Int) :=
  bif p_x.2.2.1 then
    some (w64 ((w64 ((w64 (p_p.1 + (w64 ((w64 (p_p.2.1 * p_x.1)) * p_x.2.1)))) + (w64 (p_p.2.2.1 * p_x.2.1)))) + (w64 (Int.tdiv (w64 ((w64 ((w64 (p_p.1 + (w64 ((w64 (p_p.2.1 * p_x.1)) * p_x.2.1)))) + (w64 (p_p.2.2.1 * p_x.2.1)))) * p_p.2.2.2.1)) 100))))
  else
    some (w64 ((w64 (p_p.1 + (w64 ((w64 (p_p.2.1 * p_x.1)) * p_x.2.1)))) + (w64 (p_p.2.2.1 * p_x.2.1))))
noncomputable def C19 : FnSpec := { ps := [.val TGPrice, .val TGSent], rs := [.val (.int .i64)], fn := fun x => i_priceOf x.1 x.2 }
noncomputable def E19 : Env := { T := [(3, (.int .i64)), (4, .bool), (30, TGPrice), (41, TGSent)], G := [], ro := [2, 3], loops := [], joins := [] }
theorem E19_eq : ∀ x, afun E19 Try.f19 C19.ps C19.rs x = C19.fn x := fun x => by kernel_rfl
theorem S19 : Sound Try.prog 19 C19 := fun_sound (E := E19) ⟨good_T (by kernel_rfl), good_nil, mixedOk⟩ Try.func19 rfl E19_eq
/-- impl.PriceOfLetters -/
noncomputable def i_PriceOfLetters (p_p : GPrice) (p_b : GBook) (p_s : Bytes) (p_towers : Int) : Option (Int × Bool) :=
  (i_LeastSignals p_b p_s).bind fun r1 =>
  (bif (!r1.2) then
      some true
    else
      (i_IsPrice p_p).bind fun r2 =>
      some (!r2)).bind fun c3 =>
  (bif c3 then
      some true
    else
      (i_isSent (r1.1, p_towers, false, 0, ())).bind fun r4 =>
      some (!r4)).bind fun c5 =>
  bif c5 then
    some (0, false)
  else
    (i_priceOf p_p (r1.1, p_towers, false, 0, ())).bind fun r6 =>
    some (r6, true)
noncomputable def C8 : FnSpec := { ps := [.val TGPrice, .val TGBook, .val .str, .val (.int .i64)], rs := [.val (.int .i64), .val .bool], fn := fun x => i_PriceOfLetters x.1 x.2.1 x.2.2.1 x.2.2.2 }
noncomputable def E8 : Env := { T := [(30, TGPrice), (34, TGBook), (41, TGSent)], G := [(16, C16), (17, C17), (18, C18), (19, C19)], ro := [4, 5], loops := [], joins := [] }
theorem E8_eq : ∀ x, afun E8 Try.f8 C8.ps C8.rs x = C8.fn x := fun x => by kernel_rfl
theorem S8 : Sound Try.prog 8 C8 := fun_sound (E := E8) ⟨good_T (by kernel_rfl), (good_cons S16 ⟨_, Try.func16, by kernel_rfl, by kernel_rfl⟩ (good_cons S17 ⟨_, Try.func17, by kernel_rfl, by kernel_rfl⟩ (good_cons S18 ⟨_, Try.func18, by kernel_rfl, by kernel_rfl⟩ (good_cons S19 ⟨_, Try.func19, by kernel_rfl, by kernel_rfl⟩ good_nil)))), mixedOk⟩ Try.func8 rfl E8_eq
/-- laws.eqIntS -/
noncomputable def l_eqIntS (p_a : List Int) (p_b : List Int) : Option (Bool) :=
  bif (!decide ((p_a.length : Int) = (p_b.length : Int))) then
    some false
  else
    (loopE (fun (st2 : Int) => (
        bif (decide (st2 < (p_a.length : Int))) then
          (idx p_a st2).bind fun e3 =>
          (idx p_b st2).bind fun e4 =>
          bif (!decide (e3 = e4)) then
            some (.inr (.inr false))
          else
            some (.inl (w64 (st2 + 1)))
        else
          some (.inr (.inl ())) : Option ((Int) ⊕ (Unit ⊕ Bool)))) 0).bind fun o5 =>
    match o5 with
    | .inl _ =>
      some true
    | .inr y7 =>
      some y7
noncomputable def C35 : FnSpec := { ps := [.val (.slice (.int .i64)), .val (.slice (.int .i64))], rs := [.val .bool], fn := fun x => l_eqIntS x.1 x.2 }
noncomputable def E35 : Env := { T := [(3, (.int .i64)), (48, (.slice (.int .i64)))], G := [], ro := [], loops := [(4, { keep := [0, 1], live := [.tv 5 (.int .i64)], outs := [(.exit 0, []), (.ret, [.tv 4 .bool])] })], joins := [] }
theorem E35_eq : ∀ x, afun E35 Try.f35 C35.ps C35.rs x = C35.fn x := fun x => by kernel_rfl
theorem S35 : Sound Try.prog 35 C35 := fun_sound (E := E35) ⟨good_T (by kernel_rfl), good_nil, mixedOk⟩ Try.func35 rfl E35_eq
/-- laws.eqPhrase -/
noncomputable def l_eqPhrase (p_a : GPhrase) (p_b : GPhrase) : Option (Bool) :=
  bif (!decide (p_a.1 = p_b.1)) then
    some false
  else
    (l_eqIntS p_a.2.1 p_b.2.1).bind fun r1 =>
    bif (!r1) then
      some false
    else
      some true
noncomputable def C28 : FnSpec := { ps := [.val TGPhrase, .val TGPhrase], rs := [.val .bool], fn := fun x => l_eqPhrase x.1 x.2 }
noncomputable def E28 : Env := { T := [(9, .str), (48, (.slice (.int .i64))), (54, TGPhrase)], G := [(35, C35)], ro := [2, 3], loops := [], joins := [] }
theorem E28_eq : ∀ x, afun E28 Try.f28 C28.ps C28.rs x = C28.fn x := fun x => by kernel_rfl
theorem S28 : Sound Try.prog 28 C28 := fun_sound (E := E28) ⟨good_T (by kernel_rfl), (good_cons S35 ⟨_, Try.func35, by kernel_rfl, by kernel_rfl⟩ good_nil), mixedOk⟩ Try.func28 rfl E28_eq
/-- laws.eqPhraseS -/
noncomputable def l_eqPhraseS (p_a : List GPhrase) (p_b : List GPhrase) : Option (Bool) :=
  bif (!decide ((p_a.length : Int) = (p_b.length : Int))) then
    some false
  else
    (loopE (fun (st2 : Int) => (
        bif (decide (st2 < (p_a.length : Int))) then
          (idx p_a st2).bind fun e3 =>
          (idx p_b st2).bind fun e4 =>
          (l_eqPhrase e3 e4).bind fun r5 =>
          bif (!r5) then
            some (.inr (.inr false))
          else
            some (.inl (w64 (st2 + 1)))
        else
          some (.inr (.inl ())) : Option ((Int) ⊕ (Unit ⊕ Bool)))) 0).bind fun o6 =>
    match o6 with
    | .inl _ =>
      some true
    | .inr y8 =>
      some y8
noncomputable def C20 : FnSpec := { ps := [.val (.slice TGPhrase), .val (.slice TGPhrase)], rs := [.val .bool], fn := fun x => l_eqPhraseS x.1 x.2 }
noncomputable def E20 : Env := { T := [(32, (.slice TGPhrase)), (54, TGPhrase)], G := [(28, C28)], ro := [], loops := [(4, { keep := [0, 1], live := [.tv 5 (.int .i64)], outs := [(.exit 0, []), (.ret, [.tv 4 .bool])] })], joins := [] }
theorem E20_eq : ∀ x, afun E20 Try.f20 C20.ps C20.rs x = C20.fn x := fun x => by kernel_rfl
theorem S20 : Sound Try.prog 20 C20 := fun_sound (E := E20) ⟨good_T (by kernel_rfl), (good_cons S28 ⟨_, Try.func28, by kernel_rfl, by kernel_rfl⟩ good_nil), mixedOk⟩ Try.func20 rfl E20_eq
/-- laws.eqBook -/
noncomputable def l_eqBook (p_a : GBook) (p_b : GBook) : Option (Bool) :=
  (l_eqPhraseS p_a.1 p_b.1).bind fun r1 =>
  bif (!r1) then
    some false
  else
    some true
noncomputable def C9 : FnSpec := { ps := [.val TGBook, .val TGBook], rs := [.val .bool], fn := fun x => l_eqBook x.1 x.2 }
noncomputable def E9 : Env := { T := [(32, (.slice TGPhrase)), (34, TGBook)], G := [(20, C20)], ro := [2, 3], loops := [], joins := [] }
theorem E9_eq : ∀ x, afun E9 Try.f9 C9.ps C9.rs x = C9.fn x := fun x => by kernel_rfl
theorem S9 : Sound Try.prog 9 C9 := fun_sound (E := E9) ⟨good_T (by kernel_rfl), (good_cons S20 ⟨_, Try.func20, by kernel_rfl, by kernel_rfl⟩ good_nil), mixedOk⟩ Try.func9 rfl E9_eq
/-- laws.FnExactPriceOfLetters -/
noncomputable def l_FnExactPriceOfLetters (p_aP : GPrice) (p_aB : GBook) (p_aS : Bytes) (p_aTowers : Int) : Option (Bool) :=
  bif (decide (1048576 < (p_aS.length : Int))) then
    some true
  else
    (l_szBook p_aB 1048576).bind fun r1 =>
    bif (decide (r1 < 0)) then
      some true
    else
      (l_toPrice p_aP).bind fun r2 =>
      (l_toBook p_aB).bind fun r3 =>
      (s_PriceOfLetters r2 r3 p_aS p_aTowers).bind fun r4 =>
      (l_toBook p_aB).bind fun r5 =>
      (l_toPrice p_aP).bind fun r6 =>
      (i_PriceOfLetters r6 r5 p_aS p_aTowers).bind fun r7 =>
      (bif (!decide (r7.1 = r4.1)) then
          some true
        else
          some (r7.2 != r4.2)).bind fun c8 =>
      bif c8 then
        some false
      else
        (l_toBook p_aB).bind fun r9 =>
        (l_eqBook r5 r9).bind fun r10 =>
        bif (!r10) then
          some false
        else
          some true
noncomputable def C3 : FnSpec := { ps := [.val TGPrice, .val TGBook, .val .str, .val (.int .i64)], rs := [.val .bool], fn := fun x => l_FnExactPriceOfLetters x.1 x.2.1 x.2.2.1 x.2.2.2 }
noncomputable def E3 : Env := { T := [(4, .bool), (9, .str), (23, TGPrice), (26, TGBook), (34, TGBook)], G := [(4, C4), (5, C5), (6, C6), (7, C7), (8, C8), (9, C9)], ro := [4, 5], loops := [], joins := [] }
theorem E3_eq : ∀ x, afun E3 Try.f3 C3.ps C3.rs x = C3.fn x := fun x => by kernel_rfl
theorem S3 : Sound Try.prog 3 C3 := fun_sound (E := E3) ⟨good_T (by kernel_rfl), (good_cons S4 ⟨_, Try.func4, by kernel_rfl, by kernel_rfl⟩ (good_cons S5 ⟨_, Try.func5, by kernel_rfl, by kernel_rfl⟩ (good_cons S6 ⟨_, Try.func6, by kernel_rfl, by kernel_rfl⟩ (good_cons S7 ⟨_, Try.func7, by kernel_rfl, by kernel_rfl⟩ (good_cons S8 ⟨_, Try.func8, by kernel_rfl, by kernel_rfl⟩ (good_cons S9 ⟨_, Try.func9, by kernel_rfl, by kernel_rfl⟩ good_nil)))))), mixedOk⟩ Try.func3 rfl E3_eq
end Go.Proofs.Ytmiadogpbadniaa.Sh
