/-
  The functions that the statement reaches, as plain functions; each with its contract.
-/
import Derived.Test.YtbbcmknpbpfkaaaXLift
import Derived.Test.YtbbcmknpbpfkaaaChecked
import Derived.KernelRfl
namespace Go.Proofs.Ytbbcmknpbpfkaaa.Sh
open Go Go.Ab Go.Proofs
set_option maxRecDepth 100000
abbrev TGerrorAddressString : Ty := .pair .str (.pair (.int .u64) .unit)
abbrev GerrorAddressString : Type := Bytes × Int × Unit
abbrev TGPhrase : Ty := .pair .str (.pair (.slice (.int .i64)) .unit)
abbrev GPhrase : Type := Bytes × (List Int) × Unit
abbrev TGl1Cur : Ty := .pair (.slice (.int .u8)) (.pair (.int .i64) (.pair (.int .u64) .unit))
abbrev Gl1Cur : Type := (List Int) × Int × Int × Unit
abbrev TGboundsError : Ty := .pair (.int .i64) (.pair (.int .i64) (.pair .bool (.pair (.int .u8) .unit)))
abbrev GboundsError : Type := Int × Int × Bool × Int × Unit
abbrev TGBook : Ty := .pair (.slice TGPhrase) .unit
abbrev GBook : Type := (List GPhrase) × Unit
theorem mixedOk : Try.prog.follows .mixedOrders = true := by kernel_rfl
/-- laws.szIntS -/
noncomputable def l_szIntS (p_a : List Int) (p_left : Int) : Option (Int) :=
  bif (decide ((w64 (p_left - (p_a.length : Int))) < 0)) then
    some (-1)
  else
    some (w64 (p_left - (p_a.length : Int)))
noncomputable def C138 : FnSpec := { ps := [.val (.slice (.int .i64)), .val (.int .i64)], rs := [.val (.int .i64)], fn := fun x => l_szIntS x.1 x.2 }
noncomputable def E138 : Env := { T := [(25, (.slice (.int .i64)))], G := [], ro := [], loops := [], joins := [] }
theorem E138_eq : ∀ x, afun E138 Try.f138 C138.ps C138.rs x = C138.fn x := fun x => by kernel_rfl
theorem S138 : Sound Try.prog 138 C138 := fun_sound (E := E138) ⟨good_T (by kernel_rfl), good_nil, mixedOk⟩ Try.func138 rfl E138_eq
/-- laws.szPhrase -/
noncomputable def l_szPhrase (p_a : GPhrase) (p_left : Int) : Option (Int) :=
  bif (decide ((w64 (p_left - (p_a.1.length : Int))) < 0)) then
    some (-1)
  else
    (l_szIntS p_a.2.1 (w64 (p_left - (p_a.1.length : Int)))).bind fun r1 =>
    bif (decide (r1 < 0)) then
      some (-1)
    else
      some r1
noncomputable def C108 : FnSpec := { ps := [.val TGPhrase, .val (.int .i64)], rs := [.val (.int .i64)], fn := fun x => l_szPhrase x.1 x.2 }
noncomputable def E108 : Env := { T := [(9, .str), (25, (.slice (.int .i64))), (108, TGPhrase)], G := [(138, C138)], ro := [2], loops := [], joins := [] }
theorem E108_eq : ∀ x, afun E108 Try.f108 C108.ps C108.rs x = C108.fn x := fun x => by kernel_rfl
theorem S108 : Sound Try.prog 108 C108 := fun_sound (E := E108) ⟨good_T (by kernel_rfl), (good_cons S138 ⟨_, Try.func138, by kernel_rfl, by kernel_rfl⟩ good_nil), mixedOk⟩ Try.func108 rfl E108_eq
/-- laws.szPhraseS -/
noncomputable def l_szPhraseS (p_a : List GPhrase) (p_left : Int) : Option (Int) :=
  bif (decide ((w64 (p_left - (p_a.length : Int))) < 0)) then
    some (-1)
  else
    (loopE (fun (st2 : Int × Int) => (
        bif (decide (st2.2 < (p_a.length : Int))) then
          (idx p_a st2.2).bind fun e3 =>
          (l_szPhrase e3 st2.1).bind fun r4 =>
          bif (decide (r4 < 0)) then
            some (.inr (.inr (-1)))
          else
            some (.inl (r4, (w64 (st2.2 + 1))))
        else
          some (.inr (.inl st2.1)) : Option ((Int × Int) ⊕ (Int ⊕ Int)))) ((w64 (p_left - (p_a.length : Int))), 0)).bind fun o5 =>
    match o5 with
    | .inl x6 =>
      some x6
    | .inr y7 =>
      some y7
noncomputable def C61 : FnSpec := { ps := [.val (.slice TGPhrase), .val (.int .i64)], rs := [.val (.int .i64)], fn := fun x => l_szPhraseS x.1 x.2 }
noncomputable def E61 : Env := { T := [(22, (.slice TGPhrase)), (108, TGPhrase)], G := [(108, C108)], ro := [], loops := [(5, { keep := [0], live := [.tv 1 (.int .i64), .tv 5 (.int .i64)], outs := [(.exit 0, [.tv 1 (.int .i64)]), (.ret, [.tv 4 (.int .i64)])] })], joins := [] }
theorem E61_eq : ∀ x, afun E61 Try.f61 C61.ps C61.rs x = C61.fn x := fun x => by kernel_rfl
theorem S61 : Sound Try.prog 61 C61 := fun_sound (E := E61) ⟨good_T (by kernel_rfl), (good_cons S108 ⟨_, Try.func108, by kernel_rfl, by kernel_rfl⟩ good_nil), mixedOk⟩ Try.func61 rfl E61_eq
/-- laws.szBook -/
noncomputable def l_szBook (p_a : GBook) (p_left : Int) : Option (Int) :=
  (l_szPhraseS p_a.1 p_left).bind fun r1 =>
  bif (decide (r1 < 0)) then
    some (-1)
  else
    some r1
noncomputable def C15 : FnSpec := { ps := [.val TGBook, .val (.int .i64)], rs := [.val (.int .i64)], fn := fun x => l_szBook x.1 x.2 }
noncomputable def E15 : Env := { T := [(22, (.slice TGPhrase)), (24, TGBook)], G := [(61, C61)], ro := [2], loops := [], joins := [] }
theorem E15_eq : ∀ x, afun E15 Try.f15 C15.ps C15.rs x = C15.fn x := fun x => by kernel_rfl
theorem S15 : Sound Try.prog 15 C15 := fun_sound (E := E15) ⟨good_T (by kernel_rfl), (good_cons S61 ⟨_, Try.func61, by kernel_rfl, by kernel_rfl⟩ good_nil), mixedOk⟩ Try.func15 rfl E15_eq
/-- spec.l1In -/
noncomputable def s_l1In (p_n : Int) (p_lo : Int) (p_hi : Int) : Option (Bool) :=
  (bif (decide (p_lo ≤ p_n)) then
      some (decide (p_n ≤ p_hi))
    else
      some false).bind fun c1 =>
  some c1
noncomputable def C99 : FnSpec := { ps := [.val (.int .i64), .val (.int .i64), .val (.int .i64)], rs := [.val .bool], fn := fun x => s_l1In x.1 x.2.1 x.2.2 }
noncomputable def E99 : Env := { T := [], G := [], ro := [], loops := [], joins := [] }
theorem E99_eq : ∀ x, afun E99 Try.f99 C99.ps C99.rs x = C99.fn x := fun x => by kernel_rfl
theorem S99 : Sound Try.prog 99 C99 := fun_sound (E := E99) ⟨good_T (by kernel_rfl), good_nil, mixedOk⟩ Try.func99 rfl E99_eq
/-- spec.bkLetters -/
noncomputable def s_bkLetters (p_s : Bytes) : Option (Bool) :=
  (loopE (fun (st2 : Int) => (
      bif (decide (st2 < (p_s.length : Int))) then
        (idx p_s st2).bind fun b3 =>
        (bif (decide ((b3.toNat : Int) < 97)) then
            some true
          else
            (idx p_s st2).bind fun b4 =>
            some (decide (122 < (b4.toNat : Int)))).bind fun c5 =>
        bif c5 then
          some (.inr (.inr false))
        else
          some (.inl (w64 (st2 + 1)))
      else
        some (.inr (.inl ())) : Option ((Int) ⊕ (Unit ⊕ Bool)))) 0).bind fun o6 =>
  match o6 with
  | .inl _ =>
    some (decide ((p_s.length : Int) ≤ 12))
  | .inr y8 =>
    some y8
noncomputable def C139 : FnSpec := { ps := [.val .str], rs := [.val .bool], fn := fun x => s_bkLetters x }
noncomputable def E139 : Env := { T := [(9, .str)], G := [], ro := [], loops := [(2, { keep := [0], live := [.tv 3 (.int .i64)], outs := [(.exit 0, []), (.ret, [.tv 2 .bool])] })], joins := [] }
theorem E139_eq : ∀ x, afun E139 Try.f139 C139.ps C139.rs x = C139.fn x := fun x => by kernel_rfl
theorem S139 : Sound Try.prog 139 C139 := fun_sound (E := E139) ⟨good_T (by kernel_rfl), good_nil, mixedOk⟩ Try.func139 rfl E139_eq
/-- spec.bkPhraseText -/
noncomputable def s_bkPhraseText (p_s : Bytes) : Option (Bool) :=
  (s_bkLetters p_s).bind fun r1 =>
  (bif r1 then
      some (!decide (p_s = []))
    else
      some false).bind fun c2 =>
  some c2
noncomputable def C113 : FnSpec := { ps := [.val .str], rs := [.val .bool], fn := fun x => s_bkPhraseText x }
noncomputable def E113 : Env := { T := [], G := [(139, C139)], ro := [], loops := [], joins := [] }
theorem E113_eq : ∀ x, afun E113 Try.f113 C113.ps C113.rs x = C113.fn x := fun x => by kernel_rfl
theorem S113 : Sound Try.prog 113 C113 := fun_sound (E := E113) ⟨good_T (by kernel_rfl), (good_cons S139 ⟨_, Try.func139, by kernel_rfl, by kernel_rfl⟩ good_nil), mixedOk⟩ Try.func113 rfl E113_eq
/-- spec.l1All -/
noncomputable def s_l1All (p_l : List Int) (p_lo : Int) (p_hi : Int) : Option (Bool) :=
  (loopE (fun (st2 : Int) => (
      bif (decide (st2 < (p_l.length : Int))) then
        (idx p_l st2).bind fun e3 =>
        (s_l1In e3 p_lo p_hi).bind fun r4 =>
        bif (!r4) then
          some (.inr (.inr false))
        else
          some (.inl (w64 (st2 + 1)))
      else
        some (.inr (.inl ())) : Option ((Int) ⊕ (Unit ⊕ Bool)))) 0).bind fun o5 =>
  match o5 with
  | .inl _ =>
    some true
  | .inr y7 =>
    some y7
noncomputable def C109 : FnSpec := { ps := [.val (.slice (.int .i64)), .val (.int .i64), .val (.int .i64)], rs := [.val .bool], fn := fun x => s_l1All x.1 x.2.1 x.2.2 }
noncomputable def E109 : Env := { T := [(3, (.int .i64)), (25, (.slice (.int .i64)))], G := [(99, C99)], ro := [], loops := [(2, { keep := [1, 2, 9, 10], live := [.tv 11 (.int .i64)], outs := [(.exit 0, []), (.ret, [.tv 6 .bool])] })], joins := [] }
theorem E109_eq : ∀ x, afun E109 Try.f109 C109.ps C109.rs x = C109.fn x := fun x => by kernel_rfl
theorem S109 : Sound Try.prog 109 C109 := fun_sound (E := E109) ⟨good_T (by kernel_rfl), (good_cons S99 ⟨_, Try.func99, by kernel_rfl, by kernel_rfl⟩ good_nil), mixedOk⟩ Try.func109 rfl E109_eq
/-- spec.bkSignals -/
noncomputable def s_bkSignals (p_l : List Int) : Option (Bool) :=
  (s_l1In (p_l.length : Int) 1 3).bind fun r1 =>
  (bif r1 then
      (s_l1All p_l 1 60).bind fun r2 =>
      some r2
    else
      some false).bind fun c3 =>
  some c3
noncomputable def C114 : FnSpec := { ps := [.val (.slice (.int .i64))], rs := [.val .bool], fn := fun x => s_bkSignals x }
noncomputable def E114 : Env := { T := [(25, (.slice (.int .i64)))], G := [(99, C99), (109, C109)], ro := [], loops := [], joins := [] }
theorem E114_eq : ∀ x, afun E114 Try.f114 C114.ps C114.rs x = C114.fn x := fun x => by kernel_rfl
theorem S114 : Sound Try.prog 114 C114 := fun_sound (E := E114) ⟨good_T (by kernel_rfl), (good_cons S99 ⟨_, Try.func99, by kernel_rfl, by kernel_rfl⟩ (good_cons S109 ⟨_, Try.func109, by kernel_rfl, by kernel_rfl⟩ good_nil)), mixedOk⟩ Try.func114 rfl E114_eq
/-- spec.l1Same -/
noncomputable def s_l1Same (p_a : List Int) (p_b : List Int) : Option (Bool) :=
  bif (!decide ((p_a.length : Int) = (p_b.length : Int))) then
    some false
  else
    (loopE (fun (st2 : Int) => (
        bif (decide (st2 < (p_a.length : Int))) then
          (idx p_a st2).bind fun e3 =>
          (idx p_b st2).bind fun e4 =>
          bif (!decide (e3 = e4)) then
            some (.inr (.inr false))
          else
            some (.inl (w64 (st2 + 1)))
        else
          some (.inr (.inl ())) : Option ((Int) ⊕ (Unit ⊕ Bool)))) 0).bind fun o5 =>
    match o5 with
    | .inl _ =>
      some true
    | .inr y7 =>
      some y7
noncomputable def C140 : FnSpec := { ps := [.val (.slice (.int .i64)), .val (.slice (.int .i64))], rs := [.val .bool], fn := fun x => s_l1Same x.1 x.2 }
noncomputable def E140 : Env := { T := [(3, (.int .i64)), (25, (.slice (.int .i64)))], G := [], ro := [], loops := [(4, { keep := [0, 1, 12], live := [.tv 13 (.int .i64)], outs := [(.exit 0, []), (.ret, [.tv 4 .bool])] })], joins := [] }
theorem E140_eq : ∀ x, afun E140 Try.f140 C140.ps C140.rs x = C140.fn x := fun x => by kernel_rfl
theorem S140 : Sound Try.prog 140 C140 := fun_sound (E := E140) ⟨good_T (by kernel_rfl), good_nil, mixedOk⟩ Try.func140 rfl E140_eq
/-- spec.bkOf -/
noncomputable def s_bkOf (p_b : GBook) (p_l : List Int) : Option (Int) :=
  (loopE (fun (st2 : Int) => (
      bif (decide (st2 < (p_b.1.length : Int))) then
        (idx p_b.1 st2).bind fun e3 =>
        (s_l1Same e3.2.1 p_l).bind fun r4 =>
        bif r4 then
          some (.inr (.inr st2))
        else
          some (.inl (w64 (st2 + 1)))
      else
        some (.inr (.inl ())) : Option ((Int) ⊕ (Unit ⊕ Int)))) 0).bind fun o5 =>
  match o5 with
  | .inl _ =>
    some (-1)
  | .inr y7 =>
    some y7
noncomputable def C115 : FnSpec := { ps := [.val TGBook, .val (.slice (.int .i64))], rs := [.val (.int .i64)], fn := fun x => s_bkOf x.1 x.2 }
noncomputable def E115 : Env := { T := [(25, (.slice (.int .i64))), (29, (.slice TGPhrase)), (31, TGBook), (66, TGPhrase)], G := [(140, C140)], ro := [2], loops := [(2, { keep := [1, 8, 9], live := [.tv 10 (.int .i64)], outs := [(.exit 0, []), (.ret, [.tv 4 (.int .i64)])] })], joins := [] }
theorem E115_eq : ∀ x, afun E115 Try.f115 C115.ps C115.rs x = C115.fn x := fun x => by kernel_rfl
theorem S115 : Sound Try.prog 115 C115 := fun_sound (E := E115) ⟨good_T (by kernel_rfl), (good_cons S140 ⟨_, Try.func140, by kernel_rfl, by kernel_rfl⟩ good_nil), mixedOk⟩ Try.func115 rfl E115_eq
/-- spec.bkGood -/
noncomputable def s_bkGood (p_b : GBook) : Option (Bool) :=
  (loopE (fun (st2 : Int) => (
      bif (decide (st2 < (p_b.1.length : Int))) then
        (idx p_b.1 st2).bind fun e3 =>
        (s_bkPhraseText e3.1).bind fun r4 =>
        (bif (!r4) then
            some true
          else
            (s_bkSignals e3.2.1).bind fun r5 =>
            some (!r5)).bind fun c6 =>
        (bif c6 then
            some true
          else
            (bif (decide (0 < st2)) then
                (idx p_b.1 (w64 (st2 - 1))).bind fun e7 =>
                some (!Op.bytesLess e7.1 e3.1)
              else
                some false).bind fun c8 =>
            some c8).bind fun c9 =>
        (bif c9 then
            some true
          else
            (s_bkOf p_b e3.2.1).bind fun r10 =>
            some (!decide (r10 = st2))).bind fun c11 =>
        bif c11 then
          some (.inr (.inr false))
        else
          some (.inl (w64 (st2 + 1)))
      else
        some (.inr (.inl ())) : Option ((Int) ⊕ (Unit ⊕ Bool)))) 0).bind fun o12 =>
  match o12 with
  | .inl _ =>
    (s_l1In (p_b.1.length : Int) 1 40).bind fun r15 =>
    some r15
  | .inr y14 =>
    some y14
noncomputable def C66 : FnSpec := { ps := [.val TGBook], rs := [.val .bool], fn := fun x => s_bkGood x }
noncomputable def E66 : Env := { T := [(9, .str), (25, (.slice (.int .i64))), (29, (.slice TGPhrase)), (31, TGBook), (66, TGPhrase)], G := [(99, C99), (113, C113), (114, C114), (115, C115)], ro := [1], loops := [(2, { keep := [1, 6, 7], live := [.tv 8 (.int .i64)], outs := [(.exit 0, []), (.ret, [.tv 2 .bool])] })], joins := [] }
theorem E66_eq : ∀ x, afun E66 Try.f66 C66.ps C66.rs x = C66.fn x := fun x => by kernel_rfl
theorem S66 : Sound Try.prog 66 C66 := fun_sound (E := E66) ⟨good_T (by kernel_rfl), (good_cons S99 ⟨_, Try.func99, by kernel_rfl, by kernel_rfl⟩ (good_cons S113 ⟨_, Try.func113, by kernel_rfl, by kernel_rfl⟩ (good_cons S114 ⟨_, Try.func114, by kernel_rfl, by kernel_rfl⟩ (good_cons S115 ⟨_, Try.func115, by kernel_rfl, by kernel_rfl⟩ good_nil)))), mixedOk⟩ Try.func66 rfl E66_eq
/-- spec.msAsked -/
noncomputable def s_msAsked (p_b : GBook) (p_weights : List Int) : Option (Bool) :=
  (s_bkGood p_b).bind fun r1 =>
  (bif r1 then
      some (decide ((p_weights.length : Int) = (p_b.1.length : Int)))
    else
      some false).bind fun c2 =>
  (bif c2 then
      (s_l1All p_weights 0 10000).bind fun r3 =>
      some r3
    else
      some false).bind fun c4 =>
  some c4
noncomputable def C62 : FnSpec := { ps := [.val TGBook, .val (.slice (.int .i64))], rs := [.val .bool], fn := fun x => s_msAsked x.1 x.2 }
noncomputable def E62 : Env := { T := [(25, (.slice (.int .i64))), (29, (.slice TGPhrase)), (31, TGBook)], G := [(66, C66), (109, C109)], ro := [2], loops := [], joins := [] }
theorem E62_eq : ∀ x, afun E62 Try.f62 C62.ps C62.rs x = C62.fn x := fun x => by kernel_rfl
theorem S62 : Sound Try.prog 62 C62 := fun_sound (E := E62) ⟨good_T (by kernel_rfl), (good_cons S66 ⟨_, Try.func66, by kernel_rfl, by kernel_rfl⟩ (good_cons S109 ⟨_, Try.func109, by kernel_rfl, by kernel_rfl⟩ good_nil)), mixedOk⟩ Try.func62 rfl E62_eq
/-- spec.BookCost -/
noncomputable def s_BookCost (p_b : GBook) (p_weights : List Int) : Option (Int × Bool) :=
  (s_msAsked p_b p_weights).bind fun r1 =>
  bif (!r1) then
    some (0, false)
  else
    (loopE (fun (st3 : Int × Int) => (
        bif (decide (st3.2 < (p_b.1.length : Int))) then
          (idx p_b.1 st3.2).bind fun e4 =>
          (idx p_weights st3.2).bind fun e5 =>
          some (.inl ((w64 (st3.1 + (w64 (e5 * (e4.2.1.length : Int))))), (w64 (st3.2 + 1))))
        else
          some (.inr st3.1) : Option ((Int × Int) ⊕ (Int)))) (0, 0)).bind fun o6 =>
    some (o6, true)
noncomputable def C16 : FnSpec := { ps := [.val TGBook, .val (.slice (.int .i64))], rs := [.val (.int .i64), .val .bool], fn := fun x => s_BookCost x.1 x.2 }
noncomputable def E16 : Env := { T := [(3, (.int .i64)), (25, (.slice (.int .i64))), (29, (.slice TGPhrase)), (31, TGBook), (66, TGPhrase)], G := [(62, C62)], ro := [2], loops := [(5, { keep := [1, 14, 15], live := [.tv 6 (.int .i64), .tv 16 (.int .i64)], outs := [(.exit 0, [.tv 6 (.int .i64)])] })], joins := [] }
theorem E16_eq : ∀ x, afun E16 Try.f16 C16.ps C16.rs x = C16.fn x := fun x => by kernel_rfl
theorem S16 : Sound Try.prog 16 C16 := fun_sound (E := E16) ⟨good_T (by kernel_rfl), (good_cons S62 ⟨_, Try.func62, by kernel_rfl, by kernel_rfl⟩ good_nil), mixedOk⟩ Try.func16 rfl E16_eq
/-- laws.toIntS -/
noncomputable def l_toIntS (p_a : List Int) : Option ((List Int)) :=
  bif decide (0 ≤ (p_a.length : Int)) && decide ((p_a.length : Int) ≤ (p_a.length : Int)) && decide ((p_a.length : Int) ≤ lim) then
    (loopE (fun (st2 : (List Int) × Int) => (
        bif (decide (st2.2 < (p_a.length : Int))) then
          (idx p_a st2.2).bind fun e3 =>
          bif decide (0 ≤ st2.2) && decide (st2.2 < (st2.1.length : Int)) then
            some (.inl ((st2.1.set (Int.toNat st2.2) e3), (w64 (st2.2 + 1))))
          else
            none
        else
          some (.inr st2.1) : Option (((List Int) × Int) ⊕ ((List Int))))) ((List.replicate (Int.toNat (p_a.length : Int)) (0 : Int)), 0)).bind fun o4 =>
    some o4
  else
    none
noncomputable def C18 : FnSpec := { ps := [.val (.slice (.int .i64))], rs := [.own (.slice (.int .i64))], fn := fun x => l_toIntS x }
noncomputable def E18 : Env := { T := [(3, (.int .i64)), (25, (.slice (.int .i64)))], G := [], ro := [], loops := [(3, { keep := [0], live := [.own 3 [] 112 (.int .i64) true, .tv 4 (.int .i64)], outs := [(.exit 0, [.own 3 [] 112 (.int .i64) true])] })], joins := [] }
theorem E18_eq : ∀ x, afun E18 Try.f18 C18.ps C18.rs x = C18.fn x := fun x => by kernel_rfl
theorem S18 : Sound Try.prog 18 C18 := fun_sound (E := E18) ⟨good_T (by kernel_rfl), good_nil, mixedOk⟩ Try.func18 rfl E18_eq
/-- laws.toPhrase -/
noncomputable def l_toPhrase (p_a : GPhrase) : Option (GPhrase) :=
  (l_toIntS p_a.2.1).bind fun r1 =>
  some (p_a.1, r1, ())
noncomputable def C110 : FnSpec := { ps := [.val TGPhrase], rs := [.own TGPhrase], fn := fun x => l_toPhrase x }
noncomputable def E110 : Env := { T := [(9, .str), (25, (.slice (.int .i64))), (66, TGPhrase), (108, TGPhrase)], G := [(18, C18)], ro := [1], loops := [], joins := [] }
theorem E110_eq : ∀ x, afun E110 Try.f110 C110.ps C110.rs x = C110.fn x := fun x => by kernel_rfl
theorem S110 : Sound Try.prog 110 C110 := fun_sound (E := E110) ⟨good_T (by kernel_rfl), (good_cons S18 ⟨_, Try.func18, by kernel_rfl, by kernel_rfl⟩ good_nil), mixedOk⟩ Try.func110 rfl E110_eq
/-- laws.toPhraseS -/
noncomputable def l_toPhraseS (p_a : List GPhrase) : Option ((List GPhrase)) :=
  bif decide (0 ≤ (p_a.length : Int)) && decide ((p_a.length : Int) ≤ (p_a.length : Int)) && decide ((p_a.length : Int) ≤ lim) then
    (loopE (fun (st2 : (List GPhrase) × Int) => (
        bif (decide (st2.2 < (p_a.length : Int))) then
          (idx p_a st2.2).bind fun e3 =>
          (l_toPhrase e3).bind fun r4 =>
          bif decide (0 ≤ st2.2) && decide (st2.2 < (st2.1.length : Int)) then
            some (.inl ((st2.1.set (Int.toNat st2.2) r4), (w64 (st2.2 + 1))))
          else
            none
        else
          some (.inr st2.1) : Option (((List GPhrase) × Int) ⊕ ((List GPhrase))))) ((List.replicate (Int.toNat (p_a.length : Int)) (([], ([], ())) : GPhrase)), 0)).bind fun o5 =>
    some o5
  else
    none
noncomputable def C63 : FnSpec := { ps := [.val (.slice TGPhrase)], rs := [.own (.slice TGPhrase)], fn := fun x => l_toPhraseS x }
noncomputable def E63 : Env := { T := [(22, (.slice TGPhrase)), (29, (.slice TGPhrase)), (66, TGPhrase), (108, TGPhrase)], G := [(110, C110)], ro := [], loops := [(3, { keep := [0], live := [.own 3 [] 112 TGPhrase true, .tv 4 (.int .i64)], outs := [(.exit 0, [.own 3 [] 112 TGPhrase true])] })], joins := [], mv := true }
theorem E63_eq : ∀ x, afun E63 Try.f63 C63.ps C63.rs x = C63.fn x := fun x => by kernel_rfl
theorem S63 : Sound Try.prog 63 C63 := fun_sound (E := E63) ⟨good_T (by kernel_rfl), (good_cons S110 ⟨_, Try.func110, by kernel_rfl, by kernel_rfl⟩ good_nil), mixedOk⟩ Try.func63 rfl E63_eq
/-- laws.toBook -/
noncomputable def l_toBook (p_a : GBook) : Option (GBook) :=
  (l_toPhraseS p_a.1).bind fun r1 =>
  some (r1, ())
noncomputable def C17 : FnSpec := { ps := [.val TGBook], rs := [.own TGBook], fn := fun x => l_toBook x }
noncomputable def E17 : Env := { T := [(22, (.slice TGPhrase)), (24, TGBook), (29, (.slice TGPhrase)), (31, TGBook)], G := [(63, C63)], ro := [1], loops := [], joins := [] }
theorem E17_eq : ∀ x, afun E17 Try.f17 C17.ps C17.rs x = C17.fn x := fun x => by kernel_rfl
theorem S17 : Sound Try.prog 17 C17 := fun_sound (E := E17) ⟨good_T (by kernel_rfl), (good_cons S63 ⟨_, Try.func63, by kernel_rfl, by kernel_rfl⟩ good_nil), mixedOk⟩ Try.func17 rfl E17_eq
/-- impl.within -/
noncomputable def i_within (p_n : Int) (p_low : Int) (p_high : Int) : Option (Bool) :=
  (bif (decide (p_low ≤ p_n)) then
      some (decide (p_n ≤ p_high))
    else
      some false).bind fun c1 =>
  some c1
noncomputable def C97 : FnSpec := { ps := [.val (.int .i64), .val (.int .i64), .val (.int .i64)], rs := [.val .bool], fn := fun x => i_within x.1 x.2.1 x.2.2 }
noncomputable def E97 : Env := { T := [], G := [], ro := [], loops := [], joins := [] }
theorem E97_eq : ∀ x, afun E97 Try.f97 C97.ps C97.rs x = C97.fn x := fun x => by kernel_rfl
theorem S97 : Sound Try.prog 97 C97 := fun_sound (E := E97) ⟨good_T (by kernel_rfl), good_nil, mixedOk⟩ Try.func97 rfl E97_eq
/-- impl.allWithin -/
noncomputable def i_allWithin (p_l : List Int) (p_low : Int) (p_high : Int) : Option (Bool) :=
  (loopE (fun (st2 : Int) => (
      bif (decide (st2 < (p_l.length : Int))) then
        (idx p_l st2).bind fun e3 =>
        (i_within e3 p_low p_high).bind fun r4 =>
        bif (!r4) then
          some (.inr (.inr false))
        else
          some (.inl (w64 (st2 + 1)))
      else
        some (.inr (.inl ())) : Option ((Int) ⊕ (Unit ⊕ Bool)))) 0).bind fun o5 =>
  match o5 with
  | .inl _ =>
    some true
  | .inr y7 =>
    some y7
noncomputable def C111 : FnSpec := { ps := [.val (.slice (.int .i64)), .val (.int .i64), .val (.int .i64)], rs := [.val .bool], fn := fun x => i_allWithin x.1 x.2.1 x.2.2 }
noncomputable def E111 : Env := { T := [(3, (.int .i64)), (25, (.slice (.int .i64)))], G := [(97, C97)], ro := [], loops := [(2, { keep := [1, 2, 9, 10], live := [.tv 11 (.int .i64)], outs := [(.exit 0, []), (.ret, [.tv 6 .bool])] })], joins := [] }
theorem E111_eq : ∀ x, afun E111 Try.f111 C111.ps C111.rs x = C111.fn x := fun x => by kernel_rfl
theorem S111 : Sound Try.prog 111 C111 := fun_sound (E := E111) ⟨good_T (by kernel_rfl), (good_cons S97 ⟨_, Try.func97, by kernel_rfl, by kernel_rfl⟩ good_nil), mixedOk⟩ Try.func111 rfl E111_eq
/-- impl.isSmall -/
noncomputable def i_isSmall (p_s : Bytes) : Option (Bool) :=
  (loopE (fun (st2 : Int) => (
      bif (decide (st2 < (p_s.length : Int))) then
        (idx p_s st2).bind fun b3 =>
        (bif (decide ((b3.toNat : Int) < 97)) then
            some true
          else
            (idx p_s st2).bind fun b4 =>
            some (decide (122 < (b4.toNat : Int)))).bind fun c5 =>
        bif c5 then
          some (.inr (.inr false))
        else
          some (.inl (w64 (st2 + 1)))
      else
        some (.inr (.inl ())) : Option ((Int) ⊕ (Unit ⊕ Bool)))) 0).bind fun o6 =>
  match o6 with
  | .inl _ =>
    some true
  | .inr y8 =>
    some y8
noncomputable def C122 : FnSpec := { ps := [.val .str], rs := [.val .bool], fn := fun x => i_isSmall x }
noncomputable def E122 : Env := { T := [(9, .str)], G := [], ro := [], loops := [(2, { keep := [0], live := [.tv 3 (.int .i64)], outs := [(.exit 0, []), (.ret, [.tv 2 .bool])] })], joins := [] }
theorem E122_eq : ∀ x, afun E122 Try.f122 C122.ps C122.rs x = C122.fn x := fun x => by kernel_rfl
theorem S122 : Sound Try.prog 122 C122 := fun_sound (E := E122) ⟨good_T (by kernel_rfl), good_nil, mixedOk⟩ Try.func122 rfl E122_eq
/-- impl.IsPhraseText -/
noncomputable def i_IsPhraseText (p_s : Bytes) : Option (Bool) :=
  (bif (decide (1 ≤ (p_s.length : Int))) then
      some (decide ((p_s.length : Int) ≤ 12))
    else
      some false).bind fun c1 =>
  (bif c1 then
      (i_isSmall p_s).bind fun r2 =>
      some r2
    else
      some false).bind fun c3 =>
  some c3
noncomputable def C134 : FnSpec := { ps := [.val .str], rs := [.val .bool], fn := fun x => i_IsPhraseText x }
noncomputable def E134 : Env := { T := [(9, .str)], G := [(122, C122)], ro := [], loops := [], joins := [] }
theorem E134_eq : ∀ x, afun E134 Try.f134 C134.ps C134.rs x = C134.fn x := fun x => by kernel_rfl
theorem S134 : Sound Try.prog 134 C134 := fun_sound (E := E134) ⟨good_T (by kernel_rfl), (good_cons S122 ⟨_, Try.func122, by kernel_rfl, by kernel_rfl⟩ good_nil), mixedOk⟩ Try.func134 rfl E134_eq
/-- impl.isPhrase -/
noncomputable def i_isPhrase (p_x : GPhrase) : Option (Bool) :=
  (i_IsPhraseText p_x.1).bind fun r1 =>
  (bif r1 then
      (i_within (p_x.2.1.length : Int) 1 3).bind fun r2 =>
      some r2
    else
      some false).bind fun c3 =>
  (bif c3 then
      (i_allWithin p_x.2.1 1 60).bind fun r4 =>
      some r4
    else
      some false).bind fun c5 =>
  some c5
noncomputable def C106 : FnSpec := { ps := [.val TGPhrase], rs := [.val .bool], fn := fun x => i_isPhrase x }
noncomputable def E106 : Env := { T := [(9, .str), (25, (.slice (.int .i64))), (66, TGPhrase)], G := [(97, C97), (111, C111), (134, C134)], ro := [1], loops := [], joins := [] }
theorem E106_eq : ∀ x, afun E106 Try.f106 C106.ps C106.rs x = C106.fn x := fun x => by kernel_rfl
theorem S106 : Sound Try.prog 106 C106 := fun_sound (E := E106) ⟨good_T (by kernel_rfl), (good_cons S97 ⟨_, Try.func97, by kernel_rfl, by kernel_rfl⟩ (good_cons S111 ⟨_, Try.func111, by kernel_rfl, by kernel_rfl⟩ (good_cons S134 ⟨_, Try.func134, by kernel_rfl, by kernel_rfl⟩ good_nil))), mixedOk⟩ Try.func106 rfl E106_eq
/-- slices.Equal[[]int,int] -/
noncomputable def slices_Equal_int (p_s1 : List Int) (p_s2 : List Int) : Option (Bool) :=
  bif (!decide ((p_s1.length : Int) = (p_s2.length : Int))) then
    some false
  else
    (loopE (fun (st2 : Int) => (
        bif (decide (st2 < (p_s1.length : Int))) then
          (idx p_s1 st2).bind fun e3 =>
          (idx p_s2 st2).bind fun e4 =>
          bif (!decide (e3 = e4)) then
            some (.inr (.inr false))
          else
            some (.inl (w64 (st2 + 1)))
        else
          some (.inr (.inl ())) : Option ((Int) ⊕ (Unit ⊕ Bool)))) 0).bind fun o5 =>
    match o5 with
    | .inl _ =>
      some true
    | .inr y7 =>
      some y7
noncomputable def C137 : FnSpec := { ps := [.val (.slice (.int .i64)), .val (.slice (.int .i64))], rs := [.val .bool], fn := fun x => slices_Equal_int x.1 x.2 }
noncomputable def E137 : Env := { T := [(3, (.int .i64)), (25, (.slice (.int .i64)))], G := [], ro := [], loops := [(4, { keep := [0, 1, 12], live := [.tv 13 (.int .i64)], outs := [(.exit 0, []), (.ret, [.tv 4 .bool])] })], joins := [] }
theorem E137_eq : ∀ x, afun E137 Try.f137 C137.ps C137.rs x = C137.fn x := fun x => by kernel_rfl
theorem S137 : Sound Try.prog 137 C137 := fun_sound (E := E137) ⟨good_T (by kernel_rfl), good_nil, mixedOk⟩ Try.func137 rfl E137_eq
/-- impl.phraseIndex$1 -/
noncomputable def i_phraseIndex_1 (p_x : GPhrase) (p_a1 : List Int) : Option (Bool) :=
  (slices_Equal_int p_x.2.1 p_a1).bind fun r1 =>
  some r1
noncomputable def C136 : FnSpec := { ps := [.val TGPhrase, .rp (.slice (.int .i64))], rs := [.val .bool], fn := fun x => i_phraseIndex_1 x.1 x.2 }
noncomputable def E136 : Env := { T := [(25, (.slice (.int .i64))), (66, TGPhrase)], G := [(137, C137)], ro := [2], loops := [], joins := [] }
theorem E136_eq : ∀ x, afun E136 Try.f136 C136.ps C136.rs x = C136.fn x := fun x => by kernel_rfl
theorem S136 : Sound Try.prog 136 C136 := fun_sound (E := E136) ⟨good_T (by kernel_rfl), (good_cons S137 ⟨_, Try.func137, by kernel_rfl, by kernel_rfl⟩ good_nil), mixedOk⟩ Try.func136 rfl E136_eq
/-- slices.IndexFunc[[]impl.Phrase,impl.Phrase] -/
noncomputable def slices_IndexFunc_Phrase_136 (p_s : List GPhrase) (p_f : (List Int) × Unit) : Option (Int) :=
  (loopE (fun (st2 : Int) => (
      bif (decide (st2 < (p_s.length : Int))) then
        (idx p_s st2).bind fun e3 =>
        (i_phraseIndex_1 e3 p_f.1).bind fun r4 =>
        bif r4 then
          some (.inr (.inr st2))
        else
          some (.inl (w64 (st2 + 1)))
      else
        some (.inr (.inl ())) : Option ((Int) ⊕ (Unit ⊕ Int)))) 0).bind fun o5 =>
  match o5 with
  | .inl _ =>
    some (-1)
  | .inr y7 =>
    some y7
noncomputable def C135_136 : FnSpec := { ps := [.val (.slice TGPhrase), .fn 136 [(.slice (.int .i64))]], rs := [.val (.int .i64)], fn := fun x => slices_IndexFunc_Phrase_136 x.1 x.2 }
noncomputable def E135_136 : Env := { T := [(29, (.slice TGPhrase)), (66, TGPhrase)], G := [(136, C136)], ro := [], loops := [(2, { keep := [0, 1, 7], live := [.tv 8 (.int .i64)], outs := [(.exit 0, []), (.ret, [.tv 4 (.int .i64)])] })], joins := [] }
theorem E135_136_eq : ∀ x, afun E135_136 Try.f135 C135_136.ps C135_136.rs x = C135_136.fn x := fun x => by kernel_rfl
theorem S135_136 : Sound Try.prog 135 C135_136 := fun_sound (E := E135_136) ⟨good_T (by kernel_rfl), (good_cons S136 ⟨_, Try.func136, by kernel_rfl, by kernel_rfl⟩ good_nil), mixedOk⟩ Try.func135 rfl E135_136_eq
/-- impl.phraseIndex -/
noncomputable def i_phraseIndex (p_b : GBook) (p_signals : List Int) : Option (Int) :=
  (slices_IndexFunc_Phrase_136 p_b.1 (p_signals, ())).bind fun r1 =>
  some r1
noncomputable def C107 : FnSpec := { ps := [.val TGBook, .val (.slice (.int .i64))], rs := [.val (.int .i64)], fn := fun x => i_phraseIndex x.1 x.2 }
noncomputable def E107 : Env := { T := [(25, (.slice (.int .i64))), (29, (.slice TGPhrase)), (31, TGBook)], G := [(135, C135_136)], ro := [2, 3], loops := [], joins := [] }
theorem E107_eq : ∀ x, afun E107 Try.f107 C107.ps C107.rs x = C107.fn x := fun x => by kernel_rfl
theorem S107 : Sound Try.prog 107 C107 := fun_sound (E := E107) ⟨good_T (by kernel_rfl), (good_cons S135_136 ⟨_, Try.func135, by kernel_rfl, by kernel_rfl⟩ good_nil), mixedOk⟩ Try.func107 rfl E107_eq
/-- impl.IsBook -/
noncomputable def i_IsBook (p_b : GBook) : Option (Bool) :=
  (i_within (p_b.1.length : Int) 1 40).bind fun r1 =>
  bif (!r1) then
    some false
  else
    (loopE (fun (st3 : Int) => (
        bif (decide (st3 < (p_b.1.length : Int))) then
          (idx p_b.1 st3).bind fun e4 =>
          (i_isPhrase e4).bind fun r5 =>
          (bif (!r5) then
              some true
            else
              (bif (decide (0 < st3)) then
                  (idx p_b.1 (w64 (st3 - 1))).bind fun e6 =>
                  some (!Op.bytesLess e6.1 e4.1)
                else
                  some false).bind fun c7 =>
              some c7).bind fun c8 =>
          (bif c8 then
              some true
            else
              (sub p_b.1 0 st3).bind fun l9 =>
              (i_phraseIndex (l9, ()) e4.2.1).bind fun r10 =>
              some (decide (0 ≤ r10))).bind fun c11 =>
          bif c11 then
            some (.inr (.inr false))
          else
            some (.inl (w64 (st3 + 1)))
        else
          some (.inr (.inl ())) : Option ((Int) ⊕ (Unit ⊕ Bool)))) 0).bind fun o12 =>
    match o12 with
    | .inl _ =>
      some true
    | .inr y14 =>
      some y14
noncomputable def C58 : FnSpec := { ps := [.val TGBook], rs := [.val .bool], fn := fun x => i_IsBook x }
noncomputable def E58 : Env := { T := [(9, .str), (25, (.slice (.int .i64))), (29, (.slice TGPhrase)), (31, TGBook), (66, TGPhrase)], G := [(97, C97), (106, C106), (107, C107)], ro := [1], loops := [(4, { keep := [1, 11, 12], live := [.tv 13 (.int .i64)], outs := [(.exit 0, []), (.ret, [.tv 2 .bool])] })], joins := [] }
theorem E58_eq : ∀ x, afun E58 Try.f58 C58.ps C58.rs x = C58.fn x := fun x => by kernel_rfl
theorem S58 : Sound Try.prog 58 C58 := fun_sound (E := E58) ⟨good_T (by kernel_rfl), (good_cons S97 ⟨_, Try.func97, by kernel_rfl, by kernel_rfl⟩ (good_cons S106 ⟨_, Try.func106, by kernel_rfl, by kernel_rfl⟩ (good_cons S107 ⟨_, Try.func107, by kernel_rfl, by kernel_rfl⟩ good_nil))), mixedOk⟩ Try.func58 rfl E58_eq
/-- impl.areBookWeights -/
noncomputable def i_areBookWeights (p_b : GBook) (p_weights : List Int) : Option (Bool) :=
  (bif (decide ((p_weights.length : Int) = (p_b.1.length : Int))) then
      (i_allWithin p_weights 0 10000).bind fun r1 =>
      some r1
    else
      some false).bind fun c2 =>
  some c2
noncomputable def C64 : FnSpec := { ps := [.val TGBook, .val (.slice (.int .i64))], rs := [.val .bool], fn := fun x => i_areBookWeights x.1 x.2 }
noncomputable def E64 : Env := { T := [(25, (.slice (.int .i64))), (29, (.slice TGPhrase)), (31, TGBook)], G := [(111, C111)], ro := [2], loops := [], joins := [] }
theorem E64_eq : ∀ x, afun E64 Try.f64 C64.ps C64.rs x = C64.fn x := fun x => by kernel_rfl
theorem S64 : Sound Try.prog 64 C64 := fun_sound (E := E64) ⟨good_T (by kernel_rfl), (good_cons S111 ⟨_, Try.func111, by kernel_rfl, by kernel_rfl⟩ good_nil), mixedOk⟩ Try.func64 rfl E64_eq
/-- impl.BookCost -/
noncomputable def i_BookCost (p_b : GBook) (p_weights : List Int) : Option (Int × Bool) :=
  (i_IsBook p_b).bind fun r1 =>
  (bif (!r1) then
      some true
    else
      (i_areBookWeights p_b p_weights).bind fun r2 =>
      some (!r2)).bind fun c3 =>
  bif c3 then
    some (0, false)
  else
    (loopE (fun (st5 : Int × Int) => (
        bif (decide (st5.2 < (p_b.1.length : Int))) then
          (idx p_b.1 st5.2).bind fun e6 =>
          (idx p_weights st5.2).bind fun e7 =>
          some (.inl ((w64 (st5.1 + (w64 (e7 * (e6.2.1.length : Int))))), (w64 (st5.2 + 1))))
        else
          some (.inr st5.1) : Option ((Int × Int) ⊕ (Int)))) (0, 0)).bind fun o8 =>
    some (o8, true)
noncomputable def C19 : FnSpec := { ps := [.val TGBook, .val (.slice (.int .i64))], rs := [.val (.int .i64), .val .bool], fn := fun x => i_BookCost x.1 x.2 }
noncomputable def E19 : Env := { T := [(3, (.int .i64)), (25, (.slice (.int .i64))), (29, (.slice TGPhrase)), (31, TGBook), (66, TGPhrase)], G := [(58, C58), (64, C64)], ro := [2], loops := [(5, { keep := [1, 19, 20], live := [.tv 6 (.int .i64), .tv 21 (.int .i64)], outs := [(.exit 0, [.tv 6 (.int .i64)])] })], joins := [] }
theorem E19_eq : ∀ x, afun E19 Try.f19 C19.ps C19.rs x = C19.fn x := fun x => by kernel_rfl
theorem S19 : Sound Try.prog 19 C19 := fun_sound (E := E19) ⟨good_T (by kernel_rfl), (good_cons S58 ⟨_, Try.func58, by kernel_rfl, by kernel_rfl⟩ (good_cons S64 ⟨_, Try.func64, by kernel_rfl, by kernel_rfl⟩ good_nil)), mixedOk⟩ Try.func19 rfl E19_eq
/-- laws.eqIntS -/
noncomputable def l_eqIntS (p_a : List Int) (p_b : List Int) : Option (Bool) :=
  bif (!decide ((p_a.length : Int) = (p_b.length : Int))) then
    some false
  else
    (loopE (fun (st2 : Int) => (
        bif (decide (st2 < (p_a.length : Int))) then
          (idx p_a st2).bind fun e3 =>
          (idx p_b st2).bind fun e4 =>
          bif (!decide (e3 = e4)) then
            some (.inr (.inr false))
          else
            some (.inl (w64 (st2 + 1)))
        else
          some (.inr (.inl ())) : Option ((Int) ⊕ (Unit ⊕ Bool)))) 0).bind fun o5 =>
    match o5 with
    | .inl _ =>
      some true
    | .inr y7 =>
      some y7
noncomputable def C21 : FnSpec := { ps := [.val (.slice (.int .i64)), .val (.slice (.int .i64))], rs := [.val .bool], fn := fun x => l_eqIntS x.1 x.2 }
noncomputable def E21 : Env := { T := [(3, (.int .i64)), (25, (.slice (.int .i64)))], G := [], ro := [], loops := [(4, { keep := [0, 1], live := [.tv 5 (.int .i64)], outs := [(.exit 0, []), (.ret, [.tv 4 .bool])] })], joins := [] }
theorem E21_eq : ∀ x, afun E21 Try.f21 C21.ps C21.rs x = C21.fn x := fun x => by kernel_rfl
theorem S21 : Sound Try.prog 21 C21 := fun_sound (E := E21) ⟨good_T (by kernel_rfl), good_nil, mixedOk⟩ Try.func21 rfl E21_eq
/-- laws.eqPhrase -/
noncomputable def l_eqPhrase (p_a : GPhrase) (p_b : GPhrase) : Option (Bool) :=
  bif (!decide (p_a.1 = p_b.1)) then
    some false
  else
    (l_eqIntS p_a.2.1 p_b.2.1).bind fun r1 =>
    bif (!r1) then
      some false
    else
      some true
noncomputable def C112 : FnSpec := { ps := [.val TGPhrase, .val TGPhrase], rs := [.val .bool], fn := fun x => l_eqPhrase x.1 x.2 }
noncomputable def E112 : Env := { T := [(9, .str), (25, (.slice (.int .i64))), (66, TGPhrase)], G := [(21, C21)], ro := [2, 3], loops := [], joins := [] }
theorem E112_eq : ∀ x, afun E112 Try.f112 C112.ps C112.rs x = C112.fn x := fun x => by kernel_rfl
theorem S112 : Sound Try.prog 112 C112 := fun_sound (E := E112) ⟨good_T (by kernel_rfl), (good_cons S21 ⟨_, Try.func21, by kernel_rfl, by kernel_rfl⟩ good_nil), mixedOk⟩ Try.func112 rfl E112_eq
/-- laws.eqPhraseS -/
noncomputable def l_eqPhraseS (p_a : List GPhrase) (p_b : List GPhrase) : Option (Bool) :=
  bif (!decide ((p_a.length : Int) = (p_b.length : Int))) then
    some false
  else
    (loopE (fun (st2 : Int) => (
        bif (decide (st2 < (p_a.length : Int))) then
          (idx p_a st2).bind fun e3 =>
          (idx p_b st2).bind fun e4 =>
          (l_eqPhrase e3 e4).bind fun r5 =>
          bif (!r5) then
            some (.inr (.inr false))
          else
            some (.inl (w64 (st2 + 1)))
        else
          some (.inr (.inl ())) : Option ((Int) ⊕ (Unit ⊕ Bool)))) 0).bind fun o6 =>
    match o6 with
    | .inl _ =>
      some true
    | .inr y8 =>
      some y8
noncomputable def C65 : FnSpec := { ps := [.val (.slice TGPhrase), .val (.slice TGPhrase)], rs := [.val .bool], fn := fun x => l_eqPhraseS x.1 x.2 }
noncomputable def E65 : Env := { T := [(29, (.slice TGPhrase)), (66, TGPhrase)], G := [(112, C112)], ro := [], loops := [(4, { keep := [0, 1], live := [.tv 5 (.int .i64)], outs := [(.exit 0, []), (.ret, [.tv 4 .bool])] })], joins := [] }
theorem E65_eq : ∀ x, afun E65 Try.f65 C65.ps C65.rs x = C65.fn x := fun x => by kernel_rfl
theorem S65 : Sound Try.prog 65 C65 := fun_sound (E := E65) ⟨good_T (by kernel_rfl), (good_cons S112 ⟨_, Try.func112, by kernel_rfl, by kernel_rfl⟩ good_nil), mixedOk⟩ Try.func65 rfl E65_eq
/-- laws.eqBook -/
noncomputable def l_eqBook (p_a : GBook) (p_b : GBook) : Option (Bool) :=
  (l_eqPhraseS p_a.1 p_b.1).bind fun r1 =>
  bif (!r1) then
    some false
  else
    some true
noncomputable def C20 : FnSpec := { ps := [.val TGBook, .val TGBook], rs := [.val .bool], fn := fun x => l_eqBook x.1 x.2 }
noncomputable def E20 : Env := { T := [(29, (.slice TGPhrase)), (31, TGBook)], G := [(65, C65)], ro := [2, 3], loops := [], joins := [] }
theorem E20_eq : ∀ x, afun E20 Try.f20 C20.ps C20.rs x = C20.fn x := fun x => by kernel_rfl
theorem S20 : Sound Try.prog 20 C20 := fun_sound (E := E20) ⟨good_T (by kernel_rfl), (good_cons S65 ⟨_, Try.func65, by kernel_rfl, by kernel_rfl⟩ good_nil), mixedOk⟩ Try.func20 rfl E20_eq
/-- laws.FnExactBookCost -/
noncomputable def l_FnExactBookCost (p_aB : GBook) (p_aWeights : List Int) : Option (Bool) :=
  bif (decide (1048576 < (p_aWeights.length : Int))) then
    some true
  else
    (l_szBook p_aB 1048576).bind fun r1 =>
    bif (decide (r1 < 0)) then
      some true
    else
      (l_toBook p_aB).bind fun r2 =>
      (l_toIntS p_aWeights).bind fun r3 =>
      (s_BookCost r2 r3).bind fun r4 =>
      (l_toBook p_aB).bind fun r5 =>
      (l_toIntS p_aWeights).bind fun r6 =>
      (i_BookCost r5 r6).bind fun r7 =>
      (bif (!decide (r7.1 = r4.1)) then
          some true
        else
          some (r7.2 != r4.2)).bind fun c8 =>
      bif c8 then
        some false
      else
        (l_toBook p_aB).bind fun r9 =>
        (l_eqBook r5 r9).bind fun r10 =>
        bif (!r10) then
          some false
        else
          (l_toIntS p_aWeights).bind fun r11 =>
          (l_eqIntS r6 r11).bind fun r12 =>
          bif (!r12) then
            some false
          else
            some true
noncomputable def C3 : FnSpec := { ps := [.val TGBook, .val (.slice (.int .i64))], rs := [.val .bool], fn := fun x => l_FnExactBookCost x.1 x.2 }
noncomputable def E3 : Env := { T := [(4, .bool), (24, TGBook), (25, (.slice (.int .i64))), (31, TGBook)], G := [(15, C15), (16, C16), (17, C17), (18, C18), (19, C19), (20, C20), (21, C21)], ro := [2], loops := [], joins := [] }
theorem E3_eq : ∀ x, afun E3 Try.f3 C3.ps C3.rs x = C3.fn x := fun x => by kernel_rfl
theorem S3 : Sound Try.prog 3 C3 := fun_sound (E := E3) ⟨good_T (by kernel_rfl), (good_cons S15 ⟨_, Try.func15, by kernel_rfl, by kernel_rfl⟩ (good_cons S16 ⟨_, Try.func16, by kernel_rfl, by kernel_rfl⟩ (good_cons S17 ⟨_, Try.func17, by kernel_rfl, by kernel_rfl⟩ (good_cons S18 ⟨_, Try.func18, by kernel_rfl, by kernel_rfl⟩ (good_cons S19 ⟨_, Try.func19, by kernel_rfl, by kernel_rfl⟩ (good_cons S20 ⟨_, Try.func20, by kernel_rfl, by kernel_rfl⟩ (good_cons S21 ⟨_, Try.func21, by kernel_rfl, by kernel_rfl⟩ good_nil))))))), mixedOk⟩ Try.func3 rfl E3_eq
/-- spec.l1Most -/
noncomputable def s_l1Most (p_a : Int) (p_b : Int) : Option (Int) :=
  bif (decide (p_b < p_a)) then
    some p_a
  else
    some p_b
noncomputable def C141 : FnSpec := { ps := [.val (.int .i64), .val (.int .i64)], rs := [.val (.int .i64)], fn := fun x => s_l1Most x.1 x.2 }
noncomputable def E141 : Env := { T := [], G := [], ro := [], loops := [], joins := [] }
theorem E141_eq : ∀ x, afun E141 Try.f141 C141.ps C141.rs x = C141.fn x := fun x => by kernel_rfl
theorem S141 : Sound Try.prog 141 C141 := fun_sound (E := E141) ⟨good_T (by kernel_rfl), good_nil, mixedOk⟩ Try.func141 rfl E141_eq
/-- spec.l1Abs -/
noncomputable def s_l1Abs (p_n : Int) : Option (Int) :=
  (s_l1Most p_n (w64 (0 - p_n))).bind fun r1 =>
  some r1
noncomputable def C116 : FnSpec := { ps := [.val (.int .i64)], rs := [.val (.int .i64)], fn := fun x => s_l1Abs x }
noncomputable def E116 : Env := { T := [], G := [(141, C141)], ro := [], loops := [], joins := [] }
theorem E116_eq : ∀ x, afun E116 Try.f116 C116.ps C116.rs x = C116.fn x := fun x => by kernel_rfl
theorem S116 : Sound Try.prog 116 C116 := fun_sound (E := E116) ⟨good_T (by kernel_rfl), (good_cons S141 ⟨_, Try.func141, by kernel_rfl, by kernel_rfl⟩ good_nil), mixedOk⟩ Try.func116 rfl E116_eq
/-- spec.siPart -/
noncomputable def s_siPart (p_a : Int) (p_b : Int) : Option (Int × Int) :=
  (s_l1Abs p_a).bind fun r1 =>
  (loopE (fun (st3 : Int × Int) => (
      bif (decide (0 < st3.2)) then
        bif (!decide (st3.2 = 0)) then
          some (.inl (st3.2, (Int.tmod st3.1 st3.2)))
        else
          none
      else
        some (.inr st3.1) : Option ((Int × Int) ⊕ (Int)))) (r1, p_b)).bind fun o4 =>
  bif (!decide (o4 = 0)) then
    bif (!decide (o4 = 0)) then
      some ((w64 (Int.tdiv p_a o4)), (w64 (Int.tdiv p_b o4)))
    else
      none
  else
    none
noncomputable def C67 : FnSpec := { ps := [.val (.int .i64), .val (.int .i64)], rs := [.val (.int .i64), .val (.int .i64)], fn := fun x => s_siPart x.1 x.2 }
noncomputable def E67 : Env := { T := [], G := [(116, C116)], ro := [], loops := [(2, { keep := [0, 1], live := [.tv 6 (.int .i64), .tv 7 (.int .i64)], outs := [(.exit 0, [.tv 6 (.int .i64)])] })], joins := [] }
theorem E67_eq : ∀ x, afun E67 Try.f67 C67.ps C67.rs x = C67.fn x := fun x => by kernel_rfl
theorem S67 : Sound Try.prog 67 C67 := fun_sound (E := E67) ⟨good_T (by kernel_rfl), (good_cons S116 ⟨_, Try.func116, by kernel_rfl, by kernel_rfl⟩ good_nil), mixedOk⟩ Try.func67 rfl E67_eq
/-- spec.MeanSignals -/
noncomputable def s_MeanSignals (p_b : GBook) : Option (Int × Int × Bool) :=
  (s_bkGood p_b).bind fun r1 =>
  bif (!r1) then
    some (0, 0, false)
  else
    (loopE (fun (st3 : Int × Int) => (
        bif (decide (st3.2 < (p_b.1.length : Int))) then
          (idx p_b.1 st3.2).bind fun e4 =>
          some (.inl ((w64 (st3.1 + (e4.2.1.length : Int))), (w64 (st3.2 + 1))))
        else
          some (.inr st3.1) : Option ((Int × Int) ⊕ (Int)))) (0, 0)).bind fun o5 =>
    (s_siPart o5 (p_b.1.length : Int)).bind fun r6 =>
    some (r6.1, r6.2, true)
noncomputable def C22 : FnSpec := { ps := [.val TGBook], rs := [.val (.int .i64), .val (.int .i64), .val .bool], fn := fun x => s_MeanSignals x }
noncomputable def E22 : Env := { T := [(25, (.slice (.int .i64))), (29, (.slice TGPhrase)), (31, TGBook), (66, TGPhrase)], G := [(66, C66), (67, C67)], ro := [1], loops := [(5, { keep := [1, 14, 15], live := [.tv 5 (.int .i64), .tv 16 (.int .i64)], outs := [(.exit 0, [.tv 5 (.int .i64)])] })], joins := [] }
theorem E22_eq : ∀ x, afun E22 Try.f22 C22.ps C22.rs x = C22.fn x := fun x => by kernel_rfl
theorem S22 : Sound Try.prog 22 C22 := fun_sound (E := E22) ⟨good_T (by kernel_rfl), (good_cons S66 ⟨_, Try.func66, by kernel_rfl, by kernel_rfl⟩ (good_cons S67 ⟨_, Try.func67, by kernel_rfl, by kernel_rfl⟩ good_nil)), mixedOk⟩ Try.func22 rfl E22_eq
/-- impl.gcdOf -/
noncomputable def i_gcdOf (p_a : Int) (p_b : Int) : Option (Int) :=
  (loopE (fun (st2 : Int × Int) => (
      bif (decide (0 < st2.2)) then
        bif (!decide (st2.2 = 0)) then
          some (.inl (st2.2, (Int.tmod st2.1 st2.2)))
        else
          none
      else
        some (.inr st2.1) : Option ((Int × Int) ⊕ (Int)))) (p_a, p_b)).bind fun o3 =>
  some o3
noncomputable def C68 : FnSpec := { ps := [.val (.int .i64), .val (.int .i64)], rs := [.val (.int .i64)], fn := fun x => i_gcdOf x.1 x.2 }
noncomputable def E68 : Env := { T := [], G := [], ro := [], loops := [(1, { keep := [], live := [.tv 0 (.int .i64), .tv 1 (.int .i64)], outs := [(.exit 0, [.tv 0 (.int .i64)])] })], joins := [] }
theorem E68_eq : ∀ x, afun E68 Try.f68 C68.ps C68.rs x = C68.fn x := fun x => by kernel_rfl
theorem S68 : Sound Try.prog 68 C68 := fun_sound (E := E68) ⟨good_T (by kernel_rfl), good_nil, mixedOk⟩ Try.func68 rfl E68_eq
/-- impl.MeanSignals -/
noncomputable def i_MeanSignals (p_b : GBook) : Option (Int × Int × Bool) :=
  (i_IsBook p_b).bind fun r1 =>
  bif (!r1) then
    some (0, 0, false)
  else
    (loopE (fun (st3 : Int × Int) => (
        bif (decide (st3.2 < (p_b.1.length : Int))) then
          (idx p_b.1 st3.2).bind fun e4 =>
          some (.inl ((w64 (st3.1 + (e4.2.1.length : Int))), (w64 (st3.2 + 1))))
        else
          some (.inr st3.1) : Option ((Int × Int) ⊕ (Int)))) (0, 0)).bind fun o5 =>
    (i_gcdOf o5 (p_b.1.length : Int)).bind fun r6 =>
    bif (!decide (r6 = 0)) then
      bif (!decide (r6 = 0)) then
        some ((w64 (Int.tdiv o5 r6)), (w64 (Int.tdiv (p_b.1.length : Int) r6)), true)
      else
        none
    else
      none
noncomputable def C23 : FnSpec := { ps := [.val TGBook], rs := [.val (.int .i64), .val (.int .i64), .val .bool], fn := fun x => i_MeanSignals x }
noncomputable def E23 : Env := { T := [(25, (.slice (.int .i64))), (29, (.slice TGPhrase)), (31, TGBook), (66, TGPhrase)], G := [(58, C58), (68, C68)], ro := [1], loops := [(5, { keep := [1, 13, 14], live := [.tv 5 (.int .i64), .tv 15 (.int .i64)], outs := [(.exit 0, [.tv 5 (.int .i64)])] })], joins := [] }
theorem E23_eq : ∀ x, afun E23 Try.f23 C23.ps C23.rs x = C23.fn x := fun x => by kernel_rfl
theorem S23 : Sound Try.prog 23 C23 := fun_sound (E := E23) ⟨good_T (by kernel_rfl), (good_cons S58 ⟨_, Try.func58, by kernel_rfl, by kernel_rfl⟩ (good_cons S68 ⟨_, Try.func68, by kernel_rfl, by kernel_rfl⟩ good_nil)), mixedOk⟩ Try.func23 rfl E23_eq
/-- laws.FnExactMeanSignals -/
noncomputable def l_FnExactMeanSignals (p_aB : GBook) : Option (Bool) :=
  (l_szBook p_aB 1048576).bind fun r1 =>
  bif (decide (r1 < 0)) then
    some true
  else
    (l_toBook p_aB).bind fun r2 =>
    (s_MeanSignals r2).bind fun r3 =>
    (l_toBook p_aB).bind fun r4 =>
    (i_MeanSignals (r4.1, ())).bind fun r5 =>
    (bif (!decide (r5.1 = r3.1)) then
        some true
      else
        some (!decide (r5.2.1 = r3.2.1))).bind fun c6 =>
    (bif c6 then
        some true
      else
        some (r5.2.2 != r3.2.2)).bind fun c7 =>
    bif c7 then
      some false
    else
      (l_toBook p_aB).bind fun r8 =>
      (l_eqBook (r4.1, ()) r8).bind fun r9 =>
      bif (!r9) then
        some false
      else
        some true
noncomputable def C4 : FnSpec := { ps := [.val TGBook], rs := [.val .bool], fn := fun x => l_FnExactMeanSignals x }
noncomputable def E4 : Env := { T := [(4, .bool), (24, TGBook), (31, TGBook)], G := [(15, C15), (17, C17), (20, C20), (22, C22), (23, C23)], ro := [1], loops := [], joins := [] }
theorem E4_eq : ∀ x, afun E4 Try.f4 C4.ps C4.rs x = C4.fn x := fun x => by kernel_rfl
theorem S4 : Sound Try.prog 4 C4 := fun_sound (E := E4) ⟨good_T (by kernel_rfl), (good_cons S15 ⟨_, Try.func15, by kernel_rfl, by kernel_rfl⟩ (good_cons S17 ⟨_, Try.func17, by kernel_rfl, by kernel_rfl⟩ (good_cons S20 ⟨_, Try.func20, by kernel_rfl, by kernel_rfl⟩ (good_cons S22 ⟨_, Try.func22, by kernel_rfl, by kernel_rfl⟩ (good_cons S23 ⟨_, Try.func23, by kernel_rfl, by kernel_rfl⟩ good_nil))))), mixedOk⟩ Try.func4 rfl E4_eq
/-- spec.spLetters -/
noncomputable def s_spLetters (p_s : Bytes) : Option (Bool) :=
  (loopE (fun (st2 : Int) => (
      bif (decide (st2 < (p_s.length : Int))) then
        (idx p_s st2).bind fun b3 =>
        (bif (decide ((b3.toNat : Int) < 97)) then
            some true
          else
            (idx p_s st2).bind fun b4 =>
            some (decide (122 < (b4.toNat : Int)))).bind fun c5 =>
        bif c5 then
          some (.inr (.inr false))
        else
          some (.inl (w64 (st2 + 1)))
      else
        some (.inr (.inl ())) : Option ((Int) ⊕ (Unit ⊕ Bool)))) 0).bind fun o6 =>
  match o6 with
  | .inl _ =>
    some (decide ((p_s.length : Int) ≤ 40))
  | .inr y8 =>
    some y8
noncomputable def C77 : FnSpec := { ps := [.val .str], rs := [.val .bool], fn := fun x => s_spLetters x }
noncomputable def E77 : Env := { T := [(9, .str)], G := [], ro := [], loops := [(2, { keep := [0], live := [.tv 3 (.int .i64)], outs := [(.exit 0, []), (.ret, [.tv 2 .bool])] })], joins := [] }
theorem E77_eq : ∀ x, afun E77 Try.f77 C77.ps C77.rs x = C77.fn x := fun x => by kernel_rfl
theorem S77 : Sound Try.prog 77 C77 := fun_sound (E := E77) ⟨good_T (by kernel_rfl), good_nil, mixedOk⟩ Try.func77 rfl E77_eq
/-- spec.spAsked -/
noncomputable def s_spAsked (p_b : GBook) (p_s : Bytes) : Option (Bool) :=
  (s_bkGood p_b).bind fun r1 =>
  (bif r1 then
      (s_spLetters p_s).bind fun r2 =>
      some r2
    else
      some false).bind fun c3 =>
  some c3
noncomputable def C128 : FnSpec := { ps := [.val TGBook, .val .str], rs := [.val .bool], fn := fun x => s_spAsked x.1 x.2 }
noncomputable def E128 : Env := { T := [(31, TGBook)], G := [(66, C66), (77, C77)], ro := [2], loops := [], joins := [] }
theorem E128_eq : ∀ x, afun E128 Try.f128 C128.ps C128.rs x = C128.fn x := fun x => by kernel_rfl
theorem S128 : Sound Try.prog 128 C128 := fun_sound (E := E128) ⟨good_T (by kernel_rfl), (good_cons S66 ⟨_, Try.func66, by kernel_rfl, by kernel_rfl⟩ (good_cons S77 ⟨_, Try.func77, by kernel_rfl, by kernel_rfl⟩ good_nil)), mixedOk⟩ Try.func128 rfl E128_eq
/-- spec.spBegins -/
noncomputable def s_spBegins (p_s : Bytes) (p_text : Bytes) : Option (Bool) :=
  (bif (decide ((p_text.length : Int) ≤ (p_s.length : Int))) then
      (sub p_s 0 (p_text.length : Int)).bind fun l1 =>
      some (decide (l1 = p_text))
    else
      some false).bind fun c2 =>
  some c2
noncomputable def C145 : FnSpec := { ps := [.val .str, .val .str], rs := [.val .bool], fn := fun x => s_spBegins x.1 x.2 }
noncomputable def E145 : Env := { T := [(9, .str)], G := [], ro := [], loops := [], joins := [] }
theorem E145_eq : ∀ x, afun E145 Try.f145 C145.ps C145.rs x = C145.fn x := fun x => by kernel_rfl
theorem S145 : Sound Try.prog 145 C145 := fun_sound (E := E145) ⟨good_T (by kernel_rfl), good_nil, mixedOk⟩ Try.func145 rfl E145_eq
/-- spec.spTable -/
noncomputable def s_spTable (p_b : GBook) (p_s : Bytes) : Option ((List Int)) :=
  bif decide (0 ≤ (w64 ((p_s.length : Int) + 1))) && decide ((w64 ((p_s.length : Int) + 1)) ≤ (w64 ((p_s.length : Int) + 1))) && decide ((w64 ((p_s.length : Int) + 1)) ≤ lim) then
    (loopE (fun (st2 : (List Int) × Int) => (
        bif (decide (0 ≤ st2.2)) then
          bif decide (0 ≤ st2.2) && decide (st2.2 < (st2.1.length : Int)) then
            (loopE (fun (st4 : (List Int) × Int) => (
                bif (decide (st4.2 < (p_b.1.length : Int))) then
                  (idx p_b.1 st4.2).bind fun e5 =>
                  (sub p_s st2.2 (p_s.length : Int)).bind fun l6 =>
                  (s_spBegins l6 e5.1).bind fun r7 =>
                  (bif (!r7) then
                      some true
                    else
                      bif decide (0 ≤ (w64 (st2.2 + (e5.1.length : Int)))) && decide ((w64 (st2.2 + (e5.1.length : Int))) < (st4.1.length : Int)) then
                        (st4.1[(Int.toNat (w64 (st2.2 + (e5.1.length : Int))))]?).bind fun e8 =>
                        some (decide (e8 < 0))
                      else
                        none).bind fun c9 =>
                  bif c9 then
                    some (.inl (st4.1, (w64 (st4.2 + 1))))
                  else
                    bif decide (0 ≤ (w64 (st2.2 + (e5.1.length : Int)))) && decide ((w64 (st2.2 + (e5.1.length : Int))) < (st4.1.length : Int)) then
                      (st4.1[(Int.toNat (w64 (st2.2 + (e5.1.length : Int))))]?).bind fun e10 =>
                      bif decide (0 ≤ st2.2) && decide (st2.2 < (st4.1.length : Int)) then
                        (st4.1[(Int.toNat st2.2)]?).bind fun e11 =>
                        (bif (decide (e11 < 0)) then
                            some true
                          else
                            bif decide (0 ≤ st2.2) && decide (st2.2 < (st4.1.length : Int)) then
                              (st4.1[(Int.toNat st2.2)]?).bind fun e12 =>
                              some (decide ((w64 ((e5.2.1.length : Int) + e10)) < e12))
                            else
                              none).bind fun c13 =>
                        bif c13 then
                          bif decide (0 ≤ st2.2) && decide (st2.2 < (st4.1.length : Int)) then
                            some (.inl ((st4.1.set (Int.toNat st2.2) (w64 ((e5.2.1.length : Int) + e10))), (w64 (st4.2 + 1))))
                          else
                            none
                        else
                          some (.inl (st4.1, (w64 (st4.2 + 1))))
                      else
                        none
                    else
                      none
                else
                  some (.inr st4.1) : Option (((List Int) × Int) ⊕ ((List Int))))) ((st2.1.set (Int.toNat st2.2) (-1)), 0)).bind fun o14 =>
            some (.inl (o14, (w64 (st2.2 - 1))))
          else
            none
        else
          some (.inr st2.1) : Option (((List Int) × Int) ⊕ ((List Int))))) ((List.replicate (Int.toNat (w64 ((p_s.length : Int) + 1))) (0 : Int)), (w64 ((p_s.length : Int) - 1)))).bind fun o15 =>
    some o15
  else
    none
noncomputable def C129 : FnSpec := { ps := [.val TGBook, .val .str], rs := [.own (.slice (.int .i64))], fn := fun x => s_spTable x.1 x.2 }
noncomputable def E129 : Env := { T := [(3, (.int .i64)), (9, .str), (25, (.slice (.int .i64))), (29, (.slice TGPhrase)), (31, TGBook), (66, TGPhrase)], G := [(145, C145)], ro := [2], loops := [(3, { keep := [1, 2], live := [.own 5 [] 208 (.int .i64) true, .tv 6 (.int .i64)], outs := [(.exit 0, [.own 5 [] 208 (.int .i64) true])] }), (7, { keep := [1, 2, 6, 25, 26], live := [.own 5 [] 208 (.int .i64) true, .tv 27 (.int .i64)], outs := [(.exit 2, [.own 5 [] 208 (.int .i64) true])] })], joins := [] }
theorem E129_eq : ∀ x, afun E129 Try.f129 C129.ps C129.rs x = C129.fn x := fun x => by kernel_rfl
theorem S129 : Sound Try.prog 129 C129 := fun_sound (E := E129) ⟨good_T (by kernel_rfl), (good_cons S145 ⟨_, Try.func145, by kernel_rfl, by kernel_rfl⟩ good_nil), mixedOk⟩ Try.func129 rfl E129_eq
/-- spec.LeastSignals -/
noncomputable def s_LeastSignals (p_b : GBook) (p_s : Bytes) : Option (Int × Bool) :=
  (s_spAsked p_b p_s).bind fun r1 =>
  (bif (!r1) then
      some true
    else
      (s_spTable p_b p_s).bind fun r2 =>
      bif decide (0 ≤ 0) && decide (0 < (r2.length : Int)) then
        (r2[(Int.toNat 0)]?).bind fun e3 =>
        some (decide (e3 < 0))
      else
        none).bind fun c4 =>
  bif c4 then
    some (0, false)
  else
    (s_spTable p_b p_s).bind fun r5 =>
    bif decide (0 ≤ 0) && decide (0 < (r5.length : Int)) then
      (r5[(Int.toNat 0)]?).bind fun e6 =>
      some (e6, true)
    else
      none
noncomputable def C98 : FnSpec := { ps := [.val TGBook, .val .str], rs := [.val (.int .i64), .val .bool], fn := fun x => s_LeastSignals x.1 x.2 }
noncomputable def E98 : Env := { T := [(3, (.int .i64)), (25, (.slice (.int .i64))), (31, TGBook)], G := [(128, C128), (129, C129)], ro := [2], loops := [], joins := [] }
theorem E98_eq : ∀ x, afun E98 Try.f98 C98.ps C98.rs x = C98.fn x := fun x => by kernel_rfl
theorem S98 : Sound Try.prog 98 C98 := fun_sound (E := E98) ⟨good_T (by kernel_rfl), (good_cons S128 ⟨_, Try.func128, by kernel_rfl, by kernel_rfl⟩ (good_cons S129 ⟨_, Try.func129, by kernel_rfl, by kernel_rfl⟩ good_nil)), mixedOk⟩ Try.func98 rfl E98_eq
/-- spec.l1Sign -/
noncomputable def s_l1Sign (p_n : Int) : Option (Int) :=
  bif (decide (0 < p_n)) then
    some 1
  else
    bif (decide (p_n < 0)) then
      some (-1)
    else
      some 0
noncomputable def C119 : FnSpec := { ps := [.val (.int .i64)], rs := [.val (.int .i64)], fn := fun x => s_l1Sign x }
noncomputable def E119 : Env := { T := [], G := [], ro := [], loops := [], joins := [] }
theorem E119_eq : ∀ x, afun E119 Try.f119 C119.ps C119.rs x = C119.fn x := fun x => by kernel_rfl
theorem S119 : Sound Try.prog 119 C119 := fun_sound (E := E119) ⟨good_T (by kernel_rfl), good_nil, mixedOk⟩ Try.func119 rfl E119_eq
/-- spec.msCompare -/
noncomputable def s_msCompare (p_a : GBook) (p_b : GBook) (p_s : Bytes) : Option (Int × Bool) :=
  (s_LeastSignals p_a p_s).bind fun r1 =>
  (s_LeastSignals p_b p_s).bind fun r2 =>
  (bif (!r1.2) then
      some true
    else
      some (!r2.2)).bind fun c3 =>
  bif c3 then
    some (0, false)
  else
    (s_l1Sign (w64 (r1.1 - r2.1))).bind fun r4 =>
    some (r4, true)
noncomputable def C75 : FnSpec := { ps := [.val TGBook, .val TGBook, .val .str], rs := [.val (.int .i64), .val .bool], fn := fun x => s_msCompare x.1 x.2.1 x.2.2 }
noncomputable def E75 : Env := { T := [(31, TGBook)], G := [(98, C98), (119, C119)], ro := [3, 4], loops := [], joins := [] }
theorem E75_eq : ∀ x, afun E75 Try.f75 C75.ps C75.rs x = C75.fn x := fun x => by kernel_rfl
theorem S75 : Sound Try.prog 75 C75 := fun_sound (E := E75) ⟨good_T (by kernel_rfl), (good_cons S98 ⟨_, Try.func98, by kernel_rfl, by kernel_rfl⟩ (good_cons S119 ⟨_, Try.func119, by kernel_rfl, by kernel_rfl⟩ good_nil)), mixedOk⟩ Try.func75 rfl E75_eq
/-- spec.CompareBooks -/
noncomputable def s_CompareBooks (p_a : GBook) (p_b : GBook) (p_s : Bytes) : Option (Int × Bool) :=
  (s_msCompare p_a p_b p_s).bind fun r1 =>
  some (r1.1, r1.2)
noncomputable def C35 : FnSpec := { ps := [.val TGBook, .val TGBook, .val .str], rs := [.val (.int .i64), .val .bool], fn := fun x => s_CompareBooks x.1 x.2.1 x.2.2 }
noncomputable def E35 : Env := { T := [(31, TGBook)], G := [(75, C75)], ro := [3, 4], loops := [], joins := [] }
theorem E35_eq : ∀ x, afun E35 Try.f35 C35.ps C35.rs x = C35.fn x := fun x => by kernel_rfl
theorem S35 : Sound Try.prog 35 C35 := fun_sound (E := E35) ⟨good_T (by kernel_rfl), (good_cons S75 ⟨_, Try.func75, by kernel_rfl, by kernel_rfl⟩ good_nil), mixedOk⟩ Try.func35 rfl E35_eq
/-- impl.isLetters -/
noncomputable def i_isLetters (p_s : Bytes) : Option (Bool) :=
  (bif (decide ((p_s.length : Int) ≤ 40)) then
      (i_isSmall p_s).bind fun r1 =>
      some r1
    else
      some false).bind fun c2 =>
  some c2
noncomputable def C80 : FnSpec := { ps := [.val .str], rs := [.val .bool], fn := fun x => i_isLetters x }
noncomputable def E80 : Env := { T := [(9, .str)], G := [(122, C122)], ro := [], loops := [], joins := [] }
theorem E80_eq : ∀ x, afun E80 Try.f80 C80.ps C80.rs x = C80.fn x := fun x => by kernel_rfl
theorem S80 : Sound Try.prog 80 C80 := fun_sound (E := E80) ⟨good_T (by kernel_rfl), (good_cons S122 ⟨_, Try.func122, by kernel_rfl, by kernel_rfl⟩ good_nil), mixedOk⟩ Try.func80 rfl E80_eq
/-- internal/stringslite.HasPrefix -/
noncomputable def internal_stringslite_HasPrefix (p_s : Bytes) (p_prefix : Bytes) : Option (Bool) :=
  (bif (decide ((p_prefix.length : Int) ≤ (p_s.length : Int))) then
      (sub p_s 0 (p_prefix.length : Int)).bind fun l1 =>
      some (decide (l1 = p_prefix))
    else
      some false).bind fun c2 =>
  some c2
noncomputable def C151 : FnSpec := { ps := [.val .str, .val .str], rs := [.val .bool], fn := fun x => internal_stringslite_HasPrefix x.1 x.2 }
noncomputable def E151 : Env := { T := [(9, .str)], G := [], ro := [], loops := [], joins := [] }
theorem E151_eq : ∀ x, afun E151 Try.f151 C151.ps C151.rs x = C151.fn x := fun x => by kernel_rfl
theorem S151 : Sound Try.prog 151 C151 := fun_sound (E := E151) ⟨good_T (by kernel_rfl), good_nil, mixedOk⟩ Try.func151 rfl E151_eq
/-- strings.HasPrefix -/
noncomputable def strings_HasPrefix (p_s : Bytes) (p_prefix : Bytes) : Option (Bool) :=
  (internal_stringslite_HasPrefix p_s p_prefix).bind fun r1 =>
  some r1
noncomputable def C149 : FnSpec := { ps := [.val .str, .val .str], rs := [.val .bool], fn := fun x => strings_HasPrefix x.1 x.2 }
noncomputable def E149 : Env := { T := [], G := [(151, C151)], ro := [], loops := [], joins := [] }
theorem E149_eq : ∀ x, afun E149 Try.f149 C149.ps C149.rs x = C149.fn x := fun x => by kernel_rfl
theorem S149 : Sound Try.prog 149 C149 := fun_sound (E := E149) ⟨good_T (by kernel_rfl), (good_cons S151 ⟨_, Try.func151, by kernel_rfl, by kernel_rfl⟩ good_nil), mixedOk⟩ Try.func149 rfl E149_eq
/-- impl.spell -/
noncomputable def i_spell (p_b : GBook) (p_s : Bytes) : Option ((List Int) × Bool) :=
  bif decide (0 ≤ (w64 ((p_s.length : Int) + 1))) && decide ((w64 ((p_s.length : Int) + 1)) ≤ (w64 ((p_s.length : Int) + 1))) && decide ((w64 ((p_s.length : Int) + 1)) ≤ lim) then
    bif decide (0 ≤ (w64 ((p_s.length : Int) + 1))) && decide ((w64 ((p_s.length : Int) + 1)) ≤ (w64 ((p_s.length : Int) + 1))) && decide ((w64 ((p_s.length : Int) + 1)) ≤ lim) then
      (loopE (fun (st2 : (List Int) × (List Int) × Int) => (
          bif (decide (0 ≤ st2.2.2)) then
            bif decide (0 ≤ st2.2.2) && decide (st2.2.2 < (st2.1.length : Int)) then
              (loopE (fun (st4 : (List Int) × (List Int) × Int) => (
                  bif (decide (st4.2.2 < (p_b.1.length : Int))) then
                    (idx p_b.1 st4.2.2).bind fun e5 =>
                    (sub p_s st2.2.2 (p_s.length : Int)).bind fun l6 =>
                    (strings_HasPrefix l6 e5.1).bind fun r7 =>
                    bif (!r7) then
                      some (.inl (st4.1, st4.2.1, (w64 (st4.2.2 + 1))))
                    else
                      bif decide (0 ≤ (w64 (st2.2.2 + (e5.1.length : Int)))) && decide ((w64 (st2.2.2 + (e5.1.length : Int))) < (st4.1.length : Int)) then
                        (st4.1[(Int.toNat (w64 (st2.2.2 + (e5.1.length : Int))))]?).bind fun e8 =>
                        bif decide (0 ≤ st2.2.2) && decide (st2.2.2 < (st4.1.length : Int)) then
                          (st4.1[(Int.toNat st2.2.2)]?).bind fun e9 =>
                          bif (decide ((w64 (e8 + (e5.2.1.length : Int))) < e9)) then
                            bif decide (0 ≤ st2.2.2) && decide (st2.2.2 < (st4.1.length : Int)) then
                              bif decide (0 ≤ st2.2.2) && decide (st2.2.2 < (st4.2.1.length : Int)) then
                                some (.inl ((st4.1.set (Int.toNat st2.2.2) (w64 (e8 + (e5.2.1.length : Int)))), (st4.2.1.set (Int.toNat st2.2.2) st4.2.2), (w64 (st4.2.2 + 1))))
                              else
                                none
                            else
                              none
                          else
                            some (.inl (st4.1, st4.2.1, (w64 (st4.2.2 + 1))))
                        else
                          none
                      else
                        none
                  else
                    some (.inr (st4.1, st4.2.1)) : Option (((List Int) × (List Int) × Int) ⊕ (((List Int) × (List Int)))))) ((st2.1.set (Int.toNat st2.2.2) 1073741824), st2.2.1, 0)).bind fun o10 =>
              some (.inl (o10.1, o10.2, (w64 (st2.2.2 - 1))))
            else
              none
          else
            some (.inr (st2.1, st2.2.1)) : Option (((List Int) × (List Int) × Int) ⊕ (((List Int) × (List Int)))))) ((List.replicate (Int.toNat (w64 ((p_s.length : Int) + 1))) (0 : Int)), (List.replicate (Int.toNat (w64 ((p_s.length : Int) + 1))) (0 : Int)), (w64 ((p_s.length : Int) - 1)))).bind fun o11 =>
      bif decide (0 ≤ 0) && decide (0 < (o11.1.length : Int)) then
        (o11.1[(Int.toNat 0)]?).bind fun e12 =>
        bif (decide (1073741824 ≤ e12)) then
          some ([], false)
        else
          (loopE (fun (st14 : (List Int) × (List Int) × Int) => (
              bif (decide (st14.2.2 < (p_s.length : Int))) then
                bif decide (0 ≤ st14.2.2) && decide (st14.2.2 < (st14.1.length : Int)) then
                  (st14.1[(Int.toNat st14.2.2)]?).bind fun e15 =>
                  bif decide (List.length st14.2.1 + List.length [e15] ≤ lim) then
                    bif decide (0 ≤ st14.2.2) && decide (st14.2.2 < (st14.1.length : Int)) then
                      (st14.1[(Int.toNat st14.2.2)]?).bind fun e16 =>
                      (idx p_b.1 e16).bind fun e17 =>
                      some (.inl (st14.1, (st14.2.1 ++ [e15]), (w64 (st14.2.2 + (e17.1.length : Int)))))
                    else
                      none
                  else
                    none
                else
                  none
              else
                some (.inr st14.2.1) : Option (((List Int) × (List Int) × Int) ⊕ ((List Int))))) (o11.2, [], 0)).bind fun o18 =>
          some (o18, true)
      else
        none
    else
      none
  else
    none
noncomputable def C147 : FnSpec := { ps := [.val TGBook, .val .str], rs := [.own (.slice (.int .i64)), .val .bool], fn := fun x => i_spell x.1 x.2 }
noncomputable def E147 : Env := { T := [(3, (.int .i64)), (9, .str), (25, (.slice (.int .i64))), (29, (.slice TGPhrase)), (31, TGBook), (66, TGPhrase)], G := [(149, C149)], ro := [2], loops := [(4, { keep := [1, 2], live := [.own 6 [] 272 (.int .i64) true, .own 7 [] 336 (.int .i64) true, .tv 8 (.int .i64)], outs := [(.exit 0, [.own 6 [] 272 (.int .i64) true, .own 7 [] 336 (.int .i64) true])] }), (8, { keep := [1, 2, 8, 33, 34], live := [.own 6 [] 272 (.int .i64) true, .own 7 [] 336 (.int .i64) true, .tv 35 (.int .i64)], outs := [(.exit 2, [.own 6 [] 272 (.int .i64) true, .own 7 [] 336 (.int .i64) true])] }), (19, { keep := [1, 2], live := [.own 7 [] 336 (.int .i64) true, .own 12 [] 200012 (.int .i64) true, .tv 13 (.int .i64)], outs := [(.exit 4, [.own 12 [] 200012 (.int .i64) true])] })], joins := [] }
theorem E147_eq : ∀ x, afun E147 Try.f147 C147.ps C147.rs x = C147.fn x := fun x => by kernel_rfl
theorem S147 : Sound Try.prog 147 C147 := fun_sound (E := E147) ⟨good_T (by kernel_rfl), (good_cons S149 ⟨_, Try.func149, by kernel_rfl, by kernel_rfl⟩ good_nil), mixedOk⟩ Try.func147 rfl E147_eq
/-- impl.SpellMessage -/
noncomputable def i_SpellMessage (p_b : GBook) (p_s : Bytes) : Option ((List Int) × Bool) :=
  (i_IsBook p_b).bind fun r1 =>
  (bif (!r1) then
      some true
    else
      (i_isLetters p_s).bind fun r2 =>
      some (!r2)).bind fun c3 =>
  bif c3 then
    some ([], false)
  else
    (i_spell p_b p_s).bind fun r4 =>
    some (r4.1, r4.2)
noncomputable def C132 : FnSpec := { ps := [.val TGBook, .val .str], rs := [.own (.slice (.int .i64)), .val .bool], fn := fun x => i_SpellMessage x.1 x.2 }
noncomputable def E132 : Env := { T := [(31, TGBook)], G := [(58, C58), (80, C80), (147, C147)], ro := [2], loops := [], joins := [] }
theorem E132_eq : ∀ x, afun E132 Try.f132 C132.ps C132.rs x = C132.fn x := fun x => by kernel_rfl
theorem S132 : Sound Try.prog 132 C132 := fun_sound (E := E132) ⟨good_T (by kernel_rfl), (good_cons S58 ⟨_, Try.func58, by kernel_rfl, by kernel_rfl⟩ (good_cons S80 ⟨_, Try.func80, by kernel_rfl, by kernel_rfl⟩ (good_cons S147 ⟨_, Try.func147, by kernel_rfl, by kernel_rfl⟩ good_nil))), mixedOk⟩ Try.func132 rfl E132_eq
/-- impl.EncodeMessage -/
noncomputable def i_EncodeMessage (p_b : GBook) (p_s : Bytes) : Option ((List Int) × Bool) :=
  (i_SpellMessage p_b p_s).bind fun r1 =>
  (loopE (fun (st3 : (List Int) × (List Int) × Int) => (
      bif (decide (st3.2.2 < (r1.1.length : Int))) then
        bif decide (0 ≤ st3.2.2) && decide (st3.2.2 < (st3.2.1.length : Int)) then
          (st3.2.1[(Int.toNat st3.2.2)]?).bind fun e4 =>
          (idx p_b.1 e4).bind fun e5 =>
          bif decide (List.length st3.1 + List.length e5.2.1 ≤ lim) then
            some (.inl ((st3.1 ++ e5.2.1), st3.2.1, (w64 (st3.2.2 + 1))))
          else
            none
        else
          none
      else
        some (.inr st3.1) : Option (((List Int) × (List Int) × Int) ⊕ ((List Int))))) ([], r1.1, 0)).bind fun o6 =>
  some (o6, r1.2)
noncomputable def C104 : FnSpec := { ps := [.val TGBook, .val .str], rs := [.own (.slice (.int .i64)), .val .bool], fn := fun x => i_EncodeMessage x.1 x.2 }
noncomputable def E104 : Env := { T := [(3, (.int .i64)), (25, (.slice (.int .i64))), (29, (.slice TGPhrase)), (31, TGBook), (66, TGPhrase)], G := [(132, C132)], ro := [2], loops := [(4, { keep := [2, 7, 18], live := [.own 8 [] 200008 (.int .i64) true, .own 17 [] 224 (.int .i64) true, .tv 19 (.int .i64)], outs := [(.exit 0, [.own 8 [] 200008 (.int .i64) true])] })], joins := [] }
theorem E104_eq : ∀ x, afun E104 Try.f104 C104.ps C104.rs x = C104.fn x := fun x => by kernel_rfl
theorem S104 : Sound Try.prog 104 C104 := fun_sound (E := E104) ⟨good_T (by kernel_rfl), (good_cons S132 ⟨_, Try.func132, by kernel_rfl, by kernel_rfl⟩ good_nil), mixedOk⟩ Try.func104 rfl E104_eq
/-- impl.LeastSignals -/
noncomputable def i_LeastSignals (p_b : GBook) (p_s : Bytes) : Option (Int × Bool) :=
  (i_EncodeMessage p_b p_s).bind fun r1 =>
  some ((r1.1.length : Int), r1.2)
noncomputable def C53 : FnSpec := { ps := [.val TGBook, .val .str], rs := [.val (.int .i64), .val .bool], fn := fun x => i_LeastSignals x.1 x.2 }
noncomputable def E53 : Env := { T := [(25, (.slice (.int .i64))), (31, TGBook)], G := [(104, C104)], ro := [2], loops := [], joins := [] }
theorem E53_eq : ∀ x, afun E53 Try.f53 C53.ps C53.rs x = C53.fn x := fun x => by kernel_rfl
theorem S53 : Sound Try.prog 53 C53 := fun_sound (E := E53) ⟨good_T (by kernel_rfl), (good_cons S104 ⟨_, Try.func104, by kernel_rfl, by kernel_rfl⟩ good_nil), mixedOk⟩ Try.func53 rfl E53_eq
/-- cmp.isNaN[int] -/
noncomputable def cmp_isNaN_int (p_x : Int) : Option (Bool) :=
  some (!decide (p_x = p_x))
noncomputable def C120 : FnSpec := { ps := [.val (.int .i64)], rs := [.val .bool], fn := fun x => cmp_isNaN_int x }
noncomputable def E120 : Env := { T := [], G := [], ro := [], loops := [], joins := [] }
theorem E120_eq : ∀ x, afun E120 Try.f120 C120.ps C120.rs x = C120.fn x := fun x => by kernel_rfl
theorem S120 : Sound Try.prog 120 C120 := fun_sound (E := E120) ⟨good_T (by kernel_rfl), good_nil, mixedOk⟩ Try.func120 rfl E120_eq
/-- cmp.Compare[int] -/
noncomputable def cmp_Compare_int (p_x : Int) (p_y : Int) : Option (Int) :=
  (cmp_isNaN_int p_x).bind fun r1 =>
  (cmp_isNaN_int p_y).bind fun r2 =>
  bif r1 then
    bif r2 then
      some 0
    else
      some (-1)
  else
    bif r2 then
      some 1
    else
      bif (decide (p_x < p_y)) then
        some (-1)
      else
        bif (decide (p_y < p_x)) then
          some 1
        else
          some 0
noncomputable def C76 : FnSpec := { ps := [.val (.int .i64), .val (.int .i64)], rs := [.val (.int .i64)], fn := fun x => cmp_Compare_int x.1 x.2 }
noncomputable def E76 : Env := { T := [], G := [(120, C120)], ro := [], loops := [], joins := [] }
theorem E76_eq : ∀ x, afun E76 Try.f76 C76.ps C76.rs x = C76.fn x := fun x => by kernel_rfl
theorem S76 : Sound Try.prog 76 C76 := fun_sound (E := E76) ⟨good_T (by kernel_rfl), (good_cons S120 ⟨_, Try.func120, by kernel_rfl, by kernel_rfl⟩ good_nil), mixedOk⟩ Try.func76 rfl E76_eq
/-- impl.CompareBooks -/
noncomputable def i_CompareBooks (p_a : GBook) (p_b : GBook) (p_s : Bytes) : Option (Int × Bool) :=
  (i_LeastSignals p_a p_s).bind fun r1 =>
  (i_LeastSignals p_b p_s).bind fun r2 =>
  (bif (!r1.2) then
      some true
    else
      some (!r2.2)).bind fun c3 =>
  bif c3 then
    some (0, false)
  else
    (cmp_Compare_int r1.1 r2.1).bind fun r4 =>
    some (r4, true)
noncomputable def C36 : FnSpec := { ps := [.val TGBook, .val TGBook, .val .str], rs := [.val (.int .i64), .val .bool], fn := fun x => i_CompareBooks x.1 x.2.1 x.2.2 }
noncomputable def E36 : Env := { T := [(31, TGBook)], G := [(53, C53), (76, C76)], ro := [3, 4], loops := [], joins := [] }
theorem E36_eq : ∀ x, afun E36 Try.f36 C36.ps C36.rs x = C36.fn x := fun x => by kernel_rfl
theorem S36 : Sound Try.prog 36 C36 := fun_sound (E := E36) ⟨good_T (by kernel_rfl), (good_cons S53 ⟨_, Try.func53, by kernel_rfl, by kernel_rfl⟩ (good_cons S76 ⟨_, Try.func76, by kernel_rfl, by kernel_rfl⟩ good_nil)), mixedOk⟩ Try.func36 rfl E36_eq
/-- laws.FnExactCompareBooks -/
noncomputable def l_FnExactCompareBooks (p_aA : GBook) (p_aB : GBook) (p_aS : Bytes) : Option (Bool) :=
  bif (decide (1048576 < (p_aS.length : Int))) then
    some true
  else
    (l_szBook p_aA 1048576).bind fun r1 =>
    bif (decide (r1 < 0)) then
      some true
    else
      (l_szBook p_aB r1).bind fun r2 =>
      bif (decide (r2 < 0)) then
        some true
      else
        (l_toBook p_aA).bind fun r3 =>
        (l_toBook p_aB).bind fun r4 =>
        (s_CompareBooks (r3.1, ()) (r4.1, ()) p_aS).bind fun r5 =>
        (l_toBook p_aA).bind fun r6 =>
        (l_toBook p_aB).bind fun r7 =>
        (i_CompareBooks (r6.1, ()) (r7.1, ()) p_aS).bind fun r8 =>
        (bif (!decide (r8.1 = r5.1)) then
            some true
          else
            some (r8.2 != r5.2)).bind fun c9 =>
        bif c9 then
          some false
        else
          (l_toBook p_aA).bind fun r10 =>
          (l_eqBook (r6.1, ()) r10).bind fun r11 =>
          bif (!r11) then
            some false
          else
            (l_toBook p_aB).bind fun r12 =>
            (l_eqBook (r7.1, ()) r12).bind fun r13 =>
            bif (!r13) then
              some false
            else
              some true
noncomputable def C9 : FnSpec := { ps := [.val TGBook, .val TGBook, .val .str], rs := [.val .bool], fn := fun x => l_FnExactCompareBooks x.1 x.2.1 x.2.2 }
noncomputable def E9 : Env := { T := [(4, .bool), (9, .str), (24, TGBook), (31, TGBook)], G := [(15, C15), (17, C17), (20, C20), (35, C35), (36, C36)], ro := [3, 4], loops := [], joins := [] }
theorem E9_eq : ∀ x, afun E9 Try.f9 C9.ps C9.rs x = C9.fn x := fun x => by kernel_rfl
theorem S9 : Sound Try.prog 9 C9 := fun_sound (E := E9) ⟨good_T (by kernel_rfl), (good_cons S15 ⟨_, Try.func15, by kernel_rfl, by kernel_rfl⟩ (good_cons S17 ⟨_, Try.func17, by kernel_rfl, by kernel_rfl⟩ (good_cons S20 ⟨_, Try.func20, by kernel_rfl, by kernel_rfl⟩ (good_cons S35 ⟨_, Try.func35, by kernel_rfl, by kernel_rfl⟩ (good_cons S36 ⟨_, Try.func36, by kernel_rfl, by kernel_rfl⟩ good_nil))))), mixedOk⟩ Try.func9 rfl E9_eq
/-- impl.ShowSeconds -/
noncomputable def i_ShowSeconds (p_b : GBook) (p_s : Bytes) (p_seconds : Int) : Option (Int × Bool) :=
  (i_LeastSignals p_b p_s).bind fun r1 =>
  (bif (!r1.2) then
      some true
    else
      (i_within p_seconds 1 60).bind fun r2 =>
      some (!r2)).bind fun c3 =>
  bif c3 then
    some (0, false)
  else
    some ((w64 ((w64 (r1.1 + 1)) * p_seconds)), true)
noncomputable def C49 : FnSpec := { ps := [.val TGBook, .val .str, .val (.int .i64)], rs := [.val (.int .i64), .val .bool], fn := fun x => i_ShowSeconds x.1 x.2.1 x.2.2 }
noncomputable def E49 : Env := { T := [(31, TGBook)], G := [(53, C53), (97, C97)], ro := [3], loops := [], joins := [] }
theorem E49_eq : ∀ x, afun E49 Try.f49 C49.ps C49.rs x = C49.fn x := fun x => by kernel_rfl
theorem S49 : Sound Try.prog 49 C49 := fun_sound (E := E49) ⟨good_T (by kernel_rfl), (good_cons S53 ⟨_, Try.func53, by kernel_rfl, by kernel_rfl⟩ (good_cons S97 ⟨_, Try.func97, by kernel_rfl, by kernel_rfl⟩ good_nil)), mixedOk⟩ Try.func49 rfl E49_eq
/-- spec.ShowSeconds -/
noncomputable def s_ShowSeconds (p_b : GBook) (p_s : Bytes) (p_seconds : Int) : Option (Int × Bool) :=
  (s_LeastSignals p_b p_s).bind fun r1 =>
  (bif (!r1.2) then
      some true
    else
      (s_l1In p_seconds 1 60).bind fun r2 =>
      some (!r2)).bind fun c3 =>
  bif c3 then
    some (0, false)
  else
    some ((w64 ((w64 (r1.1 + 1)) * p_seconds)), true)
noncomputable def C50 : FnSpec := { ps := [.val TGBook, .val .str, .val (.int .i64)], rs := [.val (.int .i64), .val .bool], fn := fun x => s_ShowSeconds x.1 x.2.1 x.2.2 }
noncomputable def E50 : Env := { T := [(31, TGBook)], G := [(98, C98), (99, C99)], ro := [3], loops := [], joins := [] }
theorem E50_eq : ∀ x, afun E50 Try.f50 C50.ps C50.rs x = C50.fn x := fun x => by kernel_rfl
theorem S50 : Sound Try.prog 50 C50 := fun_sound (E := E50) ⟨good_T (by kernel_rfl), (good_cons S98 ⟨_, Try.func98, by kernel_rfl, by kernel_rfl⟩ (good_cons S99 ⟨_, Try.func99, by kernel_rfl, by kernel_rfl⟩ good_nil)), mixedOk⟩ Try.func50 rfl E50_eq
/-- laws.FnExactShowSeconds -/
noncomputable def l_FnExactShowSeconds (p_aB : GBook) (p_aS : Bytes) (p_aSeconds : Int) : Option (Bool) :=
  bif (decide (1048576 < (p_aS.length : Int))) then
    some true
  else
    (l_szBook p_aB 1048576).bind fun r1 =>
    bif (decide (r1 < 0)) then
      some true
    else
      (l_toBook p_aB).bind fun r2 =>
      (s_ShowSeconds (r2.1, ()) p_aS p_aSeconds).bind fun r3 =>
      (l_toBook p_aB).bind fun r4 =>
      (i_ShowSeconds (r4.1, ()) p_aS p_aSeconds).bind fun r5 =>
      (bif (!decide (r5.1 = r3.1)) then
          some true
        else
          some (r5.2 != r3.2)).bind fun c6 =>
      bif c6 then
        some false
      else
        (l_toBook p_aB).bind fun r7 =>
        (l_eqBook (r4.1, ()) (r7.1, ())).bind fun r8 =>
        bif (!r8) then
          some false
        else
          some true
noncomputable def C14 : FnSpec := { ps := [.val TGBook, .val .str, .val (.int .i64)], rs := [.val .bool], fn := fun x => l_FnExactShowSeconds x.1 x.2.1 x.2.2 }
noncomputable def E14 : Env := { T := [(4, .bool), (9, .str), (24, TGBook), (31, TGBook)], G := [(15, C15), (17, C17), (20, C20), (49, C49), (50, C50)], ro := [3], loops := [], joins := [] }
theorem E14_eq : ∀ x, afun E14 Try.f14 C14.ps C14.rs x = C14.fn x := fun x => by kernel_rfl
theorem S14 : Sound Try.prog 14 C14 := fun_sound (E := E14) ⟨good_T (by kernel_rfl), (good_cons S15 ⟨_, Try.func15, by kernel_rfl, by kernel_rfl⟩ (good_cons S17 ⟨_, Try.func17, by kernel_rfl, by kernel_rfl⟩ (good_cons S20 ⟨_, Try.func20, by kernel_rfl, by kernel_rfl⟩ (good_cons S49 ⟨_, Try.func49, by kernel_rfl, by kernel_rfl⟩ (good_cons S50 ⟨_, Try.func50, by kernel_rfl, by kernel_rfl⟩ good_nil))))), mixedOk⟩ Try.func14 rfl E14_eq
/-- spec.sgClosed -/
noncomputable def s_sgClosed (p_n : Int) (p_i : Int) : Option (Bool) :=
  bif decide (0 ≤ (IntKind.u64.wrap p_i)) then
    some (decide ((bitsI .and .i64 (shiftI .shr .i64 p_n (IntKind.u64.wrap p_i)) 1) = 1))
  else
    none
noncomputable def C146 : FnSpec := { ps := [.val (.int .i64), .val (.int .i64)], rs := [.val .bool], fn := fun x => s_sgClosed x.1 x.2 }
noncomputable def E146 : Env := { T := [(3, (.int .i64)), (126, (.int .u64))], G := [], ro := [], loops := [], joins := [] }
theorem E146_eq : ∀ x, afun E146 Try.f146 C146.ps C146.rs x = C146.fn x := fun x => by kernel_rfl
theorem S146 : Sound Try.prog 146 C146 := fun_sound (E := E146) ⟨good_T (by kernel_rfl), good_nil, mixedOk⟩ Try.func146 rfl E146_eq
/-- spec.sgShutters -/
noncomputable def s_sgShutters (p_n : Int) : Option ((List Int)) :=
  (loopE (fun (st2 : (List Int) × Int) => (
      bif (decide (st2.2 < 6)) then
        (s_sgClosed p_n st2.2).bind fun r3 =>
        bif r3 then
          bif decide (List.length st2.1 + List.length [st2.2] ≤ lim) then
            some (.inl ((st2.1 ++ [st2.2]), (w64 (st2.2 + 1))))
          else
            none
        else
          some (.inl (st2.1, (w64 (st2.2 + 1))))
      else
        some (.inr st2.1) : Option (((List Int) × Int) ⊕ ((List Int))))) ([], 0)).bind fun o4 =>
  some o4
noncomputable def C131 : FnSpec := { ps := [.val (.int .i64)], rs := [.own (.slice (.int .i64))], fn := fun x => s_sgShutters x }
noncomputable def E131 : Env := { T := [(25, (.slice (.int .i64)))], G := [(146, C146)], ro := [], loops := [(3, { keep := [0], live := [.own 3 [] 200003 (.int .i64) true, .tv 4 (.int .i64)], outs := [(.exit 0, [.own 3 [] 200003 (.int .i64) true])] })], joins := [] }
theorem E131_eq : ∀ x, afun E131 Try.f131 C131.ps C131.rs x = C131.fn x := fun x => by kernel_rfl
theorem S131 : Sound Try.prog 131 C131 := fun_sound (E := E131) ⟨good_T (by kernel_rfl), (good_cons S146 ⟨_, Try.func146, by kernel_rfl, by kernel_rfl⟩ good_nil), mixedOk⟩ Try.func131 rfl E131_eq
/-- spec.sgDistance -/
noncomputable def s_sgDistance (p_a : Int) (p_b : Int) : Option (Int) :=
  (s_sgShutters (bitsI .xor .i64 p_a p_b)).bind fun r1 =>
  some (r1.length : Int)
noncomputable def C103 : FnSpec := { ps := [.val (.int .i64), .val (.int .i64)], rs := [.val (.int .i64)], fn := fun x => s_sgDistance x.1 x.2 }
noncomputable def E103 : Env := { T := [(25, (.slice (.int .i64)))], G := [(131, C131)], ro := [], loops := [], joins := [] }
theorem E103_eq : ∀ x, afun E103 Try.f103 C103.ps C103.rs x = C103.fn x := fun x => by kernel_rfl
theorem S103 : Sound Try.prog 103 C103 := fun_sound (E := E103) ⟨good_T (by kernel_rfl), (good_cons S131 ⟨_, Try.func131, by kernel_rfl, by kernel_rfl⟩ good_nil), mixedOk⟩ Try.func103 rfl E103_eq
/-- spec.msDistance -/
noncomputable def s_msDistance (p_x : GPhrase) (p_y : GPhrase) : Option (Int) :=
  bif (!decide ((p_x.2.1.length : Int) = (p_y.2.1.length : Int))) then
    some (-1)
  else
    (loopE (fun (st2 : Int × Int) => (
        bif (decide (st2.2 < (p_x.2.1.length : Int))) then
          (idx p_x.2.1 st2.2).bind fun e3 =>
          (idx p_y.2.1 st2.2).bind fun e4 =>
          (s_sgDistance e3 e4).bind fun r5 =>
          some (.inl ((w64 (st2.1 + r5)), (w64 (st2.2 + 1))))
        else
          some (.inr st2.1) : Option ((Int × Int) ⊕ (Int)))) (0, 0)).bind fun o6 =>
    some o6
noncomputable def C118 : FnSpec := { ps := [.val TGPhrase, .val TGPhrase], rs := [.val (.int .i64)], fn := fun x => s_msDistance x.1 x.2 }
noncomputable def E118 : Env := { T := [(3, (.int .i64)), (25, (.slice (.int .i64))), (66, TGPhrase)], G := [(103, C103)], ro := [2, 3], loops := [(5, { keep := [3, 16, 17], live := [.tv 5 (.int .i64), .tv 18 (.int .i64)], outs := [(.exit 0, [.tv 5 (.int .i64)])] })], joins := [] }
theorem E118_eq : ∀ x, afun E118 Try.f118 C118.ps C118.rs x = C118.fn x := fun x => by kernel_rfl
theorem S118 : Sound Try.prog 118 C118 := fun_sound (E := E118) ⟨good_T (by kernel_rfl), (good_cons S103 ⟨_, Try.func103, by kernel_rfl, by kernel_rfl⟩ good_nil), mixedOk⟩ Try.func118 rfl E118_eq
/-- spec.msClosest -/
noncomputable def s_msClosest (p_b : GBook) : Option (Int × Int × Int) :=
  (loopE (fun (st2 : Int × Int × Int × Int) => (
      bif (decide (st2.2.2.2 < (p_b.1.length : Int))) then
        (idx p_b.1 st2.2.2.2).bind fun e3 =>
        (loopE (fun (st5 : Int × Int × Int × Bytes × (List Int) × Int) => (
            bif (decide (st5.2.2.2.2.2 < (p_b.1.length : Int))) then
              (idx p_b.1 st5.2.2.2.2.2).bind fun e6 =>
              (s_msDistance (st5.2.2.2.1, st5.2.2.2.2.1, ()) e6).bind fun r7 =>
              (bif (decide (0 ≤ r7)) then
                  (bif (decide (st5.2.2.1 < 0)) then
                      some true
                    else
                      some (decide (r7 < st5.2.2.1))).bind fun c8 =>
                  some c8
                else
                  some false).bind fun c9 =>
              bif c9 then
                some (.inl (st2.2.2.2, st5.2.2.2.2.2, r7, st5.2.2.2.1, st5.2.2.2.2.1, (w64 (st5.2.2.2.2.2 + 1))))
              else
                some (.inl (st5.1, st5.2.1, st5.2.2.1, st5.2.2.2.1, st5.2.2.2.2.1, (w64 (st5.2.2.2.2.2 + 1))))
            else
              some (.inr (st5.1, st5.2.1, st5.2.2.1)) : Option ((Int × Int × Int × Bytes × (List Int) × Int) ⊕ ((Int × Int × Int))))) (st2.1, st2.2.1, st2.2.2.1, e3.1, e3.2.1, (w64 (st2.2.2.2 + 1)))).bind fun o10 =>
        some (.inl (o10.1, o10.2.1, o10.2.2, (w64 (st2.2.2.2 + 1))))
      else
        some (.inr (st2.1, st2.2.1, st2.2.2.1)) : Option ((Int × Int × Int × Int) ⊕ ((Int × Int × Int))))) (0, 0, (-1), 0)).bind fun o11 =>
  some (o11.1, o11.2.1, o11.2.2)
noncomputable def C72 : FnSpec := { ps := [.val TGBook], rs := [.val (.int .i64), .val (.int .i64), .val (.int .i64)], fn := fun x => s_msClosest x }
noncomputable def E72 : Env := { T := [(29, (.slice TGPhrase)), (31, TGBook), (66, TGPhrase)], G := [(118, C118)], ro := [1], loops := [(3, { keep := [1, 13, 14], live := [.tv 5 (.int .i64), .tv 6 (.int .i64), .tv 7 (.int .i64), .tv 15 (.int .i64)], outs := [(.exit 0, [.tv 5 (.int .i64), .tv 6 (.int .i64), .tv 7 (.int .i64)])] }), (6, { keep := [1, 8, 13, 14, 15], live := [.tv 5 (.int .i64), .tv 6 (.int .i64), .tv 7 (.int .i64), .bx 9 144 [.pv .str, .pv (.slice (.int .i64))], .tv 10 (.int .i64)], outs := [(.exit 2, [.tv 5 (.int .i64), .tv 6 (.int .i64), .tv 7 (.int .i64)])] })], joins := [] }
theorem E72_eq : ∀ x, afun E72 Try.f72 C72.ps C72.rs x = C72.fn x := fun x => by kernel_rfl
theorem S72 : Sound Try.prog 72 C72 := fun_sound (E := E72) ⟨good_T (by kernel_rfl), (good_cons S118 ⟨_, Try.func118, by kernel_rfl, by kernel_rfl⟩ good_nil), mixedOk⟩ Try.func72 rfl E72_eq
/-- spec.ClosestPhrases -/
noncomputable def s_ClosestPhrases (p_b : GBook) : Option (Int × Int × Bool) :=
  (s_bkGood p_b).bind fun r1 =>
  bif (!r1) then
    some (0, 0, false)
  else
    (s_msClosest p_b).bind fun r2 =>
    some (r2.1, r2.2.1, (decide (0 ≤ r2.2.2)))
noncomputable def C29 : FnSpec := { ps := [.val TGBook], rs := [.val (.int .i64), .val (.int .i64), .val .bool], fn := fun x => s_ClosestPhrases x }
noncomputable def E29 : Env := { T := [(31, TGBook)], G := [(66, C66), (72, C72)], ro := [1], loops := [], joins := [] }
theorem E29_eq : ∀ x, afun E29 Try.f29 C29.ps C29.rs x = C29.fn x := fun x => by kernel_rfl
theorem S29 : Sound Try.prog 29 C29 := fun_sound (E := E29) ⟨good_T (by kernel_rfl), (good_cons S66 ⟨_, Try.func66, by kernel_rfl, by kernel_rfl⟩ (good_cons S72 ⟨_, Try.func72, by kernel_rfl, by kernel_rfl⟩ good_nil)), mixedOk⟩ Try.func29 rfl E29_eq
/-- math/bits.OnesCount8 -/
noncomputable def math_bits_OnesCount8 (p_x : Int) : Option (Int) :=
  (idx ([0, 1, 1, 2, 1, 2, 2, 3, 1, 2, 2, 3, 2, 3, 3, 4, 1, 2, 2, 3, 2, 3, 3, 4, 2, 3, 3, 4, 3, 4, 4, 5, 1, 2, 2, 3, 2, 3, 3, 4, 2, 3, 3, 4, 3, 4, 4, 5, 2, 3, 3, 4, 3, 4, 4, 5, 3, 4, 4, 5, 4, 5, 5, 6, 1, 2, 2, 3, 2, 3, 3, 4, 2, 3, 3, 4, 3, 4, 4, 5, 2, 3, 3, 4, 3, 4, 4, 5, 3, 4, 4, 5, 4, 5, 5, 6, 2, 3, 3, 4, 3, 4, 4, 5, 3, 4, 4, 5, 4, 5, 5, 6, 3, 4, 4, 5, 4, 5, 5, 6, 4, 5, 5, 6, 5, 6, 6, 7, 1, 2, 2, 3, 2, 3, 3, 4, 2, 3, 3, 4, 3, 4, 4, 5, 2, 3, 3, 4, 3, 4, 4, 5, 3, 4, 4, 5, 4, 5, 5, 6, 2, 3, 3, 4, 3, 4, 4, 5, 3, 4, 4, 5, 4, 5, 5, 6, 3, 4, 4, 5, 4, 5, 5, 6, 4, 5, 5, 6, 5, 6, 6, 7, 2, 3, 3, 4, 3, 4, 4, 5, 3, 4, 4, 5, 4, 5, 5, 6, 3, 4, 4, 5, 4, 5, 5, 6, 4, 5, 5, 6, 5, 6, 6, 7, 3, 4, 4, 5, 4, 5, 5, 6, 4, 5, 5, 6, 5, 6, 6, 7, 4, 5, 5, 6, 5, 6, 6, 7, 5, 6, 6, 7, 6, 7, 7, 8] : Bytes) p_x).bind fun b1 =>
  some (w64 (b1.toNat : Int))
noncomputable def C130 : FnSpec := { ps := [.val (.int .u8)], rs := [.val (.int .i64)], fn := fun x => math_bits_OnesCount8 x }
noncomputable def E130 : Env := { T := [(3, (.int .i64)), (5, (.int .u8)), (9, .str)], G := [], ro := [], loops := [], joins := [] }
theorem E130_eq : ∀ x, afun E130 Try.f130 C130.ps C130.rs x = C130.fn x := fun x => by kernel_rfl
theorem S130 : Sound Try.prog 130 C130 := fun_sound (E := E130) ⟨good_T (by kernel_rfl), good_nil, mixedOk⟩ Try.func130 rfl E130_eq
/-- impl.distanceOf -/
noncomputable def i_distanceOf (p_a : Int) (p_b : Int) : Option (Int) :=
  (math_bits_OnesCount8 (IntKind.u8.wrap (bitsI .xor .i64 p_a p_b))).bind fun r1 =>
  some r1
noncomputable def C101 : FnSpec := { ps := [.val (.int .i64), .val (.int .i64)], rs := [.val (.int .i64)], fn := fun x => i_distanceOf x.1 x.2 }
noncomputable def E101 : Env := { T := [(3, (.int .i64)), (5, (.int .u8))], G := [(130, C130)], ro := [], loops := [], joins := [] }
theorem E101_eq : ∀ x, afun E101 Try.f101 C101.ps C101.rs x = C101.fn x := fun x => by kernel_rfl
theorem S101 : Sound Try.prog 101 C101 := fun_sound (E := E101) ⟨good_T (by kernel_rfl), (good_cons S130 ⟨_, Try.func130, by kernel_rfl, by kernel_rfl⟩ good_nil), mixedOk⟩ Try.func101 rfl E101_eq
/-- impl.phraseDistance -/
noncomputable def i_phraseDistance (p_x : GPhrase) (p_y : GPhrase) : Option (Int) :=
  (loopE (fun (st2 : Int × Int) => (
      bif (decide (st2.2 < (p_x.2.1.length : Int))) then
        (idx p_x.2.1 st2.2).bind fun e3 =>
        (idx p_y.2.1 st2.2).bind fun e4 =>
        (i_distanceOf e3 e4).bind fun r5 =>
        some (.inl ((w64 (st2.1 + r5)), (w64 (st2.2 + 1))))
      else
        some (.inr st2.1) : Option ((Int × Int) ⊕ (Int)))) (0, 0)).bind fun o6 =>
  some o6
noncomputable def C74 : FnSpec := { ps := [.val TGPhrase, .val TGPhrase], rs := [.val (.int .i64)], fn := fun x => i_phraseDistance x.1 x.2 }
noncomputable def E74 : Env := { T := [(3, (.int .i64)), (25, (.slice (.int .i64))), (66, TGPhrase)], G := [(101, C101)], ro := [2, 3], loops := [(3, { keep := [3, 9, 10], live := [.tv 5 (.int .i64), .tv 11 (.int .i64)], outs := [(.exit 0, [.tv 5 (.int .i64)])] })], joins := [] }
theorem E74_eq : ∀ x, afun E74 Try.f74 C74.ps C74.rs x = C74.fn x := fun x => by kernel_rfl
theorem S74 : Sound Try.prog 74 C74 := fun_sound (E := E74) ⟨good_T (by kernel_rfl), (good_cons S101 ⟨_, Try.func101, by kernel_rfl, by kernel_rfl⟩ good_nil), mixedOk⟩ Try.func74 rfl E74_eq
/-- impl.closestPhrases -/
noncomputable def i_closestPhrases (p_b : GBook) : Option (Int × Int × Bool) :=
  (loopE (fun (st2 : Int × Int × Int × Int) => (
      bif (decide (st2.2.2.2 < (p_b.1.length : Int))) then
        (idx p_b.1 st2.2.2.2).bind fun e3 =>
        (loopE (fun (st5 : Int × Int × Int × Bytes × (List Int) × Int) => (
            bif (decide (st5.2.2.2.2.2 < (p_b.1.length : Int))) then
              (idx p_b.1 st5.2.2.2.2.2).bind fun e6 =>
              bif (!decide ((st5.2.2.2.2.1.length : Int) = (e6.2.1.length : Int))) then
                some (.inl (st5.1, st5.2.1, st5.2.2.1, st5.2.2.2.1, st5.2.2.2.2.1, (w64 (st5.2.2.2.2.2 + 1))))
              else
                (i_phraseDistance (st5.2.2.2.1, st5.2.2.2.2.1, ()) e6).bind fun r7 =>
                (bif (decide (st5.2.2.1 < 0)) then
                    some true
                  else
                    some (decide (r7 < st5.2.2.1))).bind fun c8 =>
                bif c8 then
                  some (.inl (st2.2.2.2, st5.2.2.2.2.2, r7, st5.2.2.2.1, st5.2.2.2.2.1, (w64 (st5.2.2.2.2.2 + 1))))
                else
                  some (.inl (st5.1, st5.2.1, st5.2.2.1, st5.2.2.2.1, st5.2.2.2.2.1, (w64 (st5.2.2.2.2.2 + 1))))
            else
              some (.inr (st5.1, st5.2.1, st5.2.2.1)) : Option ((Int × Int × Int × Bytes × (List Int) × Int) ⊕ ((Int × Int × Int))))) (st2.1, st2.2.1, st2.2.2.1, e3.1, e3.2.1, (w64 (st2.2.2.2 + 1)))).bind fun o9 =>
        some (.inl (o9.1, o9.2.1, o9.2.2, (w64 (st2.2.2.2 + 1))))
      else
        some (.inr (st2.1, st2.2.1, st2.2.2.1)) : Option ((Int × Int × Int × Int) ⊕ ((Int × Int × Int))))) (0, 0, (-1), 0)).bind fun o10 =>
  some (o10.1, o10.2.1, (decide (0 ≤ o10.2.2)))
noncomputable def C73 : FnSpec := { ps := [.val TGBook], rs := [.val (.int .i64), .val (.int .i64), .val .bool], fn := fun x => i_closestPhrases x }
noncomputable def E73 : Env := { T := [(25, (.slice (.int .i64))), (29, (.slice TGPhrase)), (31, TGBook), (66, TGPhrase)], G := [(74, C74)], ro := [1], loops := [(3, { keep := [1, 14, 15], live := [.tv 5 (.int .i64), .tv 6 (.int .i64), .tv 7 (.int .i64), .tv 16 (.int .i64)], outs := [(.exit 0, [.tv 5 (.int .i64), .tv 6 (.int .i64), .tv 7 (.int .i64)])] }), (6, { keep := [1, 8, 14, 15, 16], live := [.tv 5 (.int .i64), .tv 6 (.int .i64), .tv 7 (.int .i64), .bx 9 144 [.pv .str, .pv (.slice (.int .i64))], .tv 10 (.int .i64)], outs := [(.exit 2, [.tv 5 (.int .i64), .tv 6 (.int .i64), .tv 7 (.int .i64)])] })], joins := [] }
theorem E73_eq : ∀ x, afun E73 Try.f73 C73.ps C73.rs x = C73.fn x := fun x => by kernel_rfl
theorem S73 : Sound Try.prog 73 C73 := fun_sound (E := E73) ⟨good_T (by kernel_rfl), (good_cons S74 ⟨_, Try.func74, by kernel_rfl, by kernel_rfl⟩ good_nil), mixedOk⟩ Try.func73 rfl E73_eq
/-- impl.ClosestPhrases -/
noncomputable def i_ClosestPhrases (p_b : GBook) : Option (Int × Int × Bool) :=
  (i_IsBook p_b).bind fun r1 =>
  bif (!r1) then
    some (0, 0, false)
  else
    (i_closestPhrases p_b).bind fun r2 =>
    some (r2.1, r2.2.1, r2.2.2)
noncomputable def C30 : FnSpec := { ps := [.val TGBook], rs := [.val (.int .i64), .val (.int .i64), .val .bool], fn := fun x => i_ClosestPhrases x }
noncomputable def E30 : Env := { T := [(31, TGBook)], G := [(58, C58), (73, C73)], ro := [1], loops := [], joins := [] }
theorem E30_eq : ∀ x, afun E30 Try.f30 C30.ps C30.rs x = C30.fn x := fun x => by kernel_rfl
theorem S30 : Sound Try.prog 30 C30 := fun_sound (E := E30) ⟨good_T (by kernel_rfl), (good_cons S58 ⟨_, Try.func58, by kernel_rfl, by kernel_rfl⟩ (good_cons S73 ⟨_, Try.func73, by kernel_rfl, by kernel_rfl⟩ good_nil)), mixedOk⟩ Try.func30 rfl E30_eq
/-- laws.FnExactClosestPhrases -/
noncomputable def l_FnExactClosestPhrases (p_aB : GBook) : Option (Bool) :=
  (l_szBook p_aB 1048576).bind fun r1 =>
  bif (decide (r1 < 0)) then
    some true
  else
    (l_toBook p_aB).bind fun r2 =>
    (s_ClosestPhrases (r2.1, ())).bind fun r3 =>
    (l_toBook p_aB).bind fun r4 =>
    (i_ClosestPhrases (r4.1, ())).bind fun r5 =>
    (bif (!decide (r5.1 = r3.1)) then
        some true
      else
        some (!decide (r5.2.1 = r3.2.1))).bind fun c6 =>
    (bif c6 then
        some true
      else
        some (r5.2.2 != r3.2.2)).bind fun c7 =>
    bif c7 then
      some false
    else
      (l_toBook p_aB).bind fun r8 =>
      (l_eqBook (r4.1, ()) (r8.1, ())).bind fun r9 =>
      bif (!r9) then
        some false
      else
        some true
noncomputable def C6 : FnSpec := { ps := [.val TGBook], rs := [.val .bool], fn := fun x => l_FnExactClosestPhrases x }
noncomputable def E6 : Env := { T := [(4, .bool), (24, TGBook), (31, TGBook)], G := [(15, C15), (17, C17), (20, C20), (29, C29), (30, C30)], ro := [1], loops := [], joins := [] }
theorem E6_eq : ∀ x, afun E6 Try.f6 C6.ps C6.rs x = C6.fn x := fun x => by kernel_rfl
theorem S6 : Sound Try.prog 6 C6 := fun_sound (E := E6) ⟨good_T (by kernel_rfl), (good_cons S15 ⟨_, Try.func15, by kernel_rfl, by kernel_rfl⟩ (good_cons S17 ⟨_, Try.func17, by kernel_rfl, by kernel_rfl⟩ (good_cons S20 ⟨_, Try.func20, by kernel_rfl, by kernel_rfl⟩ (good_cons S29 ⟨_, Try.func29, by kernel_rfl, by kernel_rfl⟩ (good_cons S30 ⟨_, Try.func30, by kernel_rfl, by kernel_rfl⟩ good_nil))))), mixedOk⟩ Try.func6 rfl E6_eq
/-- spec.LeastDistance -/
noncomputable def s_LeastDistance (p_b : GBook) : Option (Int × Bool) :=
  (s_bkGood p_b).bind fun r1 =>
  bif (!r1) then
    some (0, false)
  else
    (s_msClosest p_b).bind fun r2 =>
    bif (decide (r2.2.2 < 0)) then
      some (0, false)
    else
      some (r2.2.2, true)
noncomputable def C31 : FnSpec := { ps := [.val TGBook], rs := [.val (.int .i64), .val .bool], fn := fun x => s_LeastDistance x }
noncomputable def E31 : Env := { T := [(31, TGBook)], G := [(66, C66), (72, C72)], ro := [1], loops := [], joins := [] }
theorem E31_eq : ∀ x, afun E31 Try.f31 C31.ps C31.rs x = C31.fn x := fun x => by kernel_rfl
theorem S31 : Sound Try.prog 31 C31 := fun_sound (E := E31) ⟨good_T (by kernel_rfl), (good_cons S66 ⟨_, Try.func66, by kernel_rfl, by kernel_rfl⟩ (good_cons S72 ⟨_, Try.func72, by kernel_rfl, by kernel_rfl⟩ good_nil)), mixedOk⟩ Try.func31 rfl E31_eq
/-- impl.LeastDistance -/
noncomputable def i_LeastDistance (p_b : GBook) : Option (Int × Bool) :=
  (i_IsBook p_b).bind fun r1 =>
  bif (!r1) then
    some (0, false)
  else
    (i_closestPhrases p_b).bind fun r2 =>
    bif (!r2.2.2) then
      some (0, false)
    else
      (idx p_b.1 r2.1).bind fun e3 =>
      (idx p_b.1 r2.2.1).bind fun e4 =>
      (i_phraseDistance e3 e4).bind fun r5 =>
      some (r5, true)
noncomputable def C32 : FnSpec := { ps := [.val TGBook], rs := [.val (.int .i64), .val .bool], fn := fun x => i_LeastDistance x }
noncomputable def E32 : Env := { T := [(29, (.slice TGPhrase)), (31, TGBook), (66, TGPhrase)], G := [(58, C58), (73, C73), (74, C74)], ro := [1], loops := [], joins := [] }
theorem E32_eq : ∀ x, afun E32 Try.f32 C32.ps C32.rs x = C32.fn x := fun x => by kernel_rfl
theorem S32 : Sound Try.prog 32 C32 := fun_sound (E := E32) ⟨good_T (by kernel_rfl), (good_cons S58 ⟨_, Try.func58, by kernel_rfl, by kernel_rfl⟩ (good_cons S73 ⟨_, Try.func73, by kernel_rfl, by kernel_rfl⟩ (good_cons S74 ⟨_, Try.func74, by kernel_rfl, by kernel_rfl⟩ good_nil))), mixedOk⟩ Try.func32 rfl E32_eq
/-- laws.FnExactLeastDistance -/
noncomputable def l_FnExactLeastDistance (p_aB : GBook) : Option (Bool) :=
  (l_szBook p_aB 1048576).bind fun r1 =>
  bif (decide (r1 < 0)) then
    some true
  else
    (l_toBook p_aB).bind fun r2 =>
    (s_LeastDistance (r2.1, ())).bind fun r3 =>
    (l_toBook p_aB).bind fun r4 =>
    (i_LeastDistance (r4.1, ())).bind fun r5 =>
    (bif (!decide (r5.1 = r3.1)) then
        some true
      else
        some (r5.2 != r3.2)).bind fun c6 =>
    bif c6 then
      some false
    else
      (l_toBook p_aB).bind fun r7 =>
      (l_eqBook (r4.1, ()) (r7.1, ())).bind fun r8 =>
      bif (!r8) then
        some false
      else
        some true
noncomputable def C7 : FnSpec := { ps := [.val TGBook], rs := [.val .bool], fn := fun x => l_FnExactLeastDistance x }
noncomputable def E7 : Env := { T := [(4, .bool), (24, TGBook), (31, TGBook)], G := [(15, C15), (17, C17), (20, C20), (31, C31), (32, C32)], ro := [1], loops := [], joins := [] }
theorem E7_eq : ∀ x, afun E7 Try.f7 C7.ps C7.rs x = C7.fn x := fun x => by kernel_rfl
theorem S7 : Sound Try.prog 7 C7 := fun_sound (E := E7) ⟨good_T (by kernel_rfl), (good_cons S15 ⟨_, Try.func15, by kernel_rfl, by kernel_rfl⟩ (good_cons S17 ⟨_, Try.func17, by kernel_rfl, by kernel_rfl⟩ (good_cons S20 ⟨_, Try.func20, by kernel_rfl, by kernel_rfl⟩ (good_cons S31 ⟨_, Try.func31, by kernel_rfl, by kernel_rfl⟩ (good_cons S32 ⟨_, Try.func32, by kernel_rfl, by kernel_rfl⟩ good_nil))))), mixedOk⟩ Try.func7 rfl E7_eq
/-- spec.msUses -/
noncomputable def s_msUses (p_b : GBook) : Option ((List Int)) :=
  bif decide (0 ≤ 60) && decide (60 ≤ 60) && decide (60 ≤ lim) then
    (loopE (fun (st2 : (List Int) × Int) => (
        bif (decide (st2.2 < (p_b.1.length : Int))) then
          (idx p_b.1 st2.2).bind fun e3 =>
          (loopE (fun (st5 : (List Int) × Int) => (
              bif (decide (st5.2 < (e3.2.1.length : Int))) then
                (idx e3.2.1 st5.2).bind fun e6 =>
                bif decide (0 ≤ (w64 (e6 - 1))) && decide ((w64 (e6 - 1)) < (st5.1.length : Int)) then
                  (st5.1[(Int.toNat (w64 (e6 - 1)))]?).bind fun e7 =>
                  bif decide (0 ≤ (w64 (e6 - 1))) && decide ((w64 (e6 - 1)) < (st5.1.length : Int)) then
                    some (.inl ((st5.1.set (Int.toNat (w64 (e6 - 1))) (w64 (e7 + 1))), (w64 (st5.2 + 1))))
                  else
                    none
                else
                  none
              else
                some (.inr st5.1) : Option (((List Int) × Int) ⊕ ((List Int))))) (st2.1, 0)).bind fun o8 =>
          some (.inl (o8, (w64 (st2.2 + 1))))
        else
          some (.inr st2.1) : Option (((List Int) × Int) ⊕ ((List Int))))) ((List.replicate (Int.toNat 60) (0 : Int)), 0)).bind fun o9 =>
    some o9
  else
    none
noncomputable def C69 : FnSpec := { ps := [.val TGBook], rs := [.own (.slice (.int .i64))], fn := fun x => s_msUses x }
noncomputable def E69 : Env := { T := [(3, (.int .i64)), (25, (.slice (.int .i64))), (29, (.slice TGPhrase)), (31, TGBook), (66, TGPhrase)], G := [], ro := [1], loops := [(3, { keep := [10, 11], live := [.own 3 [] 128 (.int .i64) true, .tv 12 (.int .i64)], outs := [(.exit 0, [.own 3 [] 128 (.int .i64) true])] }), (6, { keep := [10, 11, 12, 17, 18], live := [.own 3 [] 128 (.int .i64) true, .tv 19 (.int .i64)], outs := [(.exit 2, [.own 3 [] 128 (.int .i64) true])] })], joins := [] }
theorem E69_eq : ∀ x, afun E69 Try.f69 C69.ps C69.rs x = C69.fn x := fun x => by kernel_rfl
theorem S69 : Sound Try.prog 69 C69 := fun_sound (E := E69) ⟨good_T (by kernel_rfl), good_nil, mixedOk⟩ Try.func69 rfl E69_eq
/-- spec.SignalUses -/
noncomputable def s_SignalUses (p_b : GBook) : Option ((List Int) × Bool) :=
  (s_bkGood p_b).bind fun r1 =>
  bif (!r1) then
    some ([], false)
  else
    (s_msUses p_b).bind fun r2 =>
    some (r2, true)
noncomputable def C24 : FnSpec := { ps := [.val TGBook], rs := [.own (.slice (.int .i64)), .val .bool], fn := fun x => s_SignalUses x }
noncomputable def E24 : Env := { T := [(31, TGBook)], G := [(66, C66), (69, C69)], ro := [1], loops := [], joins := [] }
theorem E24_eq : ∀ x, afun E24 Try.f24 C24.ps C24.rs x = C24.fn x := fun x => by kernel_rfl
theorem S24 : Sound Try.prog 24 C24 := fun_sound (E := E24) ⟨good_T (by kernel_rfl), (good_cons S66 ⟨_, Try.func66, by kernel_rfl, by kernel_rfl⟩ (good_cons S69 ⟨_, Try.func69, by kernel_rfl, by kernel_rfl⟩ good_nil)), mixedOk⟩ Try.func24 rfl E24_eq
/-- impl.signalUses -/
noncomputable def i_signalUses (p_b : GBook) : Option ((List Int)) :=
  bif decide (0 ≤ 60) && decide (60 ≤ 60) && decide (60 ≤ lim) then
    (loopE (fun (st2 : (List Int) × Int) => (
        bif (decide (st2.2 < (p_b.1.length : Int))) then
          (idx p_b.1 st2.2).bind fun e3 =>
          (loopE (fun (st5 : (List Int) × Int) => (
              bif (decide (st5.2 < (e3.2.1.length : Int))) then
                (idx e3.2.1 st5.2).bind fun e6 =>
                bif decide (0 ≤ (w64 (e6 - 1))) && decide ((w64 (e6 - 1)) < (st5.1.length : Int)) then
                  (st5.1[(Int.toNat (w64 (e6 - 1)))]?).bind fun e7 =>
                  bif decide (0 ≤ (w64 (e6 - 1))) && decide ((w64 (e6 - 1)) < (st5.1.length : Int)) then
                    some (.inl ((st5.1.set (Int.toNat (w64 (e6 - 1))) (w64 (e7 + 1))), (w64 (st5.2 + 1))))
                  else
                    none
                else
                  none
              else
                some (.inr st5.1) : Option (((List Int) × Int) ⊕ ((List Int))))) (st2.1, 0)).bind fun o8 =>
          some (.inl (o8, (w64 (st2.2 + 1))))
        else
          some (.inr st2.1) : Option (((List Int) × Int) ⊕ ((List Int))))) ((List.replicate (Int.toNat 60) (0 : Int)), 0)).bind fun o9 =>
    some o9
  else
    none
noncomputable def C70 : FnSpec := { ps := [.val TGBook], rs := [.own (.slice (.int .i64))], fn := fun x => i_signalUses x }
noncomputable def E70 : Env := { T := [(3, (.int .i64)), (25, (.slice (.int .i64))), (29, (.slice TGPhrase)), (31, TGBook), (66, TGPhrase)], G := [], ro := [1], loops := [(3, { keep := [10, 11], live := [.own 3 [] 128 (.int .i64) true, .tv 12 (.int .i64)], outs := [(.exit 0, [.own 3 [] 128 (.int .i64) true])] }), (6, { keep := [10, 11, 12, 17, 18], live := [.own 3 [] 128 (.int .i64) true, .tv 19 (.int .i64)], outs := [(.exit 2, [.own 3 [] 128 (.int .i64) true])] })], joins := [] }
theorem E70_eq : ∀ x, afun E70 Try.f70 C70.ps C70.rs x = C70.fn x := fun x => by kernel_rfl
theorem S70 : Sound Try.prog 70 C70 := fun_sound (E := E70) ⟨good_T (by kernel_rfl), good_nil, mixedOk⟩ Try.func70 rfl E70_eq
/-- impl.SignalUses -/
noncomputable def i_SignalUses (p_b : GBook) : Option ((List Int) × Bool) :=
  (i_IsBook p_b).bind fun r1 =>
  bif (!r1) then
    some ([], false)
  else
    (i_signalUses p_b).bind fun r2 =>
    some (r2, true)
noncomputable def C25 : FnSpec := { ps := [.val TGBook], rs := [.own (.slice (.int .i64)), .val .bool], fn := fun x => i_SignalUses x }
noncomputable def E25 : Env := { T := [(31, TGBook)], G := [(58, C58), (70, C70)], ro := [1], loops := [], joins := [] }
theorem E25_eq : ∀ x, afun E25 Try.f25 C25.ps C25.rs x = C25.fn x := fun x => by kernel_rfl
theorem S25 : Sound Try.prog 25 C25 := fun_sound (E := E25) ⟨good_T (by kernel_rfl), (good_cons S58 ⟨_, Try.func58, by kernel_rfl, by kernel_rfl⟩ (good_cons S70 ⟨_, Try.func70, by kernel_rfl, by kernel_rfl⟩ good_nil)), mixedOk⟩ Try.func25 rfl E25_eq
/-- laws.markIntS -/
noncomputable def l_markIntS (p_a : List Int) (p_k : Int) : Option ((List Int) × Int) :=
  (loopE (fun (st2 : (List Int) × Int × Int) => (
      bif (decide (st2.2.2 < (st2.1.length : Int))) then
        bif decide (0 ≤ st2.2.2) && decide (st2.2.2 < (st2.1.length : Int)) then
          some (.inl ((st2.1.set (Int.toNat st2.2.2) st2.2.1), (w64 (st2.2.1 + 1)), (w64 (st2.2.2 + 1))))
        else
          none
      else
        some (.inr (st2.1, st2.2.1)) : Option (((List Int) × Int × Int) ⊕ (((List Int) × Int))))) (p_a, p_k, 0)).bind fun o3 =>
  some (o3.1, o3.2)
noncomputable def C27 : FnSpec := { ps := [.own (.slice (.int .i64)), .val (.int .i64)], rs := [.val (.int .i64)], fn := fun x => l_markIntS x.1 x.2 }
noncomputable def E27 : Env := { T := [(3, (.int .i64)), (25, (.slice (.int .i64)))], G := [], ro := [], loops := [(2, { keep := [], live := [.own 0 [] 100000 (.int .i64) true, .tv 1 (.int .i64), .tv 5 (.int .i64)], outs := [(.exit 0, [.own 0 [] 100000 (.int .i64) true, .tv 1 (.int .i64)])] })], joins := [] }
theorem E27_eq : ∀ x, afun E27 Try.f27 C27.ps C27.rs x = C27.fn x := fun x => by kernel_rfl
theorem S27 : Sound Try.prog 27 C27 := fun_sound_own (E := E27) ⟨good_T (by kernel_rfl), good_nil, mixedOk⟩ Try.func27 rfl rfl E27_eq
/-- laws.markText -/
noncomputable def l_markText (p_k : Int) : Option (Bytes) :=
  bif (decide (p_k ≤ 0)) then
    some ([109, 48] : Bytes)
  else
    (loopE (fun (st2 : Int × Bytes) => (
        bif (decide (0 < st2.1)) then
          bif decide (List.length (toStr [(IntKind.u8.wrap (w64 (48 + (Int.tmod st2.1 10))))]) + List.length st2.2 ≤ lim) then
            some (.inl ((w64 (Int.tdiv st2.1 10)), ((toStr [(IntKind.u8.wrap (w64 (48 + (Int.tmod st2.1 10))))]) ++ st2.2)))
          else
            none
        else
          some (.inr st2.2) : Option ((Int × Bytes) ⊕ (Bytes)))) (p_k, [])).bind fun o3 =>
    bif decide (List.length ([109] : Bytes) + List.length o3 ≤ lim) then
      some (([109] : Bytes) ++ o3)
    else
      none
noncomputable def C117 : FnSpec := { ps := [.val (.int .i64)], rs := [.val .str], fn := fun x => l_markText x }
noncomputable def E117 : Env := { T := [(3, (.int .i64)), (5, (.int .u8)), (9, .str), (56, (.slice (.int .u8)))], G := [], ro := [], loops := [(4, { keep := [], live := [.tv 0 (.int .i64), .tv 3 .str], outs := [(.exit 0, [.tv 3 .str])] })], joins := [] }
theorem E117_eq : ∀ x, afun E117 Try.f117 C117.ps C117.rs x = C117.fn x := fun x => by kernel_rfl
theorem S117 : Sound Try.prog 117 C117 := fun_sound (E := E117) ⟨good_T (by kernel_rfl), good_nil, mixedOk⟩ Try.func117 rfl E117_eq
/-- laws.markPhraseS -/
noncomputable def l_markPhraseS (p_a : List GPhrase) (p_k : Int) : Option ((List GPhrase) × Int) :=
  (loopE (fun (st2 : (List GPhrase) × Int × Int) => (
      bif (decide (st2.2.2 < (st2.1.length : Int))) then
        (l_markText st2.2.1).bind fun r3 =>
        bif decide (0 ≤ st2.2.2) && decide (st2.2.2 < (st2.1.length : Int)) then
          (st2.1[(Int.toNat st2.2.2)]?).bind fun e4 =>
          bif decide (0 ≤ st2.2.2) && decide (st2.2.2 < ((st2.1.set (Int.toNat st2.2.2) (r3, e4.2)).length : Int)) then
            ((st2.1.set (Int.toNat st2.2.2) (r3, e4.2))[(Int.toNat st2.2.2)]?).bind fun e5 =>
            (l_markIntS e5.2.1 (w64 (st2.2.1 + 1))).bind fun r6 =>
            some (.inl (((st2.1.set (Int.toNat st2.2.2) (r3, e4.2)).set (Int.toNat st2.2.2) (e5.1, r6.1, ())), r6.2, (w64 (st2.2.2 + 1))))
          else
            none
        else
          none
      else
        some (.inr (st2.1, st2.2.1)) : Option (((List GPhrase) × Int × Int) ⊕ (((List GPhrase) × Int))))) (p_a, p_k, 0)).bind fun o7 =>
  some (o7.1, o7.2)
noncomputable def C71 : FnSpec := { ps := [.own (.slice TGPhrase), .val (.int .i64)], rs := [.val (.int .i64)], fn := fun x => l_markPhraseS x.1 x.2 }
noncomputable def E71 : Env := { T := [(9, .str), (25, (.slice (.int .i64))), (29, (.slice TGPhrase)), (66, TGPhrase)], G := [(27, C27), (117, C117)], ro := [], loops := [(2, { keep := [], live := [.own 0 [] 100000 TGPhrase true, .tv 1 (.int .i64), .tv 5 (.int .i64)], outs := [(.exit 0, [.own 0 [] 100000 TGPhrase true, .tv 1 (.int .i64)])] })], joins := [] }
theorem E71_eq : ∀ x, afun E71 Try.f71 C71.ps C71.rs x = C71.fn x := fun x => by kernel_rfl
theorem S71 : Sound Try.prog 71 C71 := fun_sound_own (E := E71) ⟨good_T (by kernel_rfl), (good_cons S27 ⟨_, Try.func27, by kernel_rfl, by kernel_rfl⟩ (good_cons S117 ⟨_, Try.func117, by kernel_rfl, by kernel_rfl⟩ good_nil)), mixedOk⟩ Try.func71 rfl rfl E71_eq
/-- laws.markBook -/
noncomputable def l_markBook (p_a : GBook) (p_k : Int) : Option (GBook × Int) :=
  (l_markPhraseS p_a.1 p_k).bind fun r1 =>
  some ((r1.1, ()), r1.2)
noncomputable def C26 : FnSpec := { ps := [.own TGBook, .val (.int .i64)], rs := [.val (.int .i64)], fn := fun x => l_markBook x.1 x.2 }
noncomputable def E26 : Env := { T := [(29, (.slice TGPhrase)), (31, TGBook)], G := [(71, C71)], ro := [], loops := [], joins := [] }
theorem E26_eq : ∀ x, afun E26 Try.f26 C26.ps C26.rs x = C26.fn x := fun x => by kernel_rfl
theorem S26 : Sound Try.prog 26 C26 := fun_sound_own (E := E26) ⟨good_T (by kernel_rfl), (good_cons S71 ⟨_, Try.func71, by kernel_rfl, by kernel_rfl⟩ good_nil), mixedOk⟩ Try.func26 rfl rfl E26_eq
/-- laws.heldIntS -/
noncomputable def l_heldIntS (p_a : List Int) (p_k : Int) : Option (Int) :=
  (loopE (fun (st2 : Int × Int) => (
      bif (decide (st2.2 < (p_a.length : Int))) then
        (idx p_a st2.2).bind fun e3 =>
        bif (!decide (e3 = st2.1)) then
          some (.inr (.inr (-1)))
        else
          some (.inl ((w64 (st2.1 + 1)), (w64 (st2.2 + 1))))
      else
        some (.inr (.inl st2.1)) : Option ((Int × Int) ⊕ (Int ⊕ Int)))) (p_k, 0)).bind fun o4 =>
  match o4 with
  | .inl x5 =>
    some x5
  | .inr y6 =>
    some y6
noncomputable def C28 : FnSpec := { ps := [.val (.slice (.int .i64)), .val (.int .i64)], rs := [.val (.int .i64)], fn := fun x => l_heldIntS x.1 x.2 }
noncomputable def E28 : Env := { T := [(3, (.int .i64)), (25, (.slice (.int .i64)))], G := [], ro := [], loops := [(2, { keep := [0], live := [.tv 1 (.int .i64), .tv 5 (.int .i64)], outs := [(.exit 0, [.tv 1 (.int .i64)]), (.ret, [.tv 4 (.int .i64)])] })], joins := [] }
theorem E28_eq : ∀ x, afun E28 Try.f28 C28.ps C28.rs x = C28.fn x := fun x => by kernel_rfl
theorem S28 : Sound Try.prog 28 C28 := fun_sound (E := E28) ⟨good_T (by kernel_rfl), good_nil, mixedOk⟩ Try.func28 rfl E28_eq
/-- laws.FnExactSignalUses -/
noncomputable def l_FnExactSignalUses (p_aB : GBook) : Option (Bool) :=
  (l_szBook p_aB 1048576).bind fun r1 =>
  bif (decide (r1 < 0)) then
    some true
  else
    (l_toBook p_aB).bind fun r2 =>
    (s_SignalUses (r2.1, ())).bind fun r3 =>
    (l_toBook p_aB).bind fun r4 =>
    (i_SignalUses (r4.1, ())).bind fun r5 =>
    (l_eqIntS r5.1 r3.1).bind fun r6 =>
    (bif (!r6) then
        some true
      else
        some (r5.2 != r3.2)).bind fun c7 =>
    bif c7 then
      some false
    else
      (l_toBook p_aB).bind fun r8 =>
      (l_eqBook (r4.1, ()) (r8.1, ())).bind fun r9 =>
      bif (!r9) then
        some false
      else
        (l_markBook (r4.1, ()) 1).bind fun r10 =>
        (bif (decide (r10.2 < 0)) then
            some true
          else
            (l_eqIntS r5.1 r3.1).bind fun r11 =>
            some (!r11)).bind fun c12 =>
        (bif c12 then
            some true
          else
            some (r5.2 != r3.2)).bind fun c13 =>
        bif c13 then
          some false
        else
          (l_markIntS r5.1 1).bind fun r14 =>
          (l_heldIntS r14.1 1).bind fun r15 =>
          bif (decide (r15 < 0)) then
            some false
          else
            bif (!decide (r15 = r14.2)) then
              some false
            else
              (l_toBook p_aB).bind fun r16 =>
              (i_SignalUses r16).bind fun r17 =>
              (l_eqIntS r17.1 r3.1).bind fun r18 =>
              (bif (!r18) then
                  some true
                else
                  some (r17.2 != r3.2)).bind fun c19 =>
              bif c19 then
                some false
              else
                (l_heldIntS r14.1 1).bind fun r20 =>
                bif (decide (r20 < 0)) then
                  some false
                else
                  bif (!decide (r20 = r14.2)) then
                    some false
                  else
                    some true
noncomputable def C5 : FnSpec := { ps := [.val TGBook], rs := [.val .bool], fn := fun x => l_FnExactSignalUses x }
noncomputable def E5 : Env := { T := [(4, .bool), (24, TGBook), (31, TGBook)], G := [(15, C15), (17, C17), (20, C20), (21, C21), (24, C24), (25, C25), (26, C26), (27, C27), (28, C28)], ro := [1], loops := [], joins := [] }
theorem E5_eq : ∀ x, afun E5 Try.f5 C5.ps C5.rs x = C5.fn x := fun x => by kernel_rfl
theorem S5 : Sound Try.prog 5 C5 := fun_sound (E := E5) ⟨good_T (by kernel_rfl), (good_cons S15 ⟨_, Try.func15, by kernel_rfl, by kernel_rfl⟩ (good_cons S17 ⟨_, Try.func17, by kernel_rfl, by kernel_rfl⟩ (good_cons S20 ⟨_, Try.func20, by kernel_rfl, by kernel_rfl⟩ (good_cons S21 ⟨_, Try.func21, by kernel_rfl, by kernel_rfl⟩ (good_cons S24 ⟨_, Try.func24, by kernel_rfl, by kernel_rfl⟩ (good_cons S25 ⟨_, Try.func25, by kernel_rfl, by kernel_rfl⟩ (good_cons S26 ⟨_, Try.func26, by kernel_rfl, by kernel_rfl⟩ (good_cons S27 ⟨_, Try.func27, by kernel_rfl, by kernel_rfl⟩ (good_cons S28 ⟨_, Try.func28, by kernel_rfl, by kernel_rfl⟩ good_nil))))))))), mixedOk⟩ Try.func5 rfl E5_eq
/-- spec.UnusedSignals -/
noncomputable def s_UnusedSignals (p_b : GBook) : Option ((List Int) × Bool) :=
  (s_bkGood p_b).bind fun r1 =>
  bif (!r1) then
    some ([], false)
  else
    (s_msUses p_b).bind fun r2 =>
    (loopE (fun (st4 : (List Int) × (List Int) × Int) => (
        bif (decide (st4.2.2 < (r2.length : Int))) then
          bif decide (0 ≤ st4.2.2) && decide (st4.2.2 < (st4.2.1.length : Int)) then
            (st4.2.1[(Int.toNat st4.2.2)]?).bind fun e5 =>
            bif (decide (e5 = 0)) then
              bif decide (List.length st4.1 + List.length [(w64 (st4.2.2 + 1))] ≤ lim) then
                some (.inl ((st4.1 ++ [(w64 (st4.2.2 + 1))]), st4.2.1, (w64 (st4.2.2 + 1))))
              else
                none
            else
              some (.inl (st4.1, st4.2.1, (w64 (st4.2.2 + 1))))
          else
            none
        else
          some (.inr st4.1) : Option (((List Int) × (List Int) × Int) ⊕ ((List Int))))) ([], r2, 0)).bind fun o6 =>
    some (o6, true)
noncomputable def C33 : FnSpec := { ps := [.val TGBook], rs := [.own (.slice (.int .i64)), .val .bool], fn := fun x => s_UnusedSignals x }
noncomputable def E33 : Env := { T := [(3, (.int .i64)), (25, (.slice (.int .i64))), (31, TGBook)], G := [(66, C66), (69, C69)], ro := [1], loops := [(5, { keep := [12], live := [.own 4 [] 200004 (.int .i64) true, .own 11 [] 176 (.int .i64) true, .tv 13 (.int .i64)], outs := [(.exit 0, [.own 4 [] 200004 (.int .i64) true])] })], joins := [] }
theorem E33_eq : ∀ x, afun E33 Try.f33 C33.ps C33.rs x = C33.fn x := fun x => by kernel_rfl
theorem S33 : Sound Try.prog 33 C33 := fun_sound (E := E33) ⟨good_T (by kernel_rfl), (good_cons S66 ⟨_, Try.func66, by kernel_rfl, by kernel_rfl⟩ (good_cons S69 ⟨_, Try.func69, by kernel_rfl, by kernel_rfl⟩ good_nil)), mixedOk⟩ Try.func33 rfl E33_eq
/-- impl.UnusedSignals -/
noncomputable def i_UnusedSignals (p_b : GBook) : Option ((List Int) × Bool) :=
  (i_IsBook p_b).bind fun r1 =>
  bif (!r1) then
    some ([], false)
  else
    (i_signalUses p_b).bind fun r2 =>
    (loopE (fun (st4 : (List Int) × (List Int) × Int) => (
        bif (decide (st4.2.2 < (r2.length : Int))) then
          bif decide (0 ≤ st4.2.2) && decide (st4.2.2 < (st4.2.1.length : Int)) then
            (st4.2.1[(Int.toNat st4.2.2)]?).bind fun e5 =>
            bif (decide (e5 = 0)) then
              bif decide (List.length st4.1 + List.length [(w64 (st4.2.2 + 1))] ≤ lim) then
                some (.inl ((st4.1 ++ [(w64 (st4.2.2 + 1))]), st4.2.1, (w64 (st4.2.2 + 1))))
              else
                none
            else
              some (.inl (st4.1, st4.2.1, (w64 (st4.2.2 + 1))))
          else
            none
        else
          some (.inr st4.1) : Option (((List Int) × (List Int) × Int) ⊕ ((List Int))))) ([], r2, 0)).bind fun o6 =>
    some (o6, true)
noncomputable def C34 : FnSpec := { ps := [.val TGBook], rs := [.own (.slice (.int .i64)), .val .bool], fn := fun x => i_UnusedSignals x }
noncomputable def E34 : Env := { T := [(3, (.int .i64)), (25, (.slice (.int .i64))), (31, TGBook)], G := [(58, C58), (70, C70)], ro := [1], loops := [(5, { keep := [12], live := [.own 4 [] 200004 (.int .i64) true, .own 11 [] 176 (.int .i64) true, .tv 13 (.int .i64)], outs := [(.exit 0, [.own 4 [] 200004 (.int .i64) true])] })], joins := [] }
theorem E34_eq : ∀ x, afun E34 Try.f34 C34.ps C34.rs x = C34.fn x := fun x => by kernel_rfl
theorem S34 : Sound Try.prog 34 C34 := fun_sound (E := E34) ⟨good_T (by kernel_rfl), (good_cons S58 ⟨_, Try.func58, by kernel_rfl, by kernel_rfl⟩ (good_cons S70 ⟨_, Try.func70, by kernel_rfl, by kernel_rfl⟩ good_nil)), mixedOk⟩ Try.func34 rfl E34_eq
/-- laws.FnExactUnusedSignals -/
noncomputable def l_FnExactUnusedSignals (p_aB : GBook) : Option (Bool) :=
  (l_szBook p_aB 1048576).bind fun r1 =>
  bif (decide (r1 < 0)) then
    some true
  else
    (l_toBook p_aB).bind fun r2 =>
    (s_UnusedSignals (r2.1, ())).bind fun r3 =>
    (l_toBook p_aB).bind fun r4 =>
    (i_UnusedSignals (r4.1, ())).bind fun r5 =>
    (l_eqIntS r5.1 r3.1).bind fun r6 =>
    (bif (!r6) then
        some true
      else
        some (r5.2 != r3.2)).bind fun c7 =>
    bif c7 then
      some false
    else
      (l_toBook p_aB).bind fun r8 =>
      (l_eqBook (r4.1, ()) (r8.1, ())).bind fun r9 =>
      bif (!r9) then
        some false
      else
        (l_markBook (r4.1, ()) 1).bind fun r10 =>
        (bif (decide (r10.2 < 0)) then
            some true
          else
            (l_eqIntS r5.1 r3.1).bind fun r11 =>
            some (!r11)).bind fun c12 =>
        (bif c12 then
            some true
          else
            some (r5.2 != r3.2)).bind fun c13 =>
        bif c13 then
          some false
        else
          (l_markIntS r5.1 1).bind fun r14 =>
          (l_heldIntS r14.1 1).bind fun r15 =>
          bif (decide (r15 < 0)) then
            some false
          else
            bif (!decide (r15 = r14.2)) then
              some false
            else
              (l_toBook p_aB).bind fun r16 =>
              (i_UnusedSignals r16).bind fun r17 =>
              (l_eqIntS r17.1 r3.1).bind fun r18 =>
              (bif (!r18) then
                  some true
                else
                  some (r17.2 != r3.2)).bind fun c19 =>
              bif c19 then
                some false
              else
                (l_heldIntS r14.1 1).bind fun r20 =>
                bif (decide (r20 < 0)) then
                  some false
                else
                  bif (!decide (r20 = r14.2)) then
                    some false
                  else
                    some true
noncomputable def C8 : FnSpec := { ps := [.val TGBook], rs := [.val .bool], fn := fun x => l_FnExactUnusedSignals x }
noncomputable def E8 : Env := { T := [(4, .bool), (24, TGBook), (31, TGBook)], G := [(15, C15), (17, C17), (20, C20), (21, C21), (26, C26), (27, C27), (28, C28), (33, C33), (34, C34)], ro := [1], loops := [], joins := [] }
theorem E8_eq : ∀ x, afun E8 Try.f8 C8.ps C8.rs x = C8.fn x := fun x => by kernel_rfl
theorem S8 : Sound Try.prog 8 C8 := fun_sound (E := E8) ⟨good_T (by kernel_rfl), (good_cons S15 ⟨_, Try.func15, by kernel_rfl, by kernel_rfl⟩ (good_cons S17 ⟨_, Try.func17, by kernel_rfl, by kernel_rfl⟩ (good_cons S20 ⟨_, Try.func20, by kernel_rfl, by kernel_rfl⟩ (good_cons S21 ⟨_, Try.func21, by kernel_rfl, by kernel_rfl⟩ (good_cons S26 ⟨_, Try.func26, by kernel_rfl, by kernel_rfl⟩ (good_cons S27 ⟨_, Try.func27, by kernel_rfl, by kernel_rfl⟩ (good_cons S28 ⟨_, Try.func28, by kernel_rfl, by kernel_rfl⟩ (good_cons S33 ⟨_, Try.func33, by kernel_rfl, by kernel_rfl⟩ (good_cons S34 ⟨_, Try.func34, by kernel_rfl, by kernel_rfl⟩ good_nil))))))))), mixedOk⟩ Try.func8 rfl E8_eq
/-- laws.szStringS -/
noncomputable def l_szStringS (p_a : List Bytes) (p_left : Int) : Option (Int) :=
  bif (decide ((w64 (p_left - (p_a.length : Int))) < 0)) then
    some (-1)
  else
    (loopE (fun (st2 : Int × Int) => (
        bif (decide (st2.2 < (p_a.length : Int))) then
          (idx p_a st2.2).bind fun e3 =>
          bif (decide ((w64 (st2.1 - (e3.length : Int))) < 0)) then
            some (.inr (.inr (-1)))
          else
            some (.inl ((w64 (st2.1 - (e3.length : Int))), (w64 (st2.2 + 1))))
        else
          some (.inr (.inl st2.1)) : Option ((Int × Int) ⊕ (Int ⊕ Int)))) ((w64 (p_left - (p_a.length : Int))), 0)).bind fun o4 =>
    match o4 with
    | .inl x5 =>
      some x5
    | .inr y6 =>
      some y6
noncomputable def C37 : FnSpec := { ps := [.val (.slice .str), .val (.int .i64)], rs := [.val (.int .i64)], fn := fun x => l_szStringS x.1 x.2 }
noncomputable def E37 : Env := { T := [(9, .str), (47, (.slice .str))], G := [], ro := [], loops := [(5, { keep := [0], live := [.tv 1 (.int .i64), .tv 5 (.int .i64)], outs := [(.exit 0, [.tv 1 (.int .i64)]), (.ret, [.tv 4 (.int .i64)])] })], joins := [] }
theorem E37_eq : ∀ x, afun E37 Try.f37 C37.ps C37.rs x = C37.fn x := fun x => by kernel_rfl
theorem S37 : Sound Try.prog 37 C37 := fun_sound (E := E37) ⟨good_T (by kernel_rfl), good_nil, mixedOk⟩ Try.func37 rfl E37_eq
/-- spec.CountWins -/
noncomputable def s_CountWins (p_a : GBook) (p_b : GBook) (p_list : List Bytes) : Option (Int × Int × Int × Bool) :=
  (s_bkGood p_a).bind fun r1 =>
  (bif (!r1) then
      some true
    else
      (s_bkGood p_b).bind fun r2 =>
      some (!r2)).bind fun c3 =>
  (bif c3 then
      some true
    else
      some (decide (20 < (p_list.length : Int)))).bind fun c4 =>
  bif c4 then
    some (0, 0, 0, false)
  else
    bif decide (0 ≤ 3) && decide (3 ≤ 3) && decide (3 ≤ lim) then
      (loopE (fun (st6 : (List Int) × Int) => (
          bif (decide (st6.2 < (p_list.length : Int))) then
            (idx p_list st6.2).bind fun e7 =>
            (s_spLetters e7).bind fun r8 =>
            bif (!r8) then
              some (.inr (.inr (0, 0, 0, false)))
            else
              (s_msCompare p_a p_b e7).bind fun r9 =>
              bif r9.2 then
                bif decide (0 ≤ (w64 (r9.1 + 1))) && decide ((w64 (r9.1 + 1)) < (st6.1.length : Int)) then
                  (st6.1[(Int.toNat (w64 (r9.1 + 1)))]?).bind fun e10 =>
                  bif decide (0 ≤ (w64 (r9.1 + 1))) && decide ((w64 (r9.1 + 1)) < (st6.1.length : Int)) then
                    some (.inl ((st6.1.set (Int.toNat (w64 (r9.1 + 1))) (w64 (e10 + 1))), (w64 (st6.2 + 1))))
                  else
                    none
                else
                  none
              else
                some (.inl (st6.1, (w64 (st6.2 + 1))))
          else
            some (.inr (.inl st6.1)) : Option (((List Int) × Int) ⊕ ((List Int) ⊕ (Int × Int × Int × Bool))))) ((List.replicate (Int.toNat 3) (0 : Int)), 0)).bind fun o11 =>
      match o11 with
      | .inl x12 =>
        bif decide (0 ≤ 0) && decide (0 < (x12.length : Int)) then
          (x12[(Int.toNat 0)]?).bind fun e14 =>
          bif decide (0 ≤ 1) && decide (1 < (x12.length : Int)) then
            (x12[(Int.toNat 1)]?).bind fun e15 =>
            bif decide (0 ≤ 2) && decide (2 < (x12.length : Int)) then
              (x12[(Int.toNat 2)]?).bind fun e16 =>
              some (e14, e15, e16, true)
            else
              none
          else
            none
        else
          none
      | .inr y13 =>
        some (y13.1, y13.2.1, y13.2.2.1, y13.2.2.2)
    else
      none
noncomputable def C38 : FnSpec := { ps := [.val TGBook, .val TGBook, .val (.slice .str)], rs := [.val (.int .i64), .val (.int .i64), .val (.int .i64), .val .bool], fn := fun x => s_CountWins x.1 x.2.1 x.2.2 }
noncomputable def E38 : Env := { T := [(3, (.int .i64)), (9, .str), (25, (.slice (.int .i64))), (31, TGBook), (47, (.slice .str))], G := [(66, C66), (75, C75), (77, C77)], ro := [3, 4], loops := [(5, { keep := [3, 4, 29, 30], live := [.own 10 [] 448 (.int .i64) true, .tv 31 (.int .i64)], outs := [(.exit 0, [.own 10 [] 448 (.int .i64) true]), (.ret, [.tv 6 (.int .i64), .tv 7 (.int .i64), .tv 8 (.int .i64), .tv 9 .bool])] })], joins := [] }
theorem E38_eq : ∀ x, afun E38 Try.f38 C38.ps C38.rs x = C38.fn x := fun x => by kernel_rfl
theorem S38 : Sound Try.prog 38 C38 := fun_sound (E := E38) ⟨good_T (by kernel_rfl), (good_cons S66 ⟨_, Try.func66, by kernel_rfl, by kernel_rfl⟩ (good_cons S75 ⟨_, Try.func75, by kernel_rfl, by kernel_rfl⟩ (good_cons S77 ⟨_, Try.func77, by kernel_rfl, by kernel_rfl⟩ good_nil))), mixedOk⟩ Try.func38 rfl E38_eq
/-- laws.toStringS -/
noncomputable def l_toStringS (p_a : List Bytes) : Option ((List Bytes)) :=
  bif decide (0 ≤ (p_a.length : Int)) && decide ((p_a.length : Int) ≤ (p_a.length : Int)) && decide ((p_a.length : Int) ≤ lim) then
    (loopE (fun (st2 : (List Bytes) × Int) => (
        bif (decide (st2.2 < (p_a.length : Int))) then
          (idx p_a st2.2).bind fun e3 =>
          bif decide (0 ≤ st2.2) && decide (st2.2 < (st2.1.length : Int)) then
            some (.inl ((st2.1.set (Int.toNat st2.2) e3), (w64 (st2.2 + 1))))
          else
            none
        else
          some (.inr st2.1) : Option (((List Bytes) × Int) ⊕ ((List Bytes))))) ((List.replicate (Int.toNat (p_a.length : Int)) ([] : Bytes)), 0)).bind fun o4 =>
    some o4
  else
    none
noncomputable def C39 : FnSpec := { ps := [.val (.slice .str)], rs := [.own (.slice .str)], fn := fun x => l_toStringS x }
noncomputable def E39 : Env := { T := [(9, .str), (47, (.slice .str))], G := [], ro := [], loops := [(3, { keep := [0], live := [.own 3 [] 112 .str true, .tv 4 (.int .i64)], outs := [(.exit 0, [.own 3 [] 112 .str true])] })], joins := [] }
theorem E39_eq : ∀ x, afun E39 Try.f39 C39.ps C39.rs x = C39.fn x := fun x => by kernel_rfl
theorem S39 : Sound Try.prog 39 C39 := fun_sound (E := E39) ⟨good_T (by kernel_rfl), good_nil, mixedOk⟩ Try.func39 rfl E39_eq
/-- impl.CountWins$1 -/
noncomputable def i_CountWins_1 (p_s : Bytes) : Option (Bool) :=
  (i_isLetters p_s).bind fun r1 =>
  some (!r1)
noncomputable def C79 : FnSpec := { ps := [.val .str], rs := [.val .bool], fn := fun x => i_CountWins_1 x }
noncomputable def E79 : Env := { T := [], G := [(80, C80)], ro := [], loops := [], joins := [] }
theorem E79_eq : ∀ x, afun E79 Try.f79 C79.ps C79.rs x = C79.fn x := fun x => by kernel_rfl
theorem S79 : Sound Try.prog 79 C79 := fun_sound (E := E79) ⟨good_T (by kernel_rfl), (good_cons S80 ⟨_, Try.func80, by kernel_rfl, by kernel_rfl⟩ good_nil), mixedOk⟩ Try.func79 rfl E79_eq
/-- slices.IndexFunc[[]string,string] -/
noncomputable def slices_IndexFunc_string_79 (p_s : List Bytes) : Option (Int) :=
  (loopE (fun (st2 : Int) => (
      bif (decide (st2 < (p_s.length : Int))) then
        (idx p_s st2).bind fun e3 =>
        (i_CountWins_1 e3).bind fun r4 =>
        bif r4 then
          some (.inr (.inr st2))
        else
          some (.inl (w64 (st2 + 1)))
      else
        some (.inr (.inl ())) : Option ((Int) ⊕ (Unit ⊕ Int)))) 0).bind fun o5 =>
  match o5 with
  | .inl _ =>
    some (-1)
  | .inr y7 =>
    some y7
noncomputable def C121_79 : FnSpec := { ps := [.val (.slice .str), .fn 79 []], rs := [.val (.int .i64)], fn := fun x => slices_IndexFunc_string_79 x.1 }
noncomputable def E121_79 : Env := { T := [(9, .str), (47, (.slice .str))], G := [(79, C79)], ro := [], loops := [(2, { keep := [0, 1, 7], live := [.tv 8 (.int .i64)], outs := [(.exit 0, []), (.ret, [.tv 4 (.int .i64)])] })], joins := [] }
theorem E121_79_eq : ∀ x, afun E121_79 Try.f121 C121_79.ps C121_79.rs x = C121_79.fn x := fun x => by kernel_rfl
theorem S121_79 : Sound Try.prog 121 C121_79 := fun_sound (E := E121_79) ⟨good_T (by kernel_rfl), (good_cons S79 ⟨_, Try.func79, by kernel_rfl, by kernel_rfl⟩ good_nil), mixedOk⟩ Try.func121 rfl E121_79_eq
/-- slices.ContainsFunc[[]string,string] -/
noncomputable def slices_ContainsFunc_string_79 (p_s : List Bytes) : Option (Bool) :=
  (slices_IndexFunc_string_79 p_s).bind fun r1 =>
  some (decide (0 ≤ r1))
noncomputable def C78_79 : FnSpec := { ps := [.val (.slice .str), .fn 79 []], rs := [.val .bool], fn := fun x => slices_ContainsFunc_string_79 x.1 }
noncomputable def E78_79 : Env := { T := [], G := [(121, C121_79)], ro := [], loops := [], joins := [] }
theorem E78_79_eq : ∀ x, afun E78_79 Try.f78 C78_79.ps C78_79.rs x = C78_79.fn x := fun x => by kernel_rfl
theorem S78_79 : Sound Try.prog 78 C78_79 := fun_sound (E := E78_79) ⟨good_T (by kernel_rfl), (good_cons S121_79 ⟨_, Try.func121, by kernel_rfl, by kernel_rfl⟩ good_nil), mixedOk⟩ Try.func78 rfl E78_79_eq
/-- impl.CountWins -/
noncomputable def i_CountWins (p_a : GBook) (p_b : GBook) (p_list : List Bytes) : Option (Int × Int × Int × Bool) :=
  (i_IsBook p_a).bind fun r1 =>
  (bif (!r1) then
      some true
    else
      (i_IsBook p_b).bind fun r2 =>
      some (!r2)).bind fun c3 =>
  (bif c3 then
      some true
    else
      some (decide (20 < (p_list.length : Int)))).bind fun c4 =>
  (bif c4 then
      some true
    else
      (slices_ContainsFunc_string_79 p_list).bind fun r5 =>
      some r5).bind fun c6 =>
  bif c6 then
    some (0, 0, 0, false)
  else
    (loopE (fun (st8 : Int × Int × Int × Int) => (
        bif (decide (st8.2.2.2 < (p_list.length : Int))) then
          (idx p_list st8.2.2.2).bind fun e9 =>
          (i_CompareBooks p_a p_b e9).bind fun r10 =>
          bif r10.2 then
            bif decide ((w64 (r10.1 + 1)) = (2 : Int)) then
              bif decide ((w64 (r10.1 + 1)) = (2 : Int)) then
                some (.inl (st8.1, st8.2.1, (w64 (st8.2.2.1 + 1)), (w64 (st8.2.2.2 + 1))))
              else
                bif decide ((w64 (r10.1 + 1)) = (1 : Int)) then
                  some (.inl (st8.1, (w64 (st8.2.2.1 + 1)), st8.2.2.1, (w64 (st8.2.2.2 + 1))))
                else
                  bif decide ((w64 (r10.1 + 1)) = (0 : Int)) then
                    some (.inl ((w64 (st8.2.2.1 + 1)), st8.2.1, st8.2.2.1, (w64 (st8.2.2.2 + 1))))
                  else
                    none
            else
              bif decide ((w64 (r10.1 + 1)) = (1 : Int)) then
                bif decide ((w64 (r10.1 + 1)) = (2 : Int)) then
                  some (.inl (st8.1, st8.2.1, (w64 (st8.2.1 + 1)), (w64 (st8.2.2.2 + 1))))
                else
                  bif decide ((w64 (r10.1 + 1)) = (1 : Int)) then
                    some (.inl (st8.1, (w64 (st8.2.1 + 1)), st8.2.2.1, (w64 (st8.2.2.2 + 1))))
                  else
                    bif decide ((w64 (r10.1 + 1)) = (0 : Int)) then
                      some (.inl ((w64 (st8.2.1 + 1)), st8.2.1, st8.2.2.1, (w64 (st8.2.2.2 + 1))))
                    else
                      none
              else
                bif decide ((w64 (r10.1 + 1)) = (0 : Int)) then
                  bif decide ((w64 (r10.1 + 1)) = (2 : Int)) then
                    some (.inl (st8.1, st8.2.1, (w64 (st8.1 + 1)), (w64 (st8.2.2.2 + 1))))
                  else
                    bif decide ((w64 (r10.1 + 1)) = (1 : Int)) then
                      some (.inl (st8.1, (w64 (st8.1 + 1)), st8.2.2.1, (w64 (st8.2.2.2 + 1))))
                    else
                      bif decide ((w64 (r10.1 + 1)) = (0 : Int)) then
                        some (.inl ((w64 (st8.1 + 1)), st8.2.1, st8.2.2.1, (w64 (st8.2.2.2 + 1))))
                      else
                        none
                else
                  none
          else
            some (.inl (st8.1, st8.2.1, st8.2.2.1, (w64 (st8.2.2.2 + 1))))
        else
          some (.inr (st8.1, st8.2.1, st8.2.2.1)) : Option ((Int × Int × Int × Int) ⊕ ((Int × Int × Int))))) (0, 0, 0, 0)).bind fun o11 =>
    some (o11.1, o11.2.1, o11.2.2, true)
noncomputable def C40 : FnSpec := { ps := [.val TGBook, .val TGBook, .val (.slice .str)], rs := [.val (.int .i64), .val (.int .i64), .val (.int .i64), .val .bool], fn := fun x => i_CountWins x.1 x.2.1 x.2.2 }
noncomputable def E40 : Env := { T := [(3, (.int .i64)), (9, .str), (31, TGBook), (47, (.slice .str)), (90, (.pair .unit (.pair (.int .i64) (.pair (.int .i64) (.pair (.int .i64) .unit)))))], G := [(36, C36), (58, C58), (78, C78_79)], ro := [3, 4], loops := [(5, { keep := [3, 4, 32, 33], live := [.bx 10 160 [.pv (.int .i64), .pv (.int .i64), .pv (.int .i64)], .tv 34 (.int .i64)], outs := [(.exit 0, [.bx 10 160 [.pv (.int .i64), .pv (.int .i64), .pv (.int .i64)]])] })], joins := [] }
theorem E40_eq : ∀ x, afun E40 Try.f40 C40.ps C40.rs x = C40.fn x := fun x => by kernel_rfl
theorem S40 : Sound Try.prog 40 C40 := fun_sound (E := E40) ⟨good_T (by kernel_rfl), (good_cons S36 ⟨_, Try.func36, by kernel_rfl, by kernel_rfl⟩ (good_cons S58 ⟨_, Try.func58, by kernel_rfl, by kernel_rfl⟩ (good_cons S78_79 ⟨_, Try.func78, by kernel_rfl, by kernel_rfl⟩ good_nil))), mixedOk⟩ Try.func40 rfl E40_eq
/-- laws.eqStringS -/
noncomputable def l_eqStringS (p_a : List Bytes) (p_b : List Bytes) : Option (Bool) :=
  bif (!decide ((p_a.length : Int) = (p_b.length : Int))) then
    some false
  else
    (loopE (fun (st2 : Int) => (
        bif (decide (st2 < (p_a.length : Int))) then
          (idx p_a st2).bind fun e3 =>
          (idx p_b st2).bind fun e4 =>
          bif (!decide (e3 = e4)) then
            some (.inr (.inr false))
          else
            some (.inl (w64 (st2 + 1)))
        else
          some (.inr (.inl ())) : Option ((Int) ⊕ (Unit ⊕ Bool)))) 0).bind fun o5 =>
    match o5 with
    | .inl _ =>
      some true
    | .inr y7 =>
      some y7
noncomputable def C41 : FnSpec := { ps := [.val (.slice .str), .val (.slice .str)], rs := [.val .bool], fn := fun x => l_eqStringS x.1 x.2 }
noncomputable def E41 : Env := { T := [(9, .str), (47, (.slice .str))], G := [], ro := [], loops := [(4, { keep := [0, 1], live := [.tv 5 (.int .i64)], outs := [(.exit 0, []), (.ret, [.tv 4 .bool])] })], joins := [] }
theorem E41_eq : ∀ x, afun E41 Try.f41 C41.ps C41.rs x = C41.fn x := fun x => by kernel_rfl
theorem S41 : Sound Try.prog 41 C41 := fun_sound (E := E41) ⟨good_T (by kernel_rfl), good_nil, mixedOk⟩ Try.func41 rfl E41_eq
/-- laws.FnExactCountWins -/
noncomputable def l_FnExactCountWins (p_aA : GBook) (p_aB : GBook) (p_aList : List Bytes) : Option (Bool) :=
  (l_szBook p_aA 1048576).bind fun r1 =>
  bif (decide (r1 < 0)) then
    some true
  else
    (l_szBook p_aB r1).bind fun r2 =>
    bif (decide (r2 < 0)) then
      some true
    else
      (l_szStringS p_aList r2).bind fun r3 =>
      bif (decide (r3 < 0)) then
        some true
      else
        (l_toBook p_aA).bind fun r4 =>
        (l_toBook p_aB).bind fun r5 =>
        (l_toStringS p_aList).bind fun r6 =>
        (s_CountWins (r4.1, ()) (r5.1, ()) r6).bind fun r7 =>
        (l_toBook p_aA).bind fun r8 =>
        (l_toBook p_aB).bind fun r9 =>
        (l_toStringS p_aList).bind fun r10 =>
        (i_CountWins (r8.1, ()) (r9.1, ()) r10).bind fun r11 =>
        (bif (!decide (r11.1 = r7.1)) then
            some true
          else
            some (!decide (r11.2.1 = r7.2.1))).bind fun c12 =>
        (bif c12 then
            some true
          else
            some (!decide (r11.2.2.1 = r7.2.2.1))).bind fun c13 =>
        (bif c13 then
            some true
          else
            some (r11.2.2.2 != r7.2.2.2)).bind fun c14 =>
        bif c14 then
          some false
        else
          (l_toBook p_aA).bind fun r15 =>
          (l_eqBook (r8.1, ()) r15).bind fun r16 =>
          bif (!r16) then
            some false
          else
            (l_toBook p_aB).bind fun r17 =>
            (l_eqBook (r9.1, ()) (r17.1, ())).bind fun r18 =>
            bif (!r18) then
              some false
            else
              (l_toStringS p_aList).bind fun r19 =>
              (l_eqStringS r10 r19).bind fun r20 =>
              bif (!r20) then
                some false
              else
                some true
noncomputable def C10 : FnSpec := { ps := [.val TGBook, .val TGBook, .val (.slice .str)], rs := [.val .bool], fn := fun x => l_FnExactCountWins x.1 x.2.1 x.2.2 }
noncomputable def E10 : Env := { T := [(4, .bool), (24, TGBook), (31, TGBook)], G := [(15, C15), (17, C17), (20, C20), (37, C37), (38, C38), (39, C39), (40, C40), (41, C41)], ro := [3, 4], loops := [], joins := [] }
theorem E10_eq : ∀ x, afun E10 Try.f10 C10.ps C10.rs x = C10.fn x := fun x => by kernel_rfl
theorem S10 : Sound Try.prog 10 C10 := fun_sound (E := E10) ⟨good_T (by kernel_rfl), (good_cons S15 ⟨_, Try.func15, by kernel_rfl, by kernel_rfl⟩ (good_cons S17 ⟨_, Try.func17, by kernel_rfl, by kernel_rfl⟩ (good_cons S20 ⟨_, Try.func20, by kernel_rfl, by kernel_rfl⟩ (good_cons S37 ⟨_, Try.func37, by kernel_rfl, by kernel_rfl⟩ (good_cons S38 ⟨_, Try.func38, by kernel_rfl, by kernel_rfl⟩ (good_cons S39 ⟨_, Try.func39, by kernel_rfl, by kernel_rfl⟩ (good_cons S40 ⟨_, Try.func40, by kernel_rfl, by kernel_rfl⟩ (good_cons S41 ⟨_, Try.func41, by kernel_rfl, by kernel_rfl⟩ good_nil)))))))), mixedOk⟩ Try.func10 rfl E10_eq
end Go.Proofs.Ytbbcmknpbpfkaaa.Sh
