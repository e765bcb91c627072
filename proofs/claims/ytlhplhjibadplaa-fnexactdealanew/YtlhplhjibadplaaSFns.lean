/-
  The functions that the statement reaches, as plain functions; each with its contract.
-/
import Derived.Test.YtlhplhjibadplaaXLift
import Derived.Test.YtlhplhjibadplaaChecked
import Derived.KernelRfl
namespace Go.Proofs.Ytlhplhjibadplaa.Sh
open Go Go.Ab Go.Proofs
set_option maxRecDepth 100000
instance : Tabs := ⟨[]⟩
abbrev TGerrorAddressString : Ty := .pair .str (.pair (.int .u64) .unit)
abbrev GerrorAddressString : Type := Bytes × Int × Unit
abbrev TGPhrase : Ty := .pair .str (.pair (.slice (.int .i64)) .unit)
abbrev GPhrase : Type := Bytes × (List Int) × Unit
abbrev TGl1Cur : Ty := .pair (.slice (.int .u8)) (.pair (.int .i64) (.pair (.int .u64) .unit))
abbrev Gl1Cur : Type := (List Int) × Int × Int × Unit
abbrev TGboundsError : Ty := .pair (.int .i64) (.pair (.int .i64) (.pair .bool (.pair (.int .u8) .unit)))
abbrev GboundsError : Type := Int × Int × Bool × Int × Unit
abbrev TGBook : Ty := .pair (.slice TGPhrase) .unit
abbrev GBook : Type := (List GPhrase) × Unit
theorem mixedOk : Try.prog.follows .mixedOrders = true := by kernel_rfl
/-- laws.szIntS -/
noncomputable def l_szIntS (p_a : List Int) (p_left : Int) : Option (Int) :=
  bif (decide ((w64 (p_left - (p_a.length : Int))) < 0)) then
    some (-1)
  else
    some (w64 (p_left - (p_a.length : Int)))
noncomputable def C130 : FnSpec := { ps := [.val (.slice (.int .i64)), .val (.int .i64)], rs := [.val (.int .i64)], fn := fun x => l_szIntS x.1 x.2 }
noncomputable def E130 : Env := { T := [(38, (.slice (.int .i64)))], G := [], ro := [], loops := [], joins := [] }
theorem E130_eq : ∀ x, afun E130 Try.f130 C130.ps C130.rs x = C130.fn x := fun x => by kernel_rfl
theorem S130 : Sound Try.prog 130 C130 := fun_sound (E := E130) ⟨good_T (by kernel_rfl), good_nil, mixedOk, ins_nil⟩ Try.func130 rfl E130_eq
/-- laws.szPhrase -/
noncomputable def l_szPhrase (p_a : GPhrase) (p_left : Int) : Option (Int) :=
  bif (decide ((w64 (p_left - (p_a.1.length : Int))) < 0)) then
    some (-1)
  else
    (l_szIntS p_a.2.1 (w64 (p_left - (p_a.1.length : Int)))).bind fun r1 =>
    bif (decide (r1 < 0)) then
      some (-1)
    else
      some r1
noncomputable def C99 : FnSpec := { ps := [.val TGPhrase, .val (.int .i64)], rs := [.val (.int .i64)], fn := fun x => l_szPhrase x.1 x.2 }
noncomputable def E99 : Env := { T := [(9, .str), (38, (.slice (.int .i64))), (105, TGPhrase)], G := [(130, C130)], ro := [2], loops := [], joins := [] }
theorem E99_eq : ∀ x, afun E99 Try.f99 C99.ps C99.rs x = C99.fn x := fun x => by kernel_rfl
theorem S99 : Sound Try.prog 99 C99 := fun_sound (E := E99) ⟨good_T (by kernel_rfl), (good_cons S130 ⟨_, Try.func130, by kernel_rfl, by kernel_rfl⟩ good_nil), mixedOk, ins_nil⟩ Try.func99 rfl E99_eq
/-- laws.szPhraseS -/
noncomputable def l_szPhraseS (p_a : List GPhrase) (p_left : Int) : Option (Int) :=
  bif (decide ((w64 (p_left - (p_a.length : Int))) < 0)) then
    some (-1)
  else
    (loopE (fun (st2 : Int × Int) => (
        bif (decide (st2.2 < (p_a.length : Int))) then
          (idx p_a st2.2).bind fun e3 =>
          (l_szPhrase e3 st2.1).bind fun r4 =>
          bif (decide (r4 < 0)) then
            some (.inr (.inr (-1)))
          else
            some (.inl (r4, (w64 (st2.2 + 1))))
        else
          some (.inr (.inl st2.1)) : Option ((Int × Int) ⊕ (Int ⊕ Int)))) ((w64 (p_left - (p_a.length : Int))), 0)).bind fun o5 =>
    match o5 with
    | .inl x6 =>
      some x6
    | .inr y7 =>
      some y7
noncomputable def C52 : FnSpec := { ps := [.val (.slice TGPhrase), .val (.int .i64)], rs := [.val (.int .i64)], fn := fun x => l_szPhraseS x.1 x.2 }
noncomputable def E52 : Env := { T := [(22, (.slice TGPhrase)), (105, TGPhrase)], G := [(99, C99)], ro := [], loops := [(5, { keep := [0], live := [.tv 1 (.int .i64), .tv 5 (.int .i64)], outs := [(.exit 0, [.tv 1 (.int .i64)]), (.ret, [.tv 4 (.int .i64)])] })], joins := [] }
theorem E52_eq : ∀ x, afun E52 Try.f52 C52.ps C52.rs x = C52.fn x := fun x => by kernel_rfl
theorem S52 : Sound Try.prog 52 C52 := fun_sound (E := E52) ⟨good_T (by kernel_rfl), (good_cons S99 ⟨_, Try.func99, by kernel_rfl, by kernel_rfl⟩ good_nil), mixedOk, ins_nil⟩ Try.func52 rfl E52_eq
/-- laws.szBook -/
noncomputable def l_szBook (p_a : GBook) (p_left : Int) : Option (Int) :=
  (l_szPhraseS p_a.1 p_left).bind fun r1 =>
  bif (decide (r1 < 0)) then
    some (-1)
  else
    some r1
noncomputable def C7 : FnSpec := { ps := [.val TGBook, .val (.int .i64)], rs := [.val (.int .i64)], fn := fun x => l_szBook x.1 x.2 }
noncomputable def E7 : Env := { T := [(22, (.slice TGPhrase)), (24, TGBook)], G := [(52, C52)], ro := [2], loops := [], joins := [] }
theorem E7_eq : ∀ x, afun E7 Try.f7 C7.ps C7.rs x = C7.fn x := fun x => by kernel_rfl
theorem S7 : Sound Try.prog 7 C7 := fun_sound (E := E7) ⟨good_T (by kernel_rfl), (good_cons S52 ⟨_, Try.func52, by kernel_rfl, by kernel_rfl⟩ good_nil), mixedOk, ins_nil⟩ Try.func7 rfl E7_eq
/-- laws.toIntS -/
noncomputable def l_toIntS (p_a : List Int) : Option ((List Int)) :=
  bif decide (0 ≤ (p_a.length : Int)) && decide ((p_a.length : Int) ≤ (p_a.length : Int)) && decide ((p_a.length : Int) ≤ lim) then
    (loopE (fun (st2 : (List Int) × Int) => (
        bif (decide (st2.2 < (p_a.length : Int))) then
          (idx p_a st2.2).bind fun e3 =>
          bif decide (0 ≤ st2.2) && decide (st2.2 < (st2.1.length : Int)) then
            some (.inl ((st2.1.set (Int.toNat st2.2) e3), (w64 (st2.2 + 1))))
          else
            none
        else
          some (.inr st2.1) : Option (((List Int) × Int) ⊕ ((List Int))))) ((List.replicate (Int.toNat (p_a.length : Int)) (0 : Int)), 0)).bind fun o4 =>
    some o4
  else
    none
noncomputable def C16 : FnSpec := { ps := [.val (.slice (.int .i64))], rs := [.own (.slice (.int .i64))], fn := fun x => l_toIntS x }
noncomputable def E16 : Env := { T := [(3, (.int .i64)), (38, (.slice (.int .i64)))], G := [], ro := [], loops := [(3, { keep := [0], live := [.own 3 [] 112 (.int .i64) true, .tv 4 (.int .i64)], outs := [(.exit 0, [.own 3 [] 112 (.int .i64) true])] })], joins := [] }
theorem E16_eq : ∀ x, afun E16 Try.f16 C16.ps C16.rs x = C16.fn x := fun x => by kernel_rfl
theorem S16 : Sound Try.prog 16 C16 := fun_sound (E := E16) ⟨good_T (by kernel_rfl), good_nil, mixedOk, ins_nil⟩ Try.func16 rfl E16_eq
/-- laws.toPhrase -/
noncomputable def l_toPhrase (p_a : GPhrase) : Option (GPhrase) :=
  (l_toIntS p_a.2.1).bind fun r1 =>
  some (p_a.1, r1, ())
noncomputable def C104 : FnSpec := { ps := [.val TGPhrase], rs := [.own TGPhrase], fn := fun x => l_toPhrase x }
noncomputable def E104 : Env := { T := [(9, .str), (38, (.slice (.int .i64))), (61, TGPhrase), (105, TGPhrase)], G := [(16, C16)], ro := [1], loops := [], joins := [] }
theorem E104_eq : ∀ x, afun E104 Try.f104 C104.ps C104.rs x = C104.fn x := fun x => by kernel_rfl
theorem S104 : Sound Try.prog 104 C104 := fun_sound (E := E104) ⟨good_T (by kernel_rfl), (good_cons S16 ⟨_, Try.func16, by kernel_rfl, by kernel_rfl⟩ good_nil), mixedOk, ins_nil⟩ Try.func104 rfl E104_eq
/-- laws.toPhraseS -/
noncomputable def l_toPhraseS (p_a : List GPhrase) : Option ((List GPhrase)) :=
  bif decide (0 ≤ (p_a.length : Int)) && decide ((p_a.length : Int) ≤ (p_a.length : Int)) && decide ((p_a.length : Int) ≤ lim) then
    (loopE (fun (st2 : (List GPhrase) × Int) => (
        bif (decide (st2.2 < (p_a.length : Int))) then
          (idx p_a st2.2).bind fun e3 =>
          (l_toPhrase e3).bind fun r4 =>
          bif decide (0 ≤ st2.2) && decide (st2.2 < (st2.1.length : Int)) then
            some (.inl ((st2.1.set (Int.toNat st2.2) r4), (w64 (st2.2 + 1))))
          else
            none
        else
          some (.inr st2.1) : Option (((List GPhrase) × Int) ⊕ ((List GPhrase))))) ((List.replicate (Int.toNat (p_a.length : Int)) (([], ([], ())) : GPhrase)), 0)).bind fun o5 =>
    some o5
  else
    none
noncomputable def C56 : FnSpec := { ps := [.val (.slice TGPhrase)], rs := [.own (.slice TGPhrase)], fn := fun x => l_toPhraseS x }
noncomputable def E56 : Env := { T := [(22, (.slice TGPhrase)), (30, (.slice TGPhrase)), (61, TGPhrase), (105, TGPhrase)], G := [(104, C104)], ro := [], loops := [(3, { keep := [0], live := [.own 3 [] 112 TGPhrase true, .tv 4 (.int .i64)], outs := [(.exit 0, [.own 3 [] 112 TGPhrase true])] })], joins := [], mv := true }
theorem E56_eq : ∀ x, afun E56 Try.f56 C56.ps C56.rs x = C56.fn x := fun x => by kernel_rfl
theorem S56 : Sound Try.prog 56 C56 := fun_sound (E := E56) ⟨good_T (by kernel_rfl), (good_cons S104 ⟨_, Try.func104, by kernel_rfl, by kernel_rfl⟩ good_nil), mixedOk, ins_nil⟩ Try.func56 rfl E56_eq
/-- laws.toBook -/
noncomputable def l_toBook (p_a : GBook) : Option (GBook) :=
  (l_toPhraseS p_a.1).bind fun r1 =>
  some (r1, ())
noncomputable def C10 : FnSpec := { ps := [.val TGBook], rs := [.own TGBook], fn := fun x => l_toBook x }
noncomputable def E10 : Env := { T := [(22, (.slice TGPhrase)), (24, TGBook), (30, (.slice TGPhrase)), (32, TGBook)], G := [(56, C56)], ro := [1], loops := [], joins := [] }
theorem E10_eq : ∀ x, afun E10 Try.f10 C10.ps C10.rs x = C10.fn x := fun x => by kernel_rfl
theorem S10 : Sound Try.prog 10 C10 := fun_sound (E := E10) ⟨good_T (by kernel_rfl), (good_cons S56 ⟨_, Try.func56, by kernel_rfl, by kernel_rfl⟩ good_nil), mixedOk, ins_nil⟩ Try.func10 rfl E10_eq
/-- laws.eqIntS -/
noncomputable def l_eqIntS (p_a : List Int) (p_b : List Int) : Option (Bool) :=
  bif (!decide ((p_a.length : Int) = (p_b.length : Int))) then
    some false
  else
    (loopE (fun (st2 : Int) => (
        bif (decide (st2 < (p_a.length : Int))) then
          (idx p_a st2).bind fun e3 =>
          (idx p_b st2).bind fun e4 =>
          bif (!decide (e3 = e4)) then
            some (.inr (.inr false))
          else
            some (.inl (w64 (st2 + 1)))
        else
          some (.inr (.inl ())) : Option ((Int) ⊕ (Unit ⊕ Bool)))) 0).bind fun o5 =>
    match o5 with
    | .inl _ =>
      some true
    | .inr y7 =>
      some y7
noncomputable def C18 : FnSpec := { ps := [.val (.slice (.int .i64)), .val (.slice (.int .i64))], rs := [.val .bool], fn := fun x => l_eqIntS x.1 x.2 }
noncomputable def E18 : Env := { T := [(3, (.int .i64)), (38, (.slice (.int .i64)))], G := [], ro := [], loops := [(4, { keep := [0, 1], live := [.tv 5 (.int .i64)], outs := [(.exit 0, []), (.ret, [.tv 4 .bool])] })], joins := [] }
theorem E18_eq : ∀ x, afun E18 Try.f18 C18.ps C18.rs x = C18.fn x := fun x => by kernel_rfl
theorem S18 : Sound Try.prog 18 C18 := fun_sound (E := E18) ⟨good_T (by kernel_rfl), good_nil, mixedOk, ins_nil⟩ Try.func18 rfl E18_eq
/-- laws.eqPhrase -/
noncomputable def l_eqPhrase (p_a : GPhrase) (p_b : GPhrase) : Option (Bool) :=
  bif (!decide (p_a.1 = p_b.1)) then
    some false
  else
    (l_eqIntS p_a.2.1 p_b.2.1).bind fun r1 =>
    bif (!r1) then
      some false
    else
      some true
noncomputable def C107 : FnSpec := { ps := [.val TGPhrase, .val TGPhrase], rs := [.val .bool], fn := fun x => l_eqPhrase x.1 x.2 }
noncomputable def E107 : Env := { T := [(9, .str), (38, (.slice (.int .i64))), (61, TGPhrase)], G := [(18, C18)], ro := [2, 3], loops := [], joins := [] }
theorem E107_eq : ∀ x, afun E107 Try.f107 C107.ps C107.rs x = C107.fn x := fun x => by kernel_rfl
theorem S107 : Sound Try.prog 107 C107 := fun_sound (E := E107) ⟨good_T (by kernel_rfl), (good_cons S18 ⟨_, Try.func18, by kernel_rfl, by kernel_rfl⟩ good_nil), mixedOk, ins_nil⟩ Try.func107 rfl E107_eq
/-- laws.eqPhraseS -/
noncomputable def l_eqPhraseS (p_a : List GPhrase) (p_b : List GPhrase) : Option (Bool) :=
  bif (!decide ((p_a.length : Int) = (p_b.length : Int))) then
    some false
  else
    (loopE (fun (st2 : Int) => (
        bif (decide (st2 < (p_a.length : Int))) then
          (idx p_a st2).bind fun e3 =>
          (idx p_b st2).bind fun e4 =>
          (l_eqPhrase e3 e4).bind fun r5 =>
          bif (!r5) then
            some (.inr (.inr false))
          else
            some (.inl (w64 (st2 + 1)))
        else
          some (.inr (.inl ())) : Option ((Int) ⊕ (Unit ⊕ Bool)))) 0).bind fun o6 =>
    match o6 with
    | .inl _ =>
      some true
    | .inr y8 =>
      some y8
noncomputable def C60 : FnSpec := { ps := [.val (.slice TGPhrase), .val (.slice TGPhrase)], rs := [.val .bool], fn := fun x => l_eqPhraseS x.1 x.2 }
noncomputable def E60 : Env := { T := [(30, (.slice TGPhrase)), (61, TGPhrase)], G := [(107, C107)], ro := [], loops := [(4, { keep := [0, 1], live := [.tv 5 (.int .i64)], outs := [(.exit 0, []), (.ret, [.tv 4 .bool])] })], joins := [] }
theorem E60_eq : ∀ x, afun E60 Try.f60 C60.ps C60.rs x = C60.fn x := fun x => by kernel_rfl
theorem S60 : Sound Try.prog 60 C60 := fun_sound (E := E60) ⟨good_T (by kernel_rfl), (good_cons S107 ⟨_, Try.func107, by kernel_rfl, by kernel_rfl⟩ good_nil), mixedOk, ins_nil⟩ Try.func60 rfl E60_eq
/-- laws.eqBook -/
noncomputable def l_eqBook (p_a : GBook) (p_b : GBook) : Option (Bool) :=
  (l_eqPhraseS p_a.1 p_b.1).bind fun r1 =>
  bif (!r1) then
    some false
  else
    some true
noncomputable def C13 : FnSpec := { ps := [.val TGBook, .val TGBook], rs := [.val .bool], fn := fun x => l_eqBook x.1 x.2 }
noncomputable def E13 : Env := { T := [(30, (.slice TGPhrase)), (32, TGBook)], G := [(60, C60)], ro := [2, 3], loops := [], joins := [] }
theorem E13_eq : ∀ x, afun E13 Try.f13 C13.ps C13.rs x = C13.fn x := fun x => by kernel_rfl
theorem S13 : Sound Try.prog 13 C13 := fun_sound (E := E13) ⟨good_T (by kernel_rfl), (good_cons S60 ⟨_, Try.func60, by kernel_rfl, by kernel_rfl⟩ good_nil), mixedOk, ins_nil⟩ Try.func13 rfl E13_eq
/-- spec.l1In -/
noncomputable def s_l1In (p_n : Int) (p_lo : Int) (p_hi : Int) : Option (Bool) :=
  (bif (decide (p_lo ≤ p_n)) then
      some (decide (p_n ≤ p_hi))
    else
      some false).bind fun c1 =>
  some c1
noncomputable def C86 : FnSpec := { ps := [.val (.int .i64), .val (.int .i64), .val (.int .i64)], rs := [.val .bool], fn := fun x => s_l1In x.1 x.2.1 x.2.2 }
noncomputable def E86 : Env := { T := [], G := [], ro := [], loops := [], joins := [] }
theorem E86_eq : ∀ x, afun E86 Try.f86 C86.ps C86.rs x = C86.fn x := fun x => by kernel_rfl
theorem S86 : Sound Try.prog 86 C86 := fun_sound (E := E86) ⟨good_T (by kernel_rfl), good_nil, mixedOk, ins_nil⟩ Try.func86 rfl E86_eq
/-- spec.bkLetters -/
noncomputable def s_bkLetters (p_s : Bytes) : Option (Bool) :=
  (loopE (fun (st2 : Int) => (
      bif (decide (st2 < (p_s.length : Int))) then
        (idx p_s st2).bind fun b3 =>
        (bif (decide ((b3.toNat : Int) < 97)) then
            some true
          else
            (idx p_s st2).bind fun b4 =>
            some (decide (122 < (b4.toNat : Int)))).bind fun c5 =>
        bif c5 then
          some (.inr (.inr false))
        else
          some (.inl (w64 (st2 + 1)))
      else
        some (.inr (.inl ())) : Option ((Int) ⊕ (Unit ⊕ Bool)))) 0).bind fun o6 =>
  match o6 with
  | .inl _ =>
    some (decide ((p_s.length : Int) ≤ 12))
  | .inr y8 =>
    some y8
noncomputable def C131 : FnSpec := { ps := [.val .str], rs := [.val .bool], fn := fun x => s_bkLetters x }
noncomputable def E131 : Env := { T := [(9, .str)], G := [], ro := [], loops := [(2, { keep := [0], live := [.tv 3 (.int .i64)], outs := [(.exit 0, []), (.ret, [.tv 2 .bool])] })], joins := [] }
theorem E131_eq : ∀ x, afun E131 Try.f131 C131.ps C131.rs x = C131.fn x := fun x => by kernel_rfl
theorem S131 : Sound Try.prog 131 C131 := fun_sound (E := E131) ⟨good_T (by kernel_rfl), good_nil, mixedOk, ins_nil⟩ Try.func131 rfl E131_eq
/-- spec.bkPhraseText -/
noncomputable def s_bkPhraseText (p_s : Bytes) : Option (Bool) :=
  (s_bkLetters p_s).bind fun r1 =>
  (bif r1 then
      some (!decide (p_s = []))
    else
      some false).bind fun c2 =>
  some c2
noncomputable def C100 : FnSpec := { ps := [.val .str], rs := [.val .bool], fn := fun x => s_bkPhraseText x }
noncomputable def E100 : Env := { T := [], G := [(131, C131)], ro := [], loops := [], joins := [] }
theorem E100_eq : ∀ x, afun E100 Try.f100 C100.ps C100.rs x = C100.fn x := fun x => by kernel_rfl
theorem S100 : Sound Try.prog 100 C100 := fun_sound (E := E100) ⟨good_T (by kernel_rfl), (good_cons S131 ⟨_, Try.func131, by kernel_rfl, by kernel_rfl⟩ good_nil), mixedOk, ins_nil⟩ Try.func100 rfl E100_eq
/-- spec.l1All -/
noncomputable def s_l1All (p_l : List Int) (p_lo : Int) (p_hi : Int) : Option (Bool) :=
  (loopE (fun (st2 : Int) => (
      bif (decide (st2 < (p_l.length : Int))) then
        (idx p_l st2).bind fun e3 =>
        (s_l1In e3 p_lo p_hi).bind fun r4 =>
        bif (!r4) then
          some (.inr (.inr false))
        else
          some (.inl (w64 (st2 + 1)))
      else
        some (.inr (.inl ())) : Option ((Int) ⊕ (Unit ⊕ Bool)))) 0).bind fun o5 =>
  match o5 with
  | .inl _ =>
    some true
  | .inr y7 =>
    some y7
noncomputable def C108 : FnSpec := { ps := [.val (.slice (.int .i64)), .val (.int .i64), .val (.int .i64)], rs := [.val .bool], fn := fun x => s_l1All x.1 x.2.1 x.2.2 }
noncomputable def E108 : Env := { T := [(3, (.int .i64)), (38, (.slice (.int .i64)))], G := [(86, C86)], ro := [], loops := [(2, { keep := [1, 2, 9, 10], live := [.tv 11 (.int .i64)], outs := [(.exit 0, []), (.ret, [.tv 6 .bool])] })], joins := [] }
theorem E108_eq : ∀ x, afun E108 Try.f108 C108.ps C108.rs x = C108.fn x := fun x => by kernel_rfl
theorem S108 : Sound Try.prog 108 C108 := fun_sound (E := E108) ⟨good_T (by kernel_rfl), (good_cons S86 ⟨_, Try.func86, by kernel_rfl, by kernel_rfl⟩ good_nil), mixedOk, ins_nil⟩ Try.func108 rfl E108_eq
/-- spec.bkSignals -/
noncomputable def s_bkSignals (p_l : List Int) : Option (Bool) :=
  (s_l1In (p_l.length : Int) 1 3).bind fun r1 =>
  (bif r1 then
      (s_l1All p_l 1 60).bind fun r2 =>
      some r2
    else
      some false).bind fun c3 =>
  some c3
noncomputable def C101 : FnSpec := { ps := [.val (.slice (.int .i64))], rs := [.val .bool], fn := fun x => s_bkSignals x }
noncomputable def E101 : Env := { T := [(38, (.slice (.int .i64)))], G := [(86, C86), (108, C108)], ro := [], loops := [], joins := [] }
theorem E101_eq : ∀ x, afun E101 Try.f101 C101.ps C101.rs x = C101.fn x := fun x => by kernel_rfl
theorem S101 : Sound Try.prog 101 C101 := fun_sound (E := E101) ⟨good_T (by kernel_rfl), (good_cons S86 ⟨_, Try.func86, by kernel_rfl, by kernel_rfl⟩ (good_cons S108 ⟨_, Try.func108, by kernel_rfl, by kernel_rfl⟩ good_nil)), mixedOk, ins_nil⟩ Try.func101 rfl E101_eq
/-- spec.l1Same -/
noncomputable def s_l1Same (p_a : List Int) (p_b : List Int) : Option (Bool) :=
  bif (!decide ((p_a.length : Int) = (p_b.length : Int))) then
    some false
  else
    (loopE (fun (st2 : Int) => (
        bif (decide (st2 < (p_a.length : Int))) then
          (idx p_a st2).bind fun e3 =>
          (idx p_b st2).bind fun e4 =>
          bif (!decide (e3 = e4)) then
            some (.inr (.inr false))
          else
            some (.inl (w64 (st2 + 1)))
        else
          some (.inr (.inl ())) : Option ((Int) ⊕ (Unit ⊕ Bool)))) 0).bind fun o5 =>
    match o5 with
    | .inl _ =>
      some true
    | .inr y7 =>
      some y7
noncomputable def C132 : FnSpec := { ps := [.val (.slice (.int .i64)), .val (.slice (.int .i64))], rs := [.val .bool], fn := fun x => s_l1Same x.1 x.2 }
noncomputable def E132 : Env := { T := [(3, (.int .i64)), (38, (.slice (.int .i64)))], G := [], ro := [], loops := [(4, { keep := [0, 1, 12], live := [.tv 13 (.int .i64)], outs := [(.exit 0, []), (.ret, [.tv 4 .bool])] })], joins := [] }
theorem E132_eq : ∀ x, afun E132 Try.f132 C132.ps C132.rs x = C132.fn x := fun x => by kernel_rfl
theorem S132 : Sound Try.prog 132 C132 := fun_sound (E := E132) ⟨good_T (by kernel_rfl), good_nil, mixedOk, ins_nil⟩ Try.func132 rfl E132_eq
/-- spec.bkOf -/
noncomputable def s_bkOf (p_b : GBook) (p_l : List Int) : Option (Int) :=
  (loopE (fun (st2 : Int) => (
      bif (decide (st2 < (p_b.1.length : Int))) then
        (idx p_b.1 st2).bind fun e3 =>
        (s_l1Same e3.2.1 p_l).bind fun r4 =>
        bif r4 then
          some (.inr (.inr st2))
        else
          some (.inl (w64 (st2 + 1)))
      else
        some (.inr (.inl ())) : Option ((Int) ⊕ (Unit ⊕ Int)))) 0).bind fun o5 =>
  match o5 with
  | .inl _ =>
    some (-1)
  | .inr y7 =>
    some y7
noncomputable def C102 : FnSpec := { ps := [.val TGBook, .val (.slice (.int .i64))], rs := [.val (.int .i64)], fn := fun x => s_bkOf x.1 x.2 }
noncomputable def E102 : Env := { T := [(30, (.slice TGPhrase)), (32, TGBook), (38, (.slice (.int .i64))), (61, TGPhrase)], G := [(132, C132)], ro := [2], loops := [(2, { keep := [1, 8, 9], live := [.tv 10 (.int .i64)], outs := [(.exit 0, []), (.ret, [.tv 4 (.int .i64)])] })], joins := [] }
theorem E102_eq : ∀ x, afun E102 Try.f102 C102.ps C102.rs x = C102.fn x := fun x => by kernel_rfl
theorem S102 : Sound Try.prog 102 C102 := fun_sound (E := E102) ⟨good_T (by kernel_rfl), (good_cons S132 ⟨_, Try.func132, by kernel_rfl, by kernel_rfl⟩ good_nil), mixedOk, ins_nil⟩ Try.func102 rfl E102_eq
/-- spec.bkGood -/
noncomputable def s_bkGood (p_b : GBook) : Option (Bool) :=
  (loopE (fun (st2 : Int) => (
      bif (decide (st2 < (p_b.1.length : Int))) then
        (idx p_b.1 st2).bind fun e3 =>
        (s_bkPhraseText e3.1).bind fun r4 =>
        (bif (!r4) then
            some true
          else
            (s_bkSignals e3.2.1).bind fun r5 =>
            some (!r5)).bind fun c6 =>
        (bif c6 then
            some true
          else
            (bif (decide (0 < st2)) then
                (idx p_b.1 (w64 (st2 - 1))).bind fun e7 =>
                some (!Op.bytesLess e7.1 e3.1)
              else
                some false).bind fun c8 =>
            some c8).bind fun c9 =>
        (bif c9 then
            some true
          else
            (s_bkOf p_b e3.2.1).bind fun r10 =>
            some (!decide (r10 = st2))).bind fun c11 =>
        bif c11 then
          some (.inr (.inr false))
        else
          some (.inl (w64 (st2 + 1)))
      else
        some (.inr (.inl ())) : Option ((Int) ⊕ (Unit ⊕ Bool)))) 0).bind fun o12 =>
  match o12 with
  | .inl _ =>
    (s_l1In (p_b.1.length : Int) 1 40).bind fun r15 =>
    some r15
  | .inr y14 =>
    some y14
noncomputable def C53 : FnSpec := { ps := [.val TGBook], rs := [.val .bool], fn := fun x => s_bkGood x }
noncomputable def E53 : Env := { T := [(9, .str), (30, (.slice TGPhrase)), (32, TGBook), (38, (.slice (.int .i64))), (61, TGPhrase)], G := [(86, C86), (100, C100), (101, C101), (102, C102)], ro := [1], loops := [(2, { keep := [1, 6, 7], live := [.tv 8 (.int .i64)], outs := [(.exit 0, []), (.ret, [.tv 2 .bool])] })], joins := [] }
theorem E53_eq : ∀ x, afun E53 Try.f53 C53.ps C53.rs x = C53.fn x := fun x => by kernel_rfl
theorem S53 : Sound Try.prog 53 C53 := fun_sound (E := E53) ⟨good_T (by kernel_rfl), (good_cons S86 ⟨_, Try.func86, by kernel_rfl, by kernel_rfl⟩ (good_cons S100 ⟨_, Try.func100, by kernel_rfl, by kernel_rfl⟩ (good_cons S101 ⟨_, Try.func101, by kernel_rfl, by kernel_rfl⟩ (good_cons S102 ⟨_, Try.func102, by kernel_rfl, by kernel_rfl⟩ good_nil)))), mixedOk, ins_nil⟩ Try.func53 rfl E53_eq
/-- spec.msAsked -/
noncomputable def s_msAsked (p_b : GBook) (p_weights : List Int) : Option (Bool) :=
  (s_bkGood p_b).bind fun r1 =>
  (bif r1 then
      some (decide ((p_weights.length : Int) = (p_b.1.length : Int)))
    else
      some false).bind fun c2 =>
  (bif c2 then
      (s_l1All p_weights 0 10000).bind fun r3 =>
      some r3
    else
      some false).bind fun c4 =>
  some c4
noncomputable def C61 : FnSpec := { ps := [.val TGBook, .val (.slice (.int .i64))], rs := [.val .bool], fn := fun x => s_msAsked x.1 x.2 }
noncomputable def E61 : Env := { T := [(30, (.slice TGPhrase)), (32, TGBook), (38, (.slice (.int .i64)))], G := [(53, C53), (108, C108)], ro := [2], loops := [], joins := [] }
theorem E61_eq : ∀ x, afun E61 Try.f61 C61.ps C61.rs x = C61.fn x := fun x => by kernel_rfl
theorem S61 : Sound Try.prog 61 C61 := fun_sound (E := E61) ⟨good_T (by kernel_rfl), (good_cons S53 ⟨_, Try.func53, by kernel_rfl, by kernel_rfl⟩ (good_cons S108 ⟨_, Try.func108, by kernel_rfl, by kernel_rfl⟩ good_nil)), mixedOk, ins_nil⟩ Try.func61 rfl E61_eq
/-- spec.l1Own -/
noncomputable def s_l1Own (p_l : List Int) : Option ((List Int)) :=
  bif decide (List.length p_l ≤ lim) then
    some p_l
  else
    none
noncomputable def C64 : FnSpec := { ps := [.val (.slice (.int .i64))], rs := [.own (.slice (.int .i64))], fn := fun x => s_l1Own x }
noncomputable def E64 : Env := { T := [(38, (.slice (.int .i64)))], G := [], ro := [], loops := [], joins := [] }
theorem E64_eq : ∀ x, afun E64 Try.f64 C64.ps C64.rs x = C64.fn x := fun x => by kernel_rfl
theorem S64 : Sound Try.prog 64 C64 := fun_sound (E := E64) ⟨good_T (by kernel_rfl), good_nil, mixedOk, ins_nil⟩ Try.func64 rfl E64_eq
/-- spec.bkOwn -/
noncomputable def s_bkOwn (p_l : List GPhrase) : Option ((List GPhrase)) :=
  (loopE (fun (st2 : (List GPhrase) × Int) => (
      bif (decide (st2.2 < (p_l.length : Int))) then
        (idx p_l st2.2).bind fun e3 =>
        (s_l1Own e3.2.1).bind fun r4 =>
        bif decide (List.length st2.1 + List.length [(e3.1, r4, ())] ≤ lim) then
          some (.inl ((st2.1 ++ [(e3.1, r4, ())]), (w64 (st2.2 + 1))))
        else
          none
      else
        some (.inr st2.1) : Option (((List GPhrase) × Int) ⊕ ((List GPhrase))))) ([], 0)).bind fun o5 =>
  some o5
noncomputable def C62 : FnSpec := { ps := [.val (.slice TGPhrase)], rs := [.own (.slice TGPhrase)], fn := fun x => s_bkOwn x }
noncomputable def E62 : Env := { T := [(9, .str), (30, (.slice TGPhrase)), (38, (.slice (.int .i64))), (61, TGPhrase)], G := [(64, C64)], ro := [], loops := [(3, { keep := [6, 7], live := [.own 3 [] 200003 TGPhrase true, .tv 8 (.int .i64)], outs := [(.exit 0, [.own 3 [] 200003 TGPhrase true])] })], joins := [], mv := true, hoist := [(5, [0])] }
theorem E62_eq : ∀ x, afun E62 Try.f62 C62.ps C62.rs x = C62.fn x := fun x => by kernel_rfl
theorem S62 : Sound Try.prog 62 C62 := fun_sound (E := E62) ⟨good_T (by kernel_rfl), (good_cons S64 ⟨_, Try.func64, by kernel_rfl, by kernel_rfl⟩ good_nil), mixedOk, ins_nil⟩ Try.func62 rfl E62_eq
/-- spec.cmOrder -/
noncomputable def s_cmOrder (p_weights : List Int) : Option ((List Int)) :=
  (loopE (fun (st2 : (List Int) × Int) => (
      bif (decide (st2.2 < (p_weights.length : Int))) then
        (idx p_weights st2.2).bind fun e3 =>
        (loopE (fun (st5 : (List Int) × Int) => (
            (bif (decide (0 < st5.2)) then
                bif decide (0 ≤ (w64 (st5.2 - 1))) && decide ((w64 (st5.2 - 1)) < (st5.1.length : Int)) then
                  (st5.1[(Int.toNat (w64 (st5.2 - 1)))]?).bind fun e6 =>
                  (idx p_weights e6).bind fun e7 =>
                  some (decide (e7 < e3))
                else
                  none
              else
                some false).bind fun c8 =>
            bif c8 then
              some (.inl (st5.1, (w64 (st5.2 - 1))))
            else
              some (.inr (st5.1, st5.2)) : Option (((List Int) × Int) ⊕ (((List Int) × Int))))) (st2.1, (st2.1.length : Int))).bind fun o9 =>
        (sub o9.1 0 o9.2).bind fun l10 =>
        (s_l1Own l10).bind fun r11 =>
        (sub o9.1 o9.2 (o9.1.length : Int)).bind fun l12 =>
        bif decide (List.length r11 + List.length [st2.2] ≤ lim) then
          bif decide (List.length (r11 ++ [st2.2]) + List.length l12 ≤ lim) then
            some (.inl (((r11 ++ [st2.2]) ++ l12), (w64 (st2.2 + 1))))
          else
            none
        else
          none
      else
        some (.inr st2.1) : Option (((List Int) × Int) ⊕ ((List Int))))) ([], 0)).bind fun o13 =>
  some o13
noncomputable def C63 : FnSpec := { ps := [.val (.slice (.int .i64))], rs := [.own (.slice (.int .i64))], fn := fun x => s_cmOrder x }
noncomputable def E63 : Env := { T := [(3, (.int .i64)), (38, (.slice (.int .i64)))], G := [(64, C64)], ro := [], loops := [(3, { keep := [0, 7, 8], live := [.own 3 [] 200003 (.int .i64) true, .tv 9 (.int .i64)], outs := [(.exit 0, [.own 3 [] 200003 (.int .i64) true])] }), (6, { keep := [0, 4, 5, 7, 8, 9], live := [.own 3 [] 200003 (.int .i64) true, .tv 6 (.int .i64)], outs := [(.exit 2, [.own 3 [] 200003 (.int .i64) true, .tv 6 (.int .i64)])] })], joins := [], pre := [(8, [200003])] }
theorem E63_eq : ∀ x, afun E63 Try.f63 C63.ps C63.rs x = C63.fn x := fun x => by kernel_rfl
theorem S63 : Sound Try.prog 63 C63 := fun_sound (E := E63) ⟨good_T (by kernel_rfl), (good_cons S64 ⟨_, Try.func64, by kernel_rfl, by kernel_rfl⟩ good_nil), mixedOk, ins_nil⟩ Try.func63 rfl E63_eq
/-- spec.DealAnew -/
noncomputable def s_DealAnew (p_b : GBook) (p_weights : List Int) : Option (GBook × Bool) :=
  (s_msAsked p_b p_weights).bind fun r1 =>
  bif (!r1) then
    some (([], ()), false)
  else
    (loopE (fun (st3 : (List GPhrase) × (List Int) × Int) => (
        bif (decide (st3.2.2 ≤ 3)) then
          (loopE (fun (st5 : (List GPhrase) × (List Int) × Int) => (
              bif (decide (st5.2.2 < (p_b.1.length : Int))) then
                (idx p_b.1 st5.2.2).bind fun e6 =>
                bif (decide ((e6.2.1.length : Int) = st3.2.2)) then
                  bif decide (List.length st5.2.1 + List.length [st5.2.2] ≤ lim) then
                    some (.inl (st5.1, (st5.2.1 ++ [st5.2.2]), (w64 (st5.2.2 + 1))))
                  else
                    none
                else
                  some (.inl (st5.1, st5.2.1, (w64 (st5.2.2 + 1))))
              else
                some (.inr (st5.1, st5.2.1)) : Option (((List GPhrase) × (List Int) × Int) ⊕ (((List GPhrase) × (List Int)))))) (st3.1, st3.2.1, 0)).bind fun o7 =>
          some (.inl (o7.1, o7.2, (w64 (st3.2.2 + 1))))
        else
          some (.inr (st3.1, st3.2.1)) : Option (((List GPhrase) × (List Int) × Int) ⊕ (((List GPhrase) × (List Int)))))) ([], [], 1)).bind fun o8 =>
    (s_bkOwn p_b.1).bind fun r9 =>
    (s_cmOrder p_weights).bind fun r10 =>
    (loopE (fun (st12 : (List GPhrase) × (List Int) × (List GPhrase) × (List Int) × Int) => (
        bif (decide (st12.2.2.2.2 < (r10.length : Int))) then
          bif decide (0 ≤ st12.2.2.2.2) && decide (st12.2.2.2.2 < (st12.2.2.2.1.length : Int)) then
            (st12.2.2.2.1[(Int.toNat st12.2.2.2.2)]?).bind fun e13 =>
            bif decide (0 ≤ st12.2.2.2.2) && decide (st12.2.2.2.2 < (st12.2.1.length : Int)) then
              (st12.2.1[(Int.toNat st12.2.2.2.2)]?).bind fun e14 =>
              (idx p_b.1 e14).bind fun e15 =>
              (s_l1Own e15.2.1).bind fun r16 =>
              bif decide (0 ≤ e13) && decide (e13 < (st12.2.2.1.length : Int)) then
                (st12.2.2.1[(Int.toNat e13)]?).bind fun e17 =>
                some (.inl (st12.1, st12.2.1, (st12.2.2.1.set (Int.toNat e13) (e17.1, r16, ())), st12.2.2.2.1, (w64 (st12.2.2.2.2 + 1))))
              else
                none
            else
              none
          else
            none
        else
          some (.inr (st12.1, st12.2.2.1)) : Option (((List GPhrase) × (List Int) × (List GPhrase) × (List Int) × Int) ⊕ (((List GPhrase) × (List GPhrase)))))) (o8.1, o8.2, r9, r10, 0)).bind fun o18 =>
    some ((o18.2, ()), true)
noncomputable def C15 : FnSpec := { ps := [.val TGBook, .val (.slice (.int .i64))], rs := [.own TGBook, .val .bool], fn := fun x => s_DealAnew x.1 x.2 }
noncomputable def E15 : Env := { T := [(3, (.int .i64)), (30, (.slice TGPhrase)), (32, TGBook), (38, (.slice (.int .i64))), (61, TGPhrase)], G := [(61, C61), (62, C62), (63, C63), (64, C64)], ro := [2], loops := [(5, { keep := [1, 2], live := [.bx 4 64 [.own 300064 TGPhrase true], .own 6 [] 200006 (.int .i64) true, .tv 7 (.int .i64)], outs := [(.exit 0, [.bx 4 64 [.own 300064 TGPhrase true], .own 6 [] 200006 (.int .i64) true])] }), (8, { keep := [1, 2, 7, 23, 24], live := [.bx 4 64 [.own 300064 TGPhrase true], .own 6 [] 200006 (.int .i64) true, .tv 25 (.int .i64)], outs := [(.exit 2, [.bx 4 64 [.own 300064 TGPhrase true], .own 6 [] 200006 (.int .i64) true])] }), (15, { keep := [2, 46], live := [.bx 4 64 [.own 300064 TGPhrase true], .own 6 [] 200006 (.int .i64) true, .bx 10 160 [.own 672 TGPhrase true], .own 45 [] 720 (.int .i64) true, .tv 47 (.int .i64)], outs := [(.exit 4, [.bx 4 64 [.own 300064 TGPhrase true], .bx 10 160 [.own 672 TGPhrase true]])] })], joins := [], mv := true }
theorem E15_eq : ∀ x, afun E15 Try.f15 C15.ps C15.rs x = C15.fn x := fun x => by kernel_rfl
theorem S15 : Sound Try.prog 15 C15 := fun_sound (E := E15) ⟨good_T (by kernel_rfl), (good_cons S61 ⟨_, Try.func61, by kernel_rfl, by kernel_rfl⟩ (good_cons S62 ⟨_, Try.func62, by kernel_rfl, by kernel_rfl⟩ (good_cons S63 ⟨_, Try.func63, by kernel_rfl, by kernel_rfl⟩ (good_cons S64 ⟨_, Try.func64, by kernel_rfl, by kernel_rfl⟩ good_nil)))), mixedOk, ins_nil⟩ Try.func15 rfl E15_eq
/-- impl.within -/
noncomputable def i_within (p_n : Int) (p_low : Int) (p_high : Int) : Option (Bool) :=
  (bif (decide (p_low ≤ p_n)) then
      some (decide (p_n ≤ p_high))
    else
      some false).bind fun c1 =>
  some c1
noncomputable def C84 : FnSpec := { ps := [.val (.int .i64), .val (.int .i64), .val (.int .i64)], rs := [.val .bool], fn := fun x => i_within x.1 x.2.1 x.2.2 }
noncomputable def E84 : Env := { T := [], G := [], ro := [], loops := [], joins := [] }
theorem E84_eq : ∀ x, afun E84 Try.f84 C84.ps C84.rs x = C84.fn x := fun x => by kernel_rfl
theorem S84 : Sound Try.prog 84 C84 := fun_sound (E := E84) ⟨good_T (by kernel_rfl), good_nil, mixedOk, ins_nil⟩ Try.func84 rfl E84_eq
/-- impl.allWithin -/
noncomputable def i_allWithin (p_l : List Int) (p_low : Int) (p_high : Int) : Option (Bool) :=
  (loopE (fun (st2 : Int) => (
      bif (decide (st2 < (p_l.length : Int))) then
        (idx p_l st2).bind fun e3 =>
        (i_within e3 p_low p_high).bind fun r4 =>
        bif (!r4) then
          some (.inr (.inr false))
        else
          some (.inl (w64 (st2 + 1)))
      else
        some (.inr (.inl ())) : Option ((Int) ⊕ (Unit ⊕ Bool)))) 0).bind fun o5 =>
  match o5 with
  | .inl _ =>
    some true
  | .inr y7 =>
    some y7
noncomputable def C109 : FnSpec := { ps := [.val (.slice (.int .i64)), .val (.int .i64), .val (.int .i64)], rs := [.val .bool], fn := fun x => i_allWithin x.1 x.2.1 x.2.2 }
noncomputable def E109 : Env := { T := [(3, (.int .i64)), (38, (.slice (.int .i64)))], G := [(84, C84)], ro := [], loops := [(2, { keep := [1, 2, 9, 10], live := [.tv 11 (.int .i64)], outs := [(.exit 0, []), (.ret, [.tv 6 .bool])] })], joins := [] }
theorem E109_eq : ∀ x, afun E109 Try.f109 C109.ps C109.rs x = C109.fn x := fun x => by kernel_rfl
theorem S109 : Sound Try.prog 109 C109 := fun_sound (E := E109) ⟨good_T (by kernel_rfl), (good_cons S84 ⟨_, Try.func84, by kernel_rfl, by kernel_rfl⟩ good_nil), mixedOk, ins_nil⟩ Try.func109 rfl E109_eq
/-- impl.isSmall -/
noncomputable def i_isSmall (p_s : Bytes) : Option (Bool) :=
  (loopE (fun (st2 : Int) => (
      bif (decide (st2 < (p_s.length : Int))) then
        (idx p_s st2).bind fun b3 =>
        (bif (decide ((b3.toNat : Int) < 97)) then
            some true
          else
            (idx p_s st2).bind fun b4 =>
            some (decide (122 < (b4.toNat : Int)))).bind fun c5 =>
        bif c5 then
          some (.inr (.inr false))
        else
          some (.inl (w64 (st2 + 1)))
      else
        some (.inr (.inl ())) : Option ((Int) ⊕ (Unit ⊕ Bool)))) 0).bind fun o6 =>
  match o6 with
  | .inl _ =>
    some true
  | .inr y8 =>
    some y8
noncomputable def C106 : FnSpec := { ps := [.val .str], rs := [.val .bool], fn := fun x => i_isSmall x }
noncomputable def E106 : Env := { T := [(9, .str)], G := [], ro := [], loops := [(2, { keep := [0], live := [.tv 3 (.int .i64)], outs := [(.exit 0, []), (.ret, [.tv 2 .bool])] })], joins := [] }
theorem E106_eq : ∀ x, afun E106 Try.f106 C106.ps C106.rs x = C106.fn x := fun x => by kernel_rfl
theorem S106 : Sound Try.prog 106 C106 := fun_sound (E := E106) ⟨good_T (by kernel_rfl), good_nil, mixedOk, ins_nil⟩ Try.func106 rfl E106_eq
/-- impl.IsPhraseText -/
noncomputable def i_IsPhraseText (p_s : Bytes) : Option (Bool) :=
  (bif (decide (1 ≤ (p_s.length : Int))) then
      some (decide ((p_s.length : Int) ≤ 12))
    else
      some false).bind fun c1 =>
  (bif c1 then
      (i_isSmall p_s).bind fun r2 =>
      some r2
    else
      some false).bind fun c3 =>
  some c3
noncomputable def C126 : FnSpec := { ps := [.val .str], rs := [.val .bool], fn := fun x => i_IsPhraseText x }
noncomputable def E126 : Env := { T := [(9, .str)], G := [(106, C106)], ro := [], loops := [], joins := [] }
theorem E126_eq : ∀ x, afun E126 Try.f126 C126.ps C126.rs x = C126.fn x := fun x => by kernel_rfl
theorem S126 : Sound Try.prog 126 C126 := fun_sound (E := E126) ⟨good_T (by kernel_rfl), (good_cons S106 ⟨_, Try.func106, by kernel_rfl, by kernel_rfl⟩ good_nil), mixedOk, ins_nil⟩ Try.func126 rfl E126_eq
/-- impl.isPhrase -/
noncomputable def i_isPhrase (p_x : GPhrase) : Option (Bool) :=
  (i_IsPhraseText p_x.1).bind fun r1 =>
  (bif r1 then
      (i_within (p_x.2.1.length : Int) 1 3).bind fun r2 =>
      some r2
    else
      some false).bind fun c3 =>
  (bif c3 then
      (i_allWithin p_x.2.1 1 60).bind fun r4 =>
      some r4
    else
      some false).bind fun c5 =>
  some c5
noncomputable def C97 : FnSpec := { ps := [.val TGPhrase], rs := [.val .bool], fn := fun x => i_isPhrase x }
noncomputable def E97 : Env := { T := [(9, .str), (38, (.slice (.int .i64))), (61, TGPhrase)], G := [(84, C84), (109, C109), (126, C126)], ro := [1], loops := [], joins := [] }
theorem E97_eq : ∀ x, afun E97 Try.f97 C97.ps C97.rs x = C97.fn x := fun x => by kernel_rfl
theorem S97 : Sound Try.prog 97 C97 := fun_sound (E := E97) ⟨good_T (by kernel_rfl), (good_cons S84 ⟨_, Try.func84, by kernel_rfl, by kernel_rfl⟩ (good_cons S109 ⟨_, Try.func109, by kernel_rfl, by kernel_rfl⟩ (good_cons S126 ⟨_, Try.func126, by kernel_rfl, by kernel_rfl⟩ good_nil))), mixedOk, ins_nil⟩ Try.func97 rfl E97_eq
/-- slices.Equal[[]int,int] -/
noncomputable def slices_Equal_int (p_s1 : List Int) (p_s2 : List Int) : Option (Bool) :=
  bif (!decide ((p_s1.length : Int) = (p_s2.length : Int))) then
    some false
  else
    (loopE (fun (st2 : Int) => (
        bif (decide (st2 < (p_s1.length : Int))) then
          (idx p_s1 st2).bind fun e3 =>
          (idx p_s2 st2).bind fun e4 =>
          bif (!decide (e3 = e4)) then
            some (.inr (.inr false))
          else
            some (.inl (w64 (st2 + 1)))
        else
          some (.inr (.inl ())) : Option ((Int) ⊕ (Unit ⊕ Bool)))) 0).bind fun o5 =>
    match o5 with
    | .inl _ =>
      some true
    | .inr y7 =>
      some y7
noncomputable def C129 : FnSpec := { ps := [.val (.slice (.int .i64)), .val (.slice (.int .i64))], rs := [.val .bool], fn := fun x => slices_Equal_int x.1 x.2 }
noncomputable def E129 : Env := { T := [(3, (.int .i64)), (38, (.slice (.int .i64)))], G := [], ro := [], loops := [(4, { keep := [0, 1, 12], live := [.tv 13 (.int .i64)], outs := [(.exit 0, []), (.ret, [.tv 4 .bool])] })], joins := [] }
theorem E129_eq : ∀ x, afun E129 Try.f129 C129.ps C129.rs x = C129.fn x := fun x => by kernel_rfl
theorem S129 : Sound Try.prog 129 C129 := fun_sound (E := E129) ⟨good_T (by kernel_rfl), good_nil, mixedOk, ins_nil⟩ Try.func129 rfl E129_eq
/-- impl.phraseIndex$1 -/
noncomputable def i_phraseIndex_1 (p_x : GPhrase) (p_a1 : List Int) : Option (Bool) :=
  (slices_Equal_int p_x.2.1 p_a1).bind fun r1 =>
  some r1
noncomputable def C128 : FnSpec := { ps := [.val TGPhrase, .rp (.slice (.int .i64))], rs := [.val .bool], fn := fun x => i_phraseIndex_1 x.1 x.2 }
noncomputable def E128 : Env := { T := [(38, (.slice (.int .i64))), (61, TGPhrase)], G := [(129, C129)], ro := [2], loops := [], joins := [] }
theorem E128_eq : ∀ x, afun E128 Try.f128 C128.ps C128.rs x = C128.fn x := fun x => by kernel_rfl
theorem S128 : Sound Try.prog 128 C128 := fun_sound (E := E128) ⟨good_T (by kernel_rfl), (good_cons S129 ⟨_, Try.func129, by kernel_rfl, by kernel_rfl⟩ good_nil), mixedOk, ins_nil⟩ Try.func128 rfl E128_eq
/-- slices.IndexFunc[[]impl.Phrase,impl.Phrase] -/
noncomputable def slices_IndexFunc_Phrase_128 (p_s : List GPhrase) (p_f : (List Int) × Unit) : Option (Int) :=
  (loopE (fun (st2 : Int) => (
      bif (decide (st2 < (p_s.length : Int))) then
        (idx p_s st2).bind fun e3 =>
        (i_phraseIndex_1 e3 p_f.1).bind fun r4 =>
        bif r4 then
          some (.inr (.inr st2))
        else
          some (.inl (w64 (st2 + 1)))
      else
        some (.inr (.inl ())) : Option ((Int) ⊕ (Unit ⊕ Int)))) 0).bind fun o5 =>
  match o5 with
  | .inl _ =>
    some (-1)
  | .inr y7 =>
    some y7
noncomputable def C127_128 : FnSpec := { ps := [.val (.slice TGPhrase), .fn 128 [(.slice (.int .i64))]], rs := [.val (.int .i64)], fn := fun x => slices_IndexFunc_Phrase_128 x.1 x.2 }
noncomputable def E127_128 : Env := { T := [(30, (.slice TGPhrase)), (61, TGPhrase)], G := [(128, C128)], ro := [], loops := [(2, { keep := [0, 1, 7], live := [.tv 8 (.int .i64)], outs := [(.exit 0, []), (.ret, [.tv 4 (.int .i64)])] })], joins := [] }
theorem E127_128_eq : ∀ x, afun E127_128 Try.f127 C127_128.ps C127_128.rs x = C127_128.fn x := fun x => by kernel_rfl
theorem S127_128 : Sound Try.prog 127 C127_128 := fun_sound (E := E127_128) ⟨good_T (by kernel_rfl), (good_cons S128 ⟨_, Try.func128, by kernel_rfl, by kernel_rfl⟩ good_nil), mixedOk, ins_nil⟩ Try.func127 rfl E127_128_eq
/-- impl.phraseIndex -/
noncomputable def i_phraseIndex (p_b : GBook) (p_signals : List Int) : Option (Int) :=
  (slices_IndexFunc_Phrase_128 p_b.1 (p_signals, ())).bind fun r1 =>
  some r1
noncomputable def C98 : FnSpec := { ps := [.val TGBook, .val (.slice (.int .i64))], rs := [.val (.int .i64)], fn := fun x => i_phraseIndex x.1 x.2 }
noncomputable def E98 : Env := { T := [(30, (.slice TGPhrase)), (32, TGBook), (38, (.slice (.int .i64)))], G := [(127, C127_128)], ro := [2, 3], loops := [], joins := [] }
theorem E98_eq : ∀ x, afun E98 Try.f98 C98.ps C98.rs x = C98.fn x := fun x => by kernel_rfl
theorem S98 : Sound Try.prog 98 C98 := fun_sound (E := E98) ⟨good_T (by kernel_rfl), (good_cons S127_128 ⟨_, Try.func127, by kernel_rfl, by kernel_rfl⟩ good_nil), mixedOk, ins_nil⟩ Try.func98 rfl E98_eq
/-- impl.IsBook -/
noncomputable def i_IsBook (p_b : GBook) : Option (Bool) :=
  (i_within (p_b.1.length : Int) 1 40).bind fun r1 =>
  bif (!r1) then
    some false
  else
    (loopE (fun (st3 : Int) => (
        bif (decide (st3 < (p_b.1.length : Int))) then
          (idx p_b.1 st3).bind fun e4 =>
          (i_isPhrase e4).bind fun r5 =>
          (bif (!r5) then
              some true
            else
              (bif (decide (0 < st3)) then
                  (idx p_b.1 (w64 (st3 - 1))).bind fun e6 =>
                  some (!Op.bytesLess e6.1 e4.1)
                else
                  some false).bind fun c7 =>
              some c7).bind fun c8 =>
          (bif c8 then
              some true
            else
              (sub p_b.1 0 st3).bind fun l9 =>
              (i_phraseIndex (l9, ()) e4.2.1).bind fun r10 =>
              some (decide (0 ≤ r10))).bind fun c11 =>
          bif c11 then
            some (.inr (.inr false))
          else
            some (.inl (w64 (st3 + 1)))
        else
          some (.inr (.inl ())) : Option ((Int) ⊕ (Unit ⊕ Bool)))) 0).bind fun o12 =>
    match o12 with
    | .inl _ =>
      some true
    | .inr y14 =>
      some y14
noncomputable def C49 : FnSpec := { ps := [.val TGBook], rs := [.val .bool], fn := fun x => i_IsBook x }
noncomputable def E49 : Env := { T := [(9, .str), (30, (.slice TGPhrase)), (32, TGBook), (38, (.slice (.int .i64))), (61, TGPhrase)], G := [(84, C84), (97, C97), (98, C98)], ro := [1], loops := [(4, { keep := [1, 11, 12], live := [.tv 13 (.int .i64)], outs := [(.exit 0, []), (.ret, [.tv 2 .bool])] })], joins := [] }
theorem E49_eq : ∀ x, afun E49 Try.f49 C49.ps C49.rs x = C49.fn x := fun x => by kernel_rfl
theorem S49 : Sound Try.prog 49 C49 := fun_sound (E := E49) ⟨good_T (by kernel_rfl), (good_cons S84 ⟨_, Try.func84, by kernel_rfl, by kernel_rfl⟩ (good_cons S97 ⟨_, Try.func97, by kernel_rfl, by kernel_rfl⟩ (good_cons S98 ⟨_, Try.func98, by kernel_rfl, by kernel_rfl⟩ good_nil))), mixedOk, ins_nil⟩ Try.func49 rfl E49_eq
/-- impl.areBookWeights -/
noncomputable def i_areBookWeights (p_b : GBook) (p_weights : List Int) : Option (Bool) :=
  (bif (decide ((p_weights.length : Int) = (p_b.1.length : Int))) then
      (i_allWithin p_weights 0 10000).bind fun r1 =>
      some r1
    else
      some false).bind fun c2 =>
  some c2
noncomputable def C65 : FnSpec := { ps := [.val TGBook, .val (.slice (.int .i64))], rs := [.val .bool], fn := fun x => i_areBookWeights x.1 x.2 }
noncomputable def E65 : Env := { T := [(30, (.slice TGPhrase)), (32, TGBook), (38, (.slice (.int .i64)))], G := [(109, C109)], ro := [2], loops := [], joins := [] }
theorem E65_eq : ∀ x, afun E65 Try.f65 C65.ps C65.rs x = C65.fn x := fun x => by kernel_rfl
theorem S65 : Sound Try.prog 65 C65 := fun_sound (E := E65) ⟨good_T (by kernel_rfl), (good_cons S109 ⟨_, Try.func109, by kernel_rfl, by kernel_rfl⟩ good_nil), mixedOk, ins_nil⟩ Try.func65 rfl E65_eq
/-- impl.firstChoice -/
noncomputable def i_firstChoice (p_k : Int) : Option ((List Int)) :=
  bif decide (0 ≤ p_k) && decide (p_k ≤ p_k) && decide (p_k ≤ lim) then
    (loopE (fun (st2 : (List Int) × Int) => (
        bif (decide (st2.2 < ((List.replicate (Int.toNat p_k) (0 : Int)).length : Int))) then
          bif decide (0 ≤ st2.2) && decide (st2.2 < (st2.1.length : Int)) then
            some (.inl ((st2.1.set (Int.toNat st2.2) st2.2), (w64 (st2.2 + 1))))
          else
            none
        else
          some (.inr st2.1) : Option (((List Int) × Int) ⊕ ((List Int))))) ((List.replicate (Int.toNat p_k) (0 : Int)), 0)).bind fun o3 =>
    some o3
  else
    none
noncomputable def C66 : FnSpec := { ps := [.val (.int .i64)], rs := [.own (.slice (.int .i64))], fn := fun x => i_firstChoice x }
noncomputable def E66 : Env := { T := [(3, (.int .i64)), (38, (.slice (.int .i64)))], G := [], ro := [], loops := [(3, { keep := [8], live := [.own 3 [] 96 (.int .i64) true, .tv 9 (.int .i64)], outs := [(.exit 0, [.own 3 [] 96 (.int .i64) true])] })], joins := [] }
theorem E66_eq : ∀ x, afun E66 Try.f66 C66.ps C66.rs x = C66.fn x := fun x => by kernel_rfl
theorem S66 : Sound Try.prog 66 C66 := fun_sound (E := E66) ⟨good_T (by kernel_rfl), good_nil, mixedOk, ins_nil⟩ Try.func66 rfl E66_eq
/-- cmp.isNaN[int] -/
noncomputable def cmp_isNaN_int (p_x : Int) : Option (Bool) :=
  some (!decide (p_x = p_x))
noncomputable def C111 : FnSpec := { ps := [.val (.int .i64)], rs := [.val .bool], fn := fun x => cmp_isNaN_int x }
noncomputable def E111 : Env := { T := [], G := [], ro := [], loops := [], joins := [] }
theorem E111_eq : ∀ x, afun E111 Try.f111 C111.ps C111.rs x = C111.fn x := fun x => by kernel_rfl
theorem S111 : Sound Try.prog 111 C111 := fun_sound (E := E111) ⟨good_T (by kernel_rfl), good_nil, mixedOk, ins_nil⟩ Try.func111 rfl E111_eq
/-- cmp.Compare[int] -/
noncomputable def cmp_Compare_int (p_x : Int) (p_y : Int) : Option (Int) :=
  (cmp_isNaN_int p_x).bind fun r1 =>
  (cmp_isNaN_int p_y).bind fun r2 =>
  bif r1 then
    bif r2 then
      some 0
    else
      some (-1)
  else
    bif r2 then
      some 1
    else
      bif (decide (p_x < p_y)) then
        some (-1)
      else
        bif (decide (p_y < p_x)) then
          some 1
        else
          some 0
noncomputable def C69 : FnSpec := { ps := [.val (.int .i64), .val (.int .i64)], rs := [.val (.int .i64)], fn := fun x => cmp_Compare_int x.1 x.2 }
noncomputable def E69 : Env := { T := [], G := [(111, C111)], ro := [], loops := [], joins := [] }
theorem E69_eq : ∀ x, afun E69 Try.f69 C69.ps C69.rs x = C69.fn x := fun x => by kernel_rfl
theorem S69 : Sound Try.prog 69 C69 := fun_sound (E := E69) ⟨good_T (by kernel_rfl), (good_cons S111 ⟨_, Try.func111, by kernel_rfl, by kernel_rfl⟩ good_nil), mixedOk, ins_nil⟩ Try.func69 rfl E69_eq
/-- impl.DealAnew$1 -/
noncomputable def i_DealAnew_1 (p_i : Int) (p_k : Int) (p_a2 : GBook) : Option (Int) :=
  (idx p_a2.1 p_i).bind fun e1 =>
  (idx p_a2.1 p_k).bind fun e2 =>
  (cmp_Compare_int (e1.2.1.length : Int) (e2.2.1.length : Int)).bind fun r3 =>
  some r3
noncomputable def C68 : FnSpec := { ps := [.val (.int .i64), .val (.int .i64), .rp TGBook], rs := [.val (.int .i64)], fn := fun x => i_DealAnew_1 x.1 x.2.1 x.2.2 }
noncomputable def E68 : Env := { T := [(30, (.slice TGPhrase)), (32, TGBook), (38, (.slice (.int .i64))), (61, TGPhrase)], G := [(69, C69)], ro := [], loops := [], joins := [] }
theorem E68_eq : ∀ x, afun E68 Try.f68 C68.ps C68.rs x = C68.fn x := fun x => by kernel_rfl
theorem S68 : Sound Try.prog 68 C68 := fun_sound (E := E68) ⟨good_T (by kernel_rfl), (good_cons S69 ⟨_, Try.func69, by kernel_rfl, by kernel_rfl⟩ good_nil), mixedOk, ins_nil⟩ Try.func68 rfl E68_eq
/-- slices.insertionSortCmpFunc[int] -/
noncomputable def slices_insertionSortCmpFunc_int_68 (p_data : List Int) (p_a : Int) (p_b : Int) (p_cmp : GBook × Unit) : Option ((List Int)) :=
  (loopE (fun (st2 : (List Int) × Int) => (
      bif (decide (st2.2 < p_b)) then
        (loopE (fun (st4 : (List Int) × Int) => (
            (bif (decide (p_a < st4.2)) then
                bif decide (0 ≤ st4.2) && decide (st4.2 < (st4.1.length : Int)) then
                  (st4.1[(Int.toNat st4.2)]?).bind fun e5 =>
                  bif decide (0 ≤ (w64 (st4.2 - 1))) && decide ((w64 (st4.2 - 1)) < (st4.1.length : Int)) then
                    (st4.1[(Int.toNat (w64 (st4.2 - 1)))]?).bind fun e6 =>
                    (i_DealAnew_1 e5 e6 p_cmp.1).bind fun r7 =>
                    some (decide (r7 < 0))
                  else
                    none
                else
                  none
              else
                some false).bind fun c8 =>
            bif c8 then
              bif decide (0 ≤ (w64 (st4.2 - 1))) && decide ((w64 (st4.2 - 1)) < (st4.1.length : Int)) then
                (st4.1[(Int.toNat (w64 (st4.2 - 1)))]?).bind fun e9 =>
                bif decide (0 ≤ st4.2) && decide (st4.2 < (st4.1.length : Int)) then
                  (st4.1[(Int.toNat st4.2)]?).bind fun e10 =>
                  bif decide (0 ≤ st4.2) && decide (st4.2 < (st4.1.length : Int)) then
                    bif decide (0 ≤ (w64 (st4.2 - 1))) && decide ((w64 (st4.2 - 1)) < ((st4.1.set (Int.toNat st4.2) e9).length : Int)) then
                      some (.inl (((st4.1.set (Int.toNat st4.2) e9).set (Int.toNat (w64 (st4.2 - 1))) e10), (w64 (st4.2 - 1))))
                    else
                      none
                  else
                    none
                else
                  none
              else
                none
            else
              some (.inr st4.1) : Option (((List Int) × Int) ⊕ ((List Int))))) (st2.1, st2.2)).bind fun o11 =>
        some (.inl (o11, (w64 (st2.2 + 1))))
      else
        some (.inr st2.1) : Option (((List Int) × Int) ⊕ ((List Int))))) (p_data, (w64 (p_a + 1)))).bind fun o12 =>
  some o12
noncomputable def C133_68 : FnSpec := { ps := [.own (.slice (.int .i64)), .val (.int .i64), .val (.int .i64), .fn 68 [TGBook]], rs := [], fn := fun x => slices_insertionSortCmpFunc_int_68 x.1 x.2.1 x.2.2.1 x.2.2.2 }
noncomputable def E133_68 : Env := { T := [(3, (.int .i64)), (38, (.slice (.int .i64)))], G := [(68, C68)], ro := [], loops := [(1, { keep := [1, 2, 3], live := [.own 0 [] 100000 (.int .i64) true, .tv 8 (.int .i64)], outs := [(.exit 0, [.own 0 [] 100000 (.int .i64) true])] }), (4, { keep := [1, 2, 3, 8], live := [.own 0 [] 100000 (.int .i64) true, .tv 9 (.int .i64)], outs := [(.exit 2, [.own 0 [] 100000 (.int .i64) true])] })], joins := [], hoist := [(6, [2, 3, 4])] }
theorem E133_68_eq : ∀ x, afun E133_68 Try.f133 C133_68.ps C133_68.rs x = C133_68.fn x := fun x => by kernel_rfl
theorem S133_68 : Sound Try.prog 133 C133_68 := fun_sound_own (E := E133_68) ⟨good_T (by kernel_rfl), (good_cons S68 ⟨_, Try.func68, by kernel_rfl, by kernel_rfl⟩ good_nil), mixedOk, ins_nil⟩ Try.func133 rfl rfl E133_68_eq


/-- slices.swapRangeCmpFunc[int] -/
noncomputable def slices_swapRangeCmpFunc_int_68 (p_data : List Int) (p_a : Int) (p_b : Int) (p_n : Int) (p_cmp : GBook × Unit) : Option ((List Int)) :=
  (loopE (fun (st2 : (List Int) × Int) => (
      bif (decide (st2.2 < p_n)) then
        bif decide (0 ≤ (w64 (p_b + st2.2))) && decide ((w64 (p_b + st2.2)) < (st2.1.length : Int)) then
          (st2.1[(Int.toNat (w64 (p_b + st2.2)))]?).bind fun e3 =>
          bif decide (0 ≤ (w64 (p_a + st2.2))) && decide ((w64 (p_a + st2.2)) < (st2.1.length : Int)) then
            (st2.1[(Int.toNat (w64 (p_a + st2.2)))]?).bind fun e4 =>
            bif decide (0 ≤ (w64 (p_a + st2.2))) && decide ((w64 (p_a + st2.2)) < (st2.1.length : Int)) then
              bif decide (0 ≤ (w64 (p_b + st2.2))) && decide ((w64 (p_b + st2.2)) < ((st2.1.set (Int.toNat (w64 (p_a + st2.2))) e3).length : Int)) then
                some (.inl (((st2.1.set (Int.toNat (w64 (p_a + st2.2))) e3).set (Int.toNat (w64 (p_b + st2.2))) e4), (w64 (st2.2 + 1))))
              else
                none
            else
              none
          else
            none
        else
          none
      else
        some (.inr st2.1) : Option (((List Int) × Int) ⊕ ((List Int))))) (p_data, 0)).bind fun o5 =>
  some o5
noncomputable def C142_68 : FnSpec := { ps := [.own (.slice (.int .i64)), .val (.int .i64), .val (.int .i64), .val (.int .i64), .fn 68 [TGBook]], rs := [], fn := fun x => slices_swapRangeCmpFunc_int_68 x.1 x.2.1 x.2.2.1 x.2.2.2.1 x.2.2.2.2 }
noncomputable def E142_68 : Env := { T := [(3, (.int .i64)), (38, (.slice (.int .i64)))], G := [], ro := [], loops := [(1, { keep := [1, 2, 3], live := [.own 0 [] 100000 (.int .i64) true, .tv 10 (.int .i64)], outs := [(.exit 0, [.own 0 [] 100000 (.int .i64) true])] })], joins := [], hoist := [(3, [4, 5, 6, 7])] }
theorem E142_68_eq : ∀ x, afun E142_68 Try.f142 C142_68.ps C142_68.rs x = C142_68.fn x := fun x => by kernel_rfl
theorem S142_68 : Sound Try.prog 142 C142_68 := fun_sound_own (E := E142_68) ⟨good_T (by kernel_rfl), good_nil, mixedOk, ins_nil⟩ Try.func142 rfl rfl E142_68_eq
/-- slices.rotateCmpFunc[int] -/
noncomputable def slices_rotateCmpFunc_int_68 (p_data : List Int) (p_a : Int) (p_m : Int) (p_b : Int) (p_cmp : GBook × Unit) : Option ((List Int)) :=
  (loopE (fun (st2 : (List Int) × Int × Int) => (
      bif (!decide (st2.2.1 = st2.2.2)) then
        bif (decide (st2.2.2 < st2.2.1)) then
          (slices_swapRangeCmpFunc_int_68 st2.1 (w64 (p_m - st2.2.1)) p_m st2.2.2 p_cmp).bind fun r3 =>
          some (.inl (r3, (w64 (st2.2.1 - st2.2.2)), st2.2.2))
        else
          (slices_swapRangeCmpFunc_int_68 st2.1 (w64 (p_m - st2.2.1)) (w64 ((w64 (p_m + st2.2.2)) - st2.2.1)) st2.2.1 p_cmp).bind fun r4 =>
          some (.inl (r4, st2.2.1, (w64 (st2.2.2 - st2.2.1))))
      else
        some (.inr (st2.1, st2.2.1)) : Option (((List Int) × Int × Int) ⊕ (((List Int) × Int))))) (p_data, (w64 (p_m - p_a)), (w64 (p_b - p_m)))).bind fun o5 =>
  (slices_swapRangeCmpFunc_int_68 o5.1 (w64 (p_m - o5.2)) p_m o5.2 p_cmp).bind fun r6 =>
  some r6
noncomputable def C140_68 : FnSpec := { ps := [.own (.slice (.int .i64)), .val (.int .i64), .val (.int .i64), .val (.int .i64), .fn 68 [TGBook]], rs := [], fn := fun x => slices_rotateCmpFunc_int_68 x.1 x.2.1 x.2.2.1 x.2.2.2.1 x.2.2.2.2 }
noncomputable def E140_68 : Env := { T := [], G := [(142, C142_68)], ro := [], loops := [(2, { keep := [2, 4], live := [.own 0 [] 100000 (.int .i64) true, .tv 10 (.int .i64), .tv 11 (.int .i64)], outs := [(.exit 0, [.own 0 [] 100000 (.int .i64) true, .tv 10 (.int .i64)])] })], joins := [] }
theorem E140_68_eq : ∀ x, afun E140_68 Try.f140 C140_68.ps C140_68.rs x = C140_68.fn x := fun x => by kernel_rfl
theorem S140_68 : Sound Try.prog 140 C140_68 := fun_sound_own (E := E140_68) ⟨good_T (by kernel_rfl), (good_cons S142_68 ⟨_, Try.func142, by kernel_rfl, by kernel_rfl⟩ good_nil), mixedOk, ins_nil⟩ Try.func140 rfl rfl E140_68_eq
/-- slices.symMergeCmpFunc[int] -/
noncomputable def slices_symMergeCmpFunc_int_68_step (slices_symMergeCmpFunc_int_again : (List Int) → Int → Int → Int → (GBook × Unit) → Option ((List Int))) (p_data : List Int) (p_a : Int) (p_m : Int) (p_b : Int) (p_cmp : GBook × Unit) : Option ((List Int)) :=
  bif (decide ((w64 (p_m - p_a)) = 1)) then
    (loopE (fun (st2 : (List Int) × Int × Int) => (
        bif (decide (st2.2.1 < st2.2.2)) then
          bif decide (0 ≤ (w64 (shiftI .shr .u64 (IntKind.u64.wrap (w64 (st2.2.1 + st2.2.2))) 1))) && decide ((w64 (shiftI .shr .u64 (IntKind.u64.wrap (w64 (st2.2.1 + st2.2.2))) 1)) < (st2.1.length : Int)) then
            (st2.1[(Int.toNat (w64 (shiftI .shr .u64 (IntKind.u64.wrap (w64 (st2.2.1 + st2.2.2))) 1)))]?).bind fun e3 =>
            bif decide (0 ≤ p_a) && decide (p_a < (st2.1.length : Int)) then
              (st2.1[(Int.toNat p_a)]?).bind fun e4 =>
              (i_DealAnew_1 e3 e4 p_cmp.1).bind fun r5 =>
              bif (decide (r5 < 0)) then
                some (.inl (st2.1, (w64 ((w64 (shiftI .shr .u64 (IntKind.u64.wrap (w64 (st2.2.1 + st2.2.2))) 1)) + 1)), st2.2.2))
              else
                some (.inl (st2.1, st2.2.1, (w64 (shiftI .shr .u64 (IntKind.u64.wrap (w64 (st2.2.1 + st2.2.2))) 1))))
            else
              none
          else
            none
        else
          some (.inr (st2.1, st2.2.1)) : Option (((List Int) × Int × Int) ⊕ (((List Int) × Int))))) (p_data, p_m, p_b)).bind fun o6 =>
    (loopE (fun (st8 : (List Int) × Int) => (
        bif (decide (st8.2 < (w64 (o6.2 - 1)))) then
          bif decide (0 ≤ (w64 (st8.2 + 1))) && decide ((w64 (st8.2 + 1)) < (st8.1.length : Int)) then
            (st8.1[(Int.toNat (w64 (st8.2 + 1)))]?).bind fun e9 =>
            bif decide (0 ≤ st8.2) && decide (st8.2 < (st8.1.length : Int)) then
              (st8.1[(Int.toNat st8.2)]?).bind fun e10 =>
              bif decide (0 ≤ st8.2) && decide (st8.2 < (st8.1.length : Int)) then
                bif decide (0 ≤ (w64 (st8.2 + 1))) && decide ((w64 (st8.2 + 1)) < ((st8.1.set (Int.toNat st8.2) e9).length : Int)) then
                  some (.inl (((st8.1.set (Int.toNat st8.2) e9).set (Int.toNat (w64 (st8.2 + 1))) e10), (w64 (st8.2 + 1))))
                else
                  none
              else
                none
            else
              none
          else
            none
        else
          some (.inr st8.1) : Option (((List Int) × Int) ⊕ ((List Int))))) (o6.1, p_a)).bind fun o11 =>
    some o11
  else
    bif (decide ((w64 (p_b - p_m)) = 1)) then
      (loopE (fun (st13 : (List Int) × Int × Int) => (
          bif (decide (st13.2.1 < st13.2.2)) then
            bif decide (0 ≤ p_m) && decide (p_m < (st13.1.length : Int)) then
              (st13.1[(Int.toNat p_m)]?).bind fun e14 =>
              bif decide (0 ≤ (w64 (shiftI .shr .u64 (IntKind.u64.wrap (w64 (st13.2.1 + st13.2.2))) 1))) && decide ((w64 (shiftI .shr .u64 (IntKind.u64.wrap (w64 (st13.2.1 + st13.2.2))) 1)) < (st13.1.length : Int)) then
                (st13.1[(Int.toNat (w64 (shiftI .shr .u64 (IntKind.u64.wrap (w64 (st13.2.1 + st13.2.2))) 1)))]?).bind fun e15 =>
                (i_DealAnew_1 e14 e15 p_cmp.1).bind fun r16 =>
                bif (!(decide (r16 < 0))) then
                  some (.inl (st13.1, (w64 ((w64 (shiftI .shr .u64 (IntKind.u64.wrap (w64 (st13.2.1 + st13.2.2))) 1)) + 1)), st13.2.2))
                else
                  some (.inl (st13.1, st13.2.1, (w64 (shiftI .shr .u64 (IntKind.u64.wrap (w64 (st13.2.1 + st13.2.2))) 1))))
              else
                none
            else
              none
          else
            some (.inr (st13.1, st13.2.1)) : Option (((List Int) × Int × Int) ⊕ (((List Int) × Int))))) (p_data, p_a, p_m)).bind fun o17 =>
      (loopE (fun (st19 : (List Int) × Int) => (
          bif (decide (o17.2 < st19.2)) then
            bif decide (0 ≤ (w64 (st19.2 - 1))) && decide ((w64 (st19.2 - 1)) < (st19.1.length : Int)) then
              (st19.1[(Int.toNat (w64 (st19.2 - 1)))]?).bind fun e20 =>
              bif decide (0 ≤ st19.2) && decide (st19.2 < (st19.1.length : Int)) then
                (st19.1[(Int.toNat st19.2)]?).bind fun e21 =>
                bif decide (0 ≤ st19.2) && decide (st19.2 < (st19.1.length : Int)) then
                  bif decide (0 ≤ (w64 (st19.2 - 1))) && decide ((w64 (st19.2 - 1)) < ((st19.1.set (Int.toNat st19.2) e20).length : Int)) then
                    some (.inl (((st19.1.set (Int.toNat st19.2) e20).set (Int.toNat (w64 (st19.2 - 1))) e21), (w64 (st19.2 - 1))))
                  else
                    none
                else
                  none
              else
                none
            else
              none
          else
            some (.inr st19.1) : Option (((List Int) × Int) ⊕ ((List Int))))) (o17.1, p_m)).bind fun o22 =>
      some o22
    else
      (bif (decide ((w64 (shiftI .shr .u64 (IntKind.u64.wrap (w64 (p_a + p_b))) 1)) < p_m)) then
          some (p_data, (w64 ((w64 ((w64 (shiftI .shr .u64 (IntKind.u64.wrap (w64 (p_a + p_b))) 1)) + p_m)) - p_b)), (w64 (shiftI .shr .u64 (IntKind.u64.wrap (w64 (p_a + p_b))) 1)))
        else
          some (p_data, p_a, p_m)).bind fun j23 =>
      (loopE (fun (st25 : (List Int) × Int × Int) => (
          bif (decide (st25.2.1 < st25.2.2)) then
            bif decide (0 ≤ (w64 ((w64 ((w64 ((w64 (shiftI .shr .u64 (IntKind.u64.wrap (w64 (p_a + p_b))) 1)) + p_m)) - 1)) - (w64 (shiftI .shr .u64 (IntKind.u64.wrap (w64 (st25.2.1 + st25.2.2))) 1))))) && decide ((w64 ((w64 ((w64 ((w64 (shiftI .shr .u64 (IntKind.u64.wrap (w64 (p_a + p_b))) 1)) + p_m)) - 1)) - (w64 (shiftI .shr .u64 (IntKind.u64.wrap (w64 (st25.2.1 + st25.2.2))) 1)))) < (st25.1.length : Int)) then
              (st25.1[(Int.toNat (w64 ((w64 ((w64 ((w64 (shiftI .shr .u64 (IntKind.u64.wrap (w64 (p_a + p_b))) 1)) + p_m)) - 1)) - (w64 (shiftI .shr .u64 (IntKind.u64.wrap (w64 (st25.2.1 + st25.2.2))) 1)))))]?).bind fun e26 =>
              bif decide (0 ≤ (w64 (shiftI .shr .u64 (IntKind.u64.wrap (w64 (st25.2.1 + st25.2.2))) 1))) && decide ((w64 (shiftI .shr .u64 (IntKind.u64.wrap (w64 (st25.2.1 + st25.2.2))) 1)) < (st25.1.length : Int)) then
                (st25.1[(Int.toNat (w64 (shiftI .shr .u64 (IntKind.u64.wrap (w64 (st25.2.1 + st25.2.2))) 1)))]?).bind fun e27 =>
                (i_DealAnew_1 e26 e27 p_cmp.1).bind fun r28 =>
                bif (!(decide (r28 < 0))) then
                  some (.inl (st25.1, (w64 ((w64 (shiftI .shr .u64 (IntKind.u64.wrap (w64 (st25.2.1 + st25.2.2))) 1)) + 1)), st25.2.2))
                else
                  some (.inl (st25.1, st25.2.1, (w64 (shiftI .shr .u64 (IntKind.u64.wrap (w64 (st25.2.1 + st25.2.2))) 1))))
              else
                none
            else
              none
          else
            some (.inr (st25.1, st25.2.1)) : Option (((List Int) × Int × Int) ⊕ (((List Int) × Int))))) (j23.1, j23.2.1, j23.2.2)).bind fun o29 =>
      (bif (decide (o29.2 < p_m)) then
          some (decide (p_m < (w64 ((w64 ((w64 (shiftI .shr .u64 (IntKind.u64.wrap (w64 (p_a + p_b))) 1)) + p_m)) - o29.2))))
        else
          some false).bind fun c30 =>
      bif c30 then
        (slices_rotateCmpFunc_int_68 o29.1 o29.2 p_m (w64 ((w64 ((w64 (shiftI .shr .u64 (IntKind.u64.wrap (w64 (p_a + p_b))) 1)) + p_m)) - o29.2)) p_cmp).bind fun r31 =>
        (bif (decide (p_a < o29.2)) then
            some (decide (o29.2 < (w64 (shiftI .shr .u64 (IntKind.u64.wrap (w64 (p_a + p_b))) 1))))
          else
            some false).bind fun c32 =>
        bif c32 then
          (slices_symMergeCmpFunc_int_again r31 p_a o29.2 (w64 (shiftI .shr .u64 (IntKind.u64.wrap (w64 (p_a + p_b))) 1)) p_cmp).bind fun r33 =>
          (bif (decide ((w64 (shiftI .shr .u64 (IntKind.u64.wrap (w64 (p_a + p_b))) 1)) < (w64 ((w64 ((w64 (shiftI .shr .u64 (IntKind.u64.wrap (w64 (p_a + p_b))) 1)) + p_m)) - o29.2)))) then
              some (decide ((w64 ((w64 ((w64 (shiftI .shr .u64 (IntKind.u64.wrap (w64 (p_a + p_b))) 1)) + p_m)) - o29.2)) < p_b))
            else
              some false).bind fun c34 =>
          bif c34 then
            (slices_symMergeCmpFunc_int_again r33 (w64 (shiftI .shr .u64 (IntKind.u64.wrap (w64 (p_a + p_b))) 1)) (w64 ((w64 ((w64 (shiftI .shr .u64 (IntKind.u64.wrap (w64 (p_a + p_b))) 1)) + p_m)) - o29.2)) p_b p_cmp).bind fun r35 =>
            some r35
          else
            some r33
        else
          (bif (decide ((w64 (shiftI .shr .u64 (IntKind.u64.wrap (w64 (p_a + p_b))) 1)) < (w64 ((w64 ((w64 (shiftI .shr .u64 (IntKind.u64.wrap (w64 (p_a + p_b))) 1)) + p_m)) - o29.2)))) then
              some (decide ((w64 ((w64 ((w64 (shiftI .shr .u64 (IntKind.u64.wrap (w64 (p_a + p_b))) 1)) + p_m)) - o29.2)) < p_b))
            else
              some false).bind fun c36 =>
          bif c36 then
            (slices_symMergeCmpFunc_int_again r31 (w64 (shiftI .shr .u64 (IntKind.u64.wrap (w64 (p_a + p_b))) 1)) (w64 ((w64 ((w64 (shiftI .shr .u64 (IntKind.u64.wrap (w64 (p_a + p_b))) 1)) + p_m)) - o29.2)) p_b p_cmp).bind fun r37 =>
            some r37
          else
            some r31
      else
        (bif (decide (p_a < o29.2)) then
            some (decide (o29.2 < (w64 (shiftI .shr .u64 (IntKind.u64.wrap (w64 (p_a + p_b))) 1))))
          else
            some false).bind fun c38 =>
        bif c38 then
          (slices_symMergeCmpFunc_int_again o29.1 p_a o29.2 (w64 (shiftI .shr .u64 (IntKind.u64.wrap (w64 (p_a + p_b))) 1)) p_cmp).bind fun r39 =>
          (bif (decide ((w64 (shiftI .shr .u64 (IntKind.u64.wrap (w64 (p_a + p_b))) 1)) < (w64 ((w64 ((w64 (shiftI .shr .u64 (IntKind.u64.wrap (w64 (p_a + p_b))) 1)) + p_m)) - o29.2)))) then
              some (decide ((w64 ((w64 ((w64 (shiftI .shr .u64 (IntKind.u64.wrap (w64 (p_a + p_b))) 1)) + p_m)) - o29.2)) < p_b))
            else
              some false).bind fun c40 =>
          bif c40 then
            (slices_symMergeCmpFunc_int_again r39 (w64 (shiftI .shr .u64 (IntKind.u64.wrap (w64 (p_a + p_b))) 1)) (w64 ((w64 ((w64 (shiftI .shr .u64 (IntKind.u64.wrap (w64 (p_a + p_b))) 1)) + p_m)) - o29.2)) p_b p_cmp).bind fun r41 =>
            some r41
          else
            some r39
        else
          (bif (decide ((w64 (shiftI .shr .u64 (IntKind.u64.wrap (w64 (p_a + p_b))) 1)) < (w64 ((w64 ((w64 (shiftI .shr .u64 (IntKind.u64.wrap (w64 (p_a + p_b))) 1)) + p_m)) - o29.2)))) then
              some (decide ((w64 ((w64 ((w64 (shiftI .shr .u64 (IntKind.u64.wrap (w64 (p_a + p_b))) 1)) + p_m)) - o29.2)) < p_b))
            else
              some false).bind fun c42 =>
          bif c42 then
            (slices_symMergeCmpFunc_int_again o29.1 (w64 (shiftI .shr .u64 (IntKind.u64.wrap (w64 (p_a + p_b))) 1)) (w64 ((w64 ((w64 (shiftI .shr .u64 (IntKind.u64.wrap (w64 (p_a + p_b))) 1)) + p_m)) - o29.2)) p_b p_cmp).bind fun r43 =>
            some r43
          else
            some o29.1
noncomputable def slices_symMergeCmpFunc_int_68_it : Nat → (List Int) → Int → Int → Int → (GBook × Unit) → Option ((List Int))
  | 0, _, _, _, _, _ => none
  | k + 1, p_data, p_a, p_m, p_b, p_cmp => slices_symMergeCmpFunc_int_68_step (slices_symMergeCmpFunc_int_68_it k) p_data p_a p_m p_b p_cmp
noncomputable def slices_symMergeCmpFunc_int_68 (p_data : List Int) (p_a : Int) (p_m : Int) (p_b : Int) (p_cmp : GBook × Unit) : Option ((List Int)) := limE fun k => slices_symMergeCmpFunc_int_68_it k p_data p_a p_m p_b p_cmp
noncomputable def C134_68 : FnSpec := { ps := [.own (.slice (.int .i64)), .val (.int .i64), .val (.int .i64), .val (.int .i64), .fn 68 [TGBook]], rs := [], fn := fun x => slices_symMergeCmpFunc_int_68 x.1 x.2.1 x.2.2.1 x.2.2.2.1 x.2.2.2.2 }
noncomputable def CR134_68 (again : (List Int) → Int → Int → Int → (GBook × Unit) → Option ((List Int))) : FnSpec := { ps := [.own (.slice (.int .i64)), .val (.int .i64), .val (.int .i64), .val (.int .i64), .fn 68 [TGBook]], rs := [], fn := fun x => again x.1 x.2.1 x.2.2.1 x.2.2.2.1 x.2.2.2.2 }
noncomputable def E134_68 (again : (List Int) → Int → Int → Int → (GBook × Unit) → Option ((List Int))) : Env := { T := [(3, (.int .i64)), (38, (.slice (.int .i64))), (123, (.int .u64))], G := [(68, C68), (134, CR134_68 again), (140, C140_68)], ro := [], loops := [(3, { keep := [1, 4], live := [.own 0 [] 100000 (.int .i64) true, .tv 10 (.int .i64), .tv 11 (.int .i64)], outs := [(.exit 0, [.own 0 [] 100000 (.int .i64) true, .tv 10 (.int .i64)])] }), (9, { keep := [10], live := [.own 0 [] 100000 (.int .i64) true, .tv 13 (.int .i64)], outs := [(.exit 2, [.own 0 [] 100000 (.int .i64) true])] }), (15, { keep := [2, 4], live := [.own 0 [] 100000 (.int .i64) true, .tv 14 (.int .i64), .tv 15 (.int .i64)], outs := [(.exit 4, [.own 0 [] 100000 (.int .i64) true, .tv 14 (.int .i64)])] }), (21, { keep := [14], live := [.own 0 [] 100000 (.int .i64) true, .tv 17 (.int .i64)], outs := [(.exit 6, [.own 0 [] 100000 (.int .i64) true])] }), (33, { keep := [1, 2, 3, 4, 18, 19, 22, 182, 183, 184, 196, 197, 198, 210, 211, 212], live := [.own 0 [] 100000 (.int .i64) true, .tv 20 (.int .i64), .tv 21 (.int .i64)], outs := [(.exit 8, [.own 0 [] 100000 (.int .i64) true, .tv 20 (.int .i64)])] })], joins := [(32, { keep := [1, 2, 3, 4, 18, 19], live := [], outs := [(.normal, [.own 0 [] 100000 (.int .i64) true, .tv 20 (.int .i64), .tv 21 (.int .i64)])] })], hoist := [(11, [2, 3, 4]), (23, [2, 3, 4])] }
theorem E134_68_eq : ∀ (again : (List Int) → Int → Int → Int → (GBook × Unit) → Option ((List Int))) x, afun (E134_68 again) Try.f134 C134_68.ps C134_68.rs x = slices_symMergeCmpFunc_int_68_step again x.1 x.2.1 x.2.2.1 x.2.2.2.1 x.2.2.2.2 := fun again x => by kernel_rfl
theorem S134_68_it : ∀ k, Sound Try.prog 134 (CR134_68 (slices_symMergeCmpFunc_int_68_it k))
  | 0 => fun _ _ _ _ _ _ _ _ _ _ h => nomatch h
  | k + 1 => fun_sound_own (E := E134_68 (slices_symMergeCmpFunc_int_68_it k)) ⟨good_T (by kernel_rfl), (good_cons S68 ⟨_, Try.func68, by kernel_rfl, by kernel_rfl⟩ (good_cons (S134_68_it k) ⟨_, Try.func134, by kernel_rfl, by kernel_rfl⟩ (good_cons S140_68 ⟨_, Try.func140, by kernel_rfl, by kernel_rfl⟩ good_nil))), mixedOk, ins_nil⟩ Try.func134 rfl rfl (E134_68_eq _)
theorem S134_68 : Sound Try.prog 134 C134_68 := sound_lim (P := Try.prog) (f := 134) (ps := C134_68.ps) (rs := C134_68.rs) (g := fun k x => slices_symMergeCmpFunc_int_68_it k x.1 x.2.1 x.2.2.1 x.2.2.2.1 x.2.2.2.2) S134_68_it
/-- slices.stableCmpFunc[int] -/
noncomputable def slices_stableCmpFunc_int_68 (p_data : List Int) (p_n : Int) (p_cmp : GBook × Unit) : Option ((List Int)) :=
  (loopE (fun (st2 : (List Int) × Int × Int) => (
      bif (decide (st2.2.2 ≤ p_n)) then
        (slices_insertionSortCmpFunc_int_68 st2.1 st2.2.1 st2.2.2 p_cmp).bind fun r3 =>
        some (.inl (r3, st2.2.2, (w64 (st2.2.2 + 20))))
      else
        some (.inr (st2.1, st2.2.1)) : Option (((List Int) × Int × Int) ⊕ (((List Int) × Int))))) (p_data, 0, 20)).bind fun o4 =>
  (slices_insertionSortCmpFunc_int_68 o4.1 o4.2 p_n p_cmp).bind fun r5 =>
  (loopE (fun (st7 : (List Int) × Int) => (
      bif (decide (st7.2 < p_n)) then
        (loopE (fun (st9 : (List Int) × Int × Int) => (
            bif (decide (st9.2.2 ≤ p_n)) then
              (slices_symMergeCmpFunc_int_68 st9.1 st9.2.1 (w64 (st9.2.1 + st7.2)) st9.2.2 p_cmp).bind fun r10 =>
              some (.inl (r10, st9.2.2, (w64 (st9.2.2 + (w64 (2 * st7.2))))))
            else
              some (.inr (st9.1, st9.2.1)) : Option (((List Int) × Int × Int) ⊕ (((List Int) × Int))))) (st7.1, 0, (w64 (2 * st7.2)))).bind fun o11 =>
        bif (decide ((w64 (o11.2 + st7.2)) < p_n)) then
          (slices_symMergeCmpFunc_int_68 o11.1 o11.2 (w64 (o11.2 + st7.2)) p_n p_cmp).bind fun r12 =>
          some (.inl (r12, (w64 (st7.2 * 2))))
        else
          some (.inl (o11.1, (w64 (st7.2 * 2))))
      else
        some (.inr st7.1) : Option (((List Int) × Int) ⊕ ((List Int))))) (r5, 20)).bind fun o13 =>
  some o13
noncomputable def C110_68 : FnSpec := { ps := [.own (.slice (.int .i64)), .val (.int .i64), .fn 68 [TGBook]], rs := [], fn := fun x => slices_stableCmpFunc_int_68 x.1 x.2.1 x.2.2 }
noncomputable def E110_68 : Env := { T := [], G := [(133, C133_68), (134, C134_68)], ro := [], loops := [(2, { keep := [1, 2, 6], live := [.own 0 [] 100000 (.int .i64) true, .tv 7 (.int .i64), .tv 8 (.int .i64)], outs := [(.exit 0, [.own 0 [] 100000 (.int .i64) true, .tv 7 (.int .i64)])] }), (7, { keep := [1, 2], live := [.own 0 [] 100000 (.int .i64) true, .tv 6 (.int .i64)], outs := [(.exit 2, [.own 0 [] 100000 (.int .i64) true])] }), (9, { keep := [1, 2, 6], live := [.own 0 [] 100000 (.int .i64) true, .tv 7 (.int .i64), .tv 8 (.int .i64)], outs := [(.exit 4, [.own 0 [] 100000 (.int .i64) true, .tv 7 (.int .i64)])] })], joins := [] }
theorem E110_68_eq : ∀ x, afun E110_68 Try.f110 C110_68.ps C110_68.rs x = C110_68.fn x := fun x => by kernel_rfl
theorem S110_68 : Sound Try.prog 110 C110_68 := fun_sound_own (E := E110_68) ⟨good_T (by kernel_rfl), (good_cons S133_68 ⟨_, Try.func133, by kernel_rfl, by kernel_rfl⟩ (good_cons S134_68 ⟨_, Try.func134, by kernel_rfl, by kernel_rfl⟩ good_nil)), mixedOk, ins_nil⟩ Try.func110 rfl rfl E110_68_eq
/-- slices.SortStableFunc[[]int,int] -/
noncomputable def slices_SortStableFunc_int_68 (p_x : List Int) (p_cmp : GBook × Unit) : Option ((List Int)) :=
  (slices_stableCmpFunc_int_68 p_x (p_x.length : Int) p_cmp).bind fun r1 =>
  some r1
noncomputable def C67_68 : FnSpec := { ps := [.own (.slice (.int .i64)), .fn 68 [TGBook]], rs := [], fn := fun x => slices_SortStableFunc_int_68 x.1 x.2 }
noncomputable def E67_68 : Env := { T := [(38, (.slice (.int .i64)))], G := [(110, C110_68)], ro := [], loops := [], joins := [] }
theorem E67_68_eq : ∀ x, afun E67_68 Try.f67 C67_68.ps C67_68.rs x = C67_68.fn x := fun x => by kernel_rfl
theorem S67_68 : Sound Try.prog 67 C67_68 := fun_sound_own (E := E67_68) ⟨good_T (by kernel_rfl), (good_cons S110_68 ⟨_, Try.func110, by kernel_rfl, by kernel_rfl⟩ good_nil), mixedOk, ins_nil⟩ Try.func67 rfl rfl E67_68_eq
/-- impl.DealAnew$2 -/
noncomputable def i_DealAnew_2 (p_i : Int) (p_k : Int) (p_a2 : List Int) : Option (Int) :=
  (idx p_a2 p_k).bind fun e1 =>
  (idx p_a2 p_i).bind fun e2 =>
  (cmp_Compare_int e1 e2).bind fun r3 =>
  some r3
noncomputable def C70 : FnSpec := { ps := [.val (.int .i64), .val (.int .i64), .rp (.slice (.int .i64))], rs := [.val (.int .i64)], fn := fun x => i_DealAnew_2 x.1 x.2.1 x.2.2 }
noncomputable def E70 : Env := { T := [(3, (.int .i64)), (38, (.slice (.int .i64)))], G := [(69, C69)], ro := [], loops := [], joins := [] }
theorem E70_eq : ∀ x, afun E70 Try.f70 C70.ps C70.rs x = C70.fn x := fun x => by kernel_rfl
theorem S70 : Sound Try.prog 70 C70 := fun_sound (E := E70) ⟨good_T (by kernel_rfl), (good_cons S69 ⟨_, Try.func69, by kernel_rfl, by kernel_rfl⟩ good_nil), mixedOk, ins_nil⟩ Try.func70 rfl E70_eq
/-- slices.insertionSortCmpFunc[int] -/
noncomputable def slices_insertionSortCmpFunc_int_70 (p_data : List Int) (p_a : Int) (p_b : Int) (p_cmp : (List Int) × Unit) : Option ((List Int)) :=
  (loopE (fun (st2 : (List Int) × Int) => (
      bif (decide (st2.2 < p_b)) then
        (loopE (fun (st4 : (List Int) × Int) => (
            (bif (decide (p_a < st4.2)) then
                bif decide (0 ≤ st4.2) && decide (st4.2 < (st4.1.length : Int)) then
                  (st4.1[(Int.toNat st4.2)]?).bind fun e5 =>
                  bif decide (0 ≤ (w64 (st4.2 - 1))) && decide ((w64 (st4.2 - 1)) < (st4.1.length : Int)) then
                    (st4.1[(Int.toNat (w64 (st4.2 - 1)))]?).bind fun e6 =>
                    (i_DealAnew_2 e5 e6 p_cmp.1).bind fun r7 =>
                    some (decide (r7 < 0))
                  else
                    none
                else
                  none
              else
                some false).bind fun c8 =>
            bif c8 then
              bif decide (0 ≤ (w64 (st4.2 - 1))) && decide ((w64 (st4.2 - 1)) < (st4.1.length : Int)) then
                (st4.1[(Int.toNat (w64 (st4.2 - 1)))]?).bind fun e9 =>
                bif decide (0 ≤ st4.2) && decide (st4.2 < (st4.1.length : Int)) then
                  (st4.1[(Int.toNat st4.2)]?).bind fun e10 =>
                  bif decide (0 ≤ st4.2) && decide (st4.2 < (st4.1.length : Int)) then
                    bif decide (0 ≤ (w64 (st4.2 - 1))) && decide ((w64 (st4.2 - 1)) < ((st4.1.set (Int.toNat st4.2) e9).length : Int)) then
                      some (.inl (((st4.1.set (Int.toNat st4.2) e9).set (Int.toNat (w64 (st4.2 - 1))) e10), (w64 (st4.2 - 1))))
                    else
                      none
                  else
                    none
                else
                  none
              else
                none
            else
              some (.inr st4.1) : Option (((List Int) × Int) ⊕ ((List Int))))) (st2.1, st2.2)).bind fun o11 =>
        some (.inl (o11, (w64 (st2.2 + 1))))
      else
        some (.inr st2.1) : Option (((List Int) × Int) ⊕ ((List Int))))) (p_data, (w64 (p_a + 1)))).bind fun o12 =>
  some o12
noncomputable def C133_70 : FnSpec := { ps := [.own (.slice (.int .i64)), .val (.int .i64), .val (.int .i64), .fn 70 [(.slice (.int .i64))]], rs := [], fn := fun x => slices_insertionSortCmpFunc_int_70 x.1 x.2.1 x.2.2.1 x.2.2.2 }
noncomputable def E133_70 : Env := { T := [(3, (.int .i64)), (38, (.slice (.int .i64)))], G := [(70, C70)], ro := [], loops := [(1, { keep := [1, 2, 3], live := [.own 0 [] 100000 (.int .i64) true, .tv 8 (.int .i64)], outs := [(.exit 0, [.own 0 [] 100000 (.int .i64) true])] }), (4, { keep := [1, 2, 3, 8], live := [.own 0 [] 100000 (.int .i64) true, .tv 9 (.int .i64)], outs := [(.exit 2, [.own 0 [] 100000 (.int .i64) true])] })], joins := [], hoist := [(6, [2, 3, 4])] }
theorem E133_70_eq : ∀ x, afun E133_70 Try.f133 C133_70.ps C133_70.rs x = C133_70.fn x := fun x => by kernel_rfl
theorem S133_70 : Sound Try.prog 133 C133_70 := fun_sound_own (E := E133_70) ⟨good_T (by kernel_rfl), (good_cons S70 ⟨_, Try.func70, by kernel_rfl, by kernel_rfl⟩ good_nil), mixedOk, ins_nil⟩ Try.func133 rfl rfl E133_70_eq


/-- slices.swapRangeCmpFunc[int] -/
noncomputable def slices_swapRangeCmpFunc_int_70 (p_data : List Int) (p_a : Int) (p_b : Int) (p_n : Int) (p_cmp : (List Int) × Unit) : Option ((List Int)) :=
  (loopE (fun (st2 : (List Int) × Int) => (
      bif (decide (st2.2 < p_n)) then
        bif decide (0 ≤ (w64 (p_b + st2.2))) && decide ((w64 (p_b + st2.2)) < (st2.1.length : Int)) then
          (st2.1[(Int.toNat (w64 (p_b + st2.2)))]?).bind fun e3 =>
          bif decide (0 ≤ (w64 (p_a + st2.2))) && decide ((w64 (p_a + st2.2)) < (st2.1.length : Int)) then
            (st2.1[(Int.toNat (w64 (p_a + st2.2)))]?).bind fun e4 =>
            bif decide (0 ≤ (w64 (p_a + st2.2))) && decide ((w64 (p_a + st2.2)) < (st2.1.length : Int)) then
              bif decide (0 ≤ (w64 (p_b + st2.2))) && decide ((w64 (p_b + st2.2)) < ((st2.1.set (Int.toNat (w64 (p_a + st2.2))) e3).length : Int)) then
                some (.inl (((st2.1.set (Int.toNat (w64 (p_a + st2.2))) e3).set (Int.toNat (w64 (p_b + st2.2))) e4), (w64 (st2.2 + 1))))
              else
                none
            else
              none
          else
            none
        else
          none
      else
        some (.inr st2.1) : Option (((List Int) × Int) ⊕ ((List Int))))) (p_data, 0)).bind fun o5 =>
  some o5
noncomputable def C142_70 : FnSpec := { ps := [.own (.slice (.int .i64)), .val (.int .i64), .val (.int .i64), .val (.int .i64), .fn 70 [(.slice (.int .i64))]], rs := [], fn := fun x => slices_swapRangeCmpFunc_int_70 x.1 x.2.1 x.2.2.1 x.2.2.2.1 x.2.2.2.2 }
noncomputable def E142_70 : Env := { T := [(3, (.int .i64)), (38, (.slice (.int .i64)))], G := [], ro := [], loops := [(1, { keep := [1, 2, 3], live := [.own 0 [] 100000 (.int .i64) true, .tv 10 (.int .i64)], outs := [(.exit 0, [.own 0 [] 100000 (.int .i64) true])] })], joins := [], hoist := [(3, [4, 5, 6, 7])] }
theorem E142_70_eq : ∀ x, afun E142_70 Try.f142 C142_70.ps C142_70.rs x = C142_70.fn x := fun x => by kernel_rfl
theorem S142_70 : Sound Try.prog 142 C142_70 := fun_sound_own (E := E142_70) ⟨good_T (by kernel_rfl), good_nil, mixedOk, ins_nil⟩ Try.func142 rfl rfl E142_70_eq
/-- slices.rotateCmpFunc[int] -/
noncomputable def slices_rotateCmpFunc_int_70 (p_data : List Int) (p_a : Int) (p_m : Int) (p_b : Int) (p_cmp : (List Int) × Unit) : Option ((List Int)) :=
  (loopE (fun (st2 : (List Int) × Int × Int) => (
      bif (!decide (st2.2.1 = st2.2.2)) then
        bif (decide (st2.2.2 < st2.2.1)) then
          (slices_swapRangeCmpFunc_int_70 st2.1 (w64 (p_m - st2.2.1)) p_m st2.2.2 p_cmp).bind fun r3 =>
          some (.inl (r3, (w64 (st2.2.1 - st2.2.2)), st2.2.2))
        else
          (slices_swapRangeCmpFunc_int_70 st2.1 (w64 (p_m - st2.2.1)) (w64 ((w64 (p_m + st2.2.2)) - st2.2.1)) st2.2.1 p_cmp).bind fun r4 =>
          some (.inl (r4, st2.2.1, (w64 (st2.2.2 - st2.2.1))))
      else
        some (.inr (st2.1, st2.2.1)) : Option (((List Int) × Int × Int) ⊕ (((List Int) × Int))))) (p_data, (w64 (p_m - p_a)), (w64 (p_b - p_m)))).bind fun o5 =>
  (slices_swapRangeCmpFunc_int_70 o5.1 (w64 (p_m - o5.2)) p_m o5.2 p_cmp).bind fun r6 =>
  some r6
noncomputable def C140_70 : FnSpec := { ps := [.own (.slice (.int .i64)), .val (.int .i64), .val (.int .i64), .val (.int .i64), .fn 70 [(.slice (.int .i64))]], rs := [], fn := fun x => slices_rotateCmpFunc_int_70 x.1 x.2.1 x.2.2.1 x.2.2.2.1 x.2.2.2.2 }
noncomputable def E140_70 : Env := { T := [], G := [(142, C142_70)], ro := [], loops := [(2, { keep := [2, 4], live := [.own 0 [] 100000 (.int .i64) true, .tv 10 (.int .i64), .tv 11 (.int .i64)], outs := [(.exit 0, [.own 0 [] 100000 (.int .i64) true, .tv 10 (.int .i64)])] })], joins := [] }
theorem E140_70_eq : ∀ x, afun E140_70 Try.f140 C140_70.ps C140_70.rs x = C140_70.fn x := fun x => by kernel_rfl
theorem S140_70 : Sound Try.prog 140 C140_70 := fun_sound_own (E := E140_70) ⟨good_T (by kernel_rfl), (good_cons S142_70 ⟨_, Try.func142, by kernel_rfl, by kernel_rfl⟩ good_nil), mixedOk, ins_nil⟩ Try.func140 rfl rfl E140_70_eq
/-- slices.symMergeCmpFunc[int] -/
noncomputable def slices_symMergeCmpFunc_int_70_step (slices_symMergeCmpFunc_int_again : (List Int) → Int → Int → Int → ((List Int) × Unit) → Option ((List Int))) (p_data : List Int) (p_a : Int) (p_m : Int) (p_b : Int) (p_cmp : (List Int) × Unit) : Option ((List Int)) :=
  bif (decide ((w64 (p_m - p_a)) = 1)) then
    (loopE (fun (st2 : (List Int) × Int × Int) => (
        bif (decide (st2.2.1 < st2.2.2)) then
          bif decide (0 ≤ (w64 (shiftI .shr .u64 (IntKind.u64.wrap (w64 (st2.2.1 + st2.2.2))) 1))) && decide ((w64 (shiftI .shr .u64 (IntKind.u64.wrap (w64 (st2.2.1 + st2.2.2))) 1)) < (st2.1.length : Int)) then
            (st2.1[(Int.toNat (w64 (shiftI .shr .u64 (IntKind.u64.wrap (w64 (st2.2.1 + st2.2.2))) 1)))]?).bind fun e3 =>
            bif decide (0 ≤ p_a) && decide (p_a < (st2.1.length : Int)) then
              (st2.1[(Int.toNat p_a)]?).bind fun e4 =>
              (i_DealAnew_2 e3 e4 p_cmp.1).bind fun r5 =>
              bif (decide (r5 < 0)) then
                some (.inl (st2.1, (w64 ((w64 (shiftI .shr .u64 (IntKind.u64.wrap (w64 (st2.2.1 + st2.2.2))) 1)) + 1)), st2.2.2))
              else
                some (.inl (st2.1, st2.2.1, (w64 (shiftI .shr .u64 (IntKind.u64.wrap (w64 (st2.2.1 + st2.2.2))) 1))))
            else
              none
          else
            none
        else
          some (.inr (st2.1, st2.2.1)) : Option (((List Int) × Int × Int) ⊕ (((List Int) × Int))))) (p_data, p_m, p_b)).bind fun o6 =>
    (loopE (fun (st8 : (List Int) × Int) => (
        bif (decide (st8.2 < (w64 (o6.2 - 1)))) then
          bif decide (0 ≤ (w64 (st8.2 + 1))) && decide ((w64 (st8.2 + 1)) < (st8.1.length : Int)) then
            (st8.1[(Int.toNat (w64 (st8.2 + 1)))]?).bind fun e9 =>
            bif decide (0 ≤ st8.2) && decide (st8.2 < (st8.1.length : Int)) then
              (st8.1[(Int.toNat st8.2)]?).bind fun e10 =>
              bif decide (0 ≤ st8.2) && decide (st8.2 < (st8.1.length : Int)) then
                bif decide (0 ≤ (w64 (st8.2 + 1))) && decide ((w64 (st8.2 + 1)) < ((st8.1.set (Int.toNat st8.2) e9).length : Int)) then
                  some (.inl (((st8.1.set (Int.toNat st8.2) e9).set (Int.toNat (w64 (st8.2 + 1))) e10), (w64 (st8.2 + 1))))
                else
                  none
              else
                none
            else
              none
          else
            none
        else
          some (.inr st8.1) : Option (((List Int) × Int) ⊕ ((List Int))))) (o6.1, p_a)).bind fun o11 =>
    some o11
  else
    bif (decide ((w64 (p_b - p_m)) = 1)) then
      (loopE (fun (st13 : (List Int) × Int × Int) => (
          bif (decide (st13.2.1 < st13.2.2)) then
            bif decide (0 ≤ p_m) && decide (p_m < (st13.1.length : Int)) then
              (st13.1[(Int.toNat p_m)]?).bind fun e14 =>
              bif decide (0 ≤ (w64 (shiftI .shr .u64 (IntKind.u64.wrap (w64 (st13.2.1 + st13.2.2))) 1))) && decide ((w64 (shiftI .shr .u64 (IntKind.u64.wrap (w64 (st13.2.1 + st13.2.2))) 1)) < (st13.1.length : Int)) then
                (st13.1[(Int.toNat (w64 (shiftI .shr .u64 (IntKind.u64.wrap (w64 (st13.2.1 + st13.2.2))) 1)))]?).bind fun e15 =>
                (i_DealAnew_2 e14 e15 p_cmp.1).bind fun r16 =>
                bif (!(decide (r16 < 0))) then
                  some (.inl (st13.1, (w64 ((w64 (shiftI .shr .u64 (IntKind.u64.wrap (w64 (st13.2.1 + st13.2.2))) 1)) + 1)), st13.2.2))
                else
                  some (.inl (st13.1, st13.2.1, (w64 (shiftI .shr .u64 (IntKind.u64.wrap (w64 (st13.2.1 + st13.2.2))) 1))))
              else
                none
            else
              none
          else
            some (.inr (st13.1, st13.2.1)) : Option (((List Int) × Int × Int) ⊕ (((List Int) × Int))))) (p_data, p_a, p_m)).bind fun o17 =>
      (loopE (fun (st19 : (List Int) × Int) => (
          bif (decide (o17.2 < st19.2)) then
            bif decide (0 ≤ (w64 (st19.2 - 1))) && decide ((w64 (st19.2 - 1)) < (st19.1.length : Int)) then
              (st19.1[(Int.toNat (w64 (st19.2 - 1)))]?).bind fun e20 =>
              bif decide (0 ≤ st19.2) && decide (st19.2 < (st19.1.length : Int)) then
                (st19.1[(Int.toNat st19.2)]?).bind fun e21 =>
                bif decide (0 ≤ st19.2) && decide (st19.2 < (st19.1.length : Int)) then
                  bif decide (0 ≤ (w64 (st19.2 - 1))) && decide ((w64 (st19.2 - 1)) < ((st19.1.set (Int.toNat st19.2) e20).length : Int)) then
                    some (.inl (((st19.1.set (Int.toNat st19.2) e20).set (Int.toNat (w64 (st19.2 - 1))) e21), (w64 (st19.2 - 1))))
                  else
                    none
                else
                  none
              else
                none
            else
              none
          else
            some (.inr st19.1) : Option (((List Int) × Int) ⊕ ((List Int))))) (o17.1, p_m)).bind fun o22 =>
      some o22
    else
      (bif (decide ((w64 (shiftI .shr .u64 (IntKind.u64.wrap (w64 (p_a + p_b))) 1)) < p_m)) then
          some (p_data, (w64 ((w64 ((w64 (shiftI .shr .u64 (IntKind.u64.wrap (w64 (p_a + p_b))) 1)) + p_m)) - p_b)), (w64 (shiftI .shr .u64 (IntKind.u64.wrap (w64 (p_a + p_b))) 1)))
        else
          some (p_data, p_a, p_m)).bind fun j23 =>
      (loopE (fun (st25 : (List Int) × Int × Int) => (
          bif (decide (st25.2.1 < st25.2.2)) then
            bif decide (0 ≤ (w64 ((w64 ((w64 ((w64 (shiftI .shr .u64 (IntKind.u64.wrap (w64 (p_a + p_b))) 1)) + p_m)) - 1)) - (w64 (shiftI .shr .u64 (IntKind.u64.wrap (w64 (st25.2.1 + st25.2.2))) 1))))) && decide ((w64 ((w64 ((w64 ((w64 (shiftI .shr .u64 (IntKind.u64.wrap (w64 (p_a + p_b))) 1)) + p_m)) - 1)) - (w64 (shiftI .shr .u64 (IntKind.u64.wrap (w64 (st25.2.1 + st25.2.2))) 1)))) < (st25.1.length : Int)) then
              (st25.1[(Int.toNat (w64 ((w64 ((w64 ((w64 (shiftI .shr .u64 (IntKind.u64.wrap (w64 (p_a + p_b))) 1)) + p_m)) - 1)) - (w64 (shiftI .shr .u64 (IntKind.u64.wrap (w64 (st25.2.1 + st25.2.2))) 1)))))]?).bind fun e26 =>
              bif decide (0 ≤ (w64 (shiftI .shr .u64 (IntKind.u64.wrap (w64 (st25.2.1 + st25.2.2))) 1))) && decide ((w64 (shiftI .shr .u64 (IntKind.u64.wrap (w64 (st25.2.1 + st25.2.2))) 1)) < (st25.1.length : Int)) then
                (st25.1[(Int.toNat (w64 (shiftI .shr .u64 (IntKind.u64.wrap (w64 (st25.2.1 + st25.2.2))) 1)))]?).bind fun e27 =>
                (i_DealAnew_2 e26 e27 p_cmp.1).bind fun r28 =>
                bif (!(decide (r28 < 0))) then
                  some (.inl (st25.1, (w64 ((w64 (shiftI .shr .u64 (IntKind.u64.wrap (w64 (st25.2.1 + st25.2.2))) 1)) + 1)), st25.2.2))
                else
                  some (.inl (st25.1, st25.2.1, (w64 (shiftI .shr .u64 (IntKind.u64.wrap (w64 (st25.2.1 + st25.2.2))) 1))))
              else
                none
            else
              none
          else
            some (.inr (st25.1, st25.2.1)) : Option (((List Int) × Int × Int) ⊕ (((List Int) × Int))))) (j23.1, j23.2.1, j23.2.2)).bind fun o29 =>
      (bif (decide (o29.2 < p_m)) then
          some (decide (p_m < (w64 ((w64 ((w64 (shiftI .shr .u64 (IntKind.u64.wrap (w64 (p_a + p_b))) 1)) + p_m)) - o29.2))))
        else
          some false).bind fun c30 =>
      bif c30 then
        (slices_rotateCmpFunc_int_70 o29.1 o29.2 p_m (w64 ((w64 ((w64 (shiftI .shr .u64 (IntKind.u64.wrap (w64 (p_a + p_b))) 1)) + p_m)) - o29.2)) p_cmp).bind fun r31 =>
        (bif (decide (p_a < o29.2)) then
            some (decide (o29.2 < (w64 (shiftI .shr .u64 (IntKind.u64.wrap (w64 (p_a + p_b))) 1))))
          else
            some false).bind fun c32 =>
        bif c32 then
          (slices_symMergeCmpFunc_int_again r31 p_a o29.2 (w64 (shiftI .shr .u64 (IntKind.u64.wrap (w64 (p_a + p_b))) 1)) p_cmp).bind fun r33 =>
          (bif (decide ((w64 (shiftI .shr .u64 (IntKind.u64.wrap (w64 (p_a + p_b))) 1)) < (w64 ((w64 ((w64 (shiftI .shr .u64 (IntKind.u64.wrap (w64 (p_a + p_b))) 1)) + p_m)) - o29.2)))) then
              some (decide ((w64 ((w64 ((w64 (shiftI .shr .u64 (IntKind.u64.wrap (w64 (p_a + p_b))) 1)) + p_m)) - o29.2)) < p_b))
            else
              some false).bind fun c34 =>
          bif c34 then
            (slices_symMergeCmpFunc_int_again r33 (w64 (shiftI .shr .u64 (IntKind.u64.wrap (w64 (p_a + p_b))) 1)) (w64 ((w64 ((w64 (shiftI .shr .u64 (IntKind.u64.wrap (w64 (p_a + p_b))) 1)) + p_m)) - o29.2)) p_b p_cmp).bind fun r35 =>
            some r35
          else
            some r33
        else
          (bif (decide ((w64 (shiftI .shr .u64 (IntKind.u64.wrap (w64 (p_a + p_b))) 1)) < (w64 ((w64 ((w64 (shiftI .shr .u64 (IntKind.u64.wrap (w64 (p_a + p_b))) 1)) + p_m)) - o29.2)))) then
              some (decide ((w64 ((w64 ((w64 (shiftI .shr .u64 (IntKind.u64.wrap (w64 (p_a + p_b))) 1)) + p_m)) - o29.2)) < p_b))
            else
              some false).bind fun c36 =>
          bif c36 then
            (slices_symMergeCmpFunc_int_again r31 (w64 (shiftI .shr .u64 (IntKind.u64.wrap (w64 (p_a + p_b))) 1)) (w64 ((w64 ((w64 (shiftI .shr .u64 (IntKind.u64.wrap (w64 (p_a + p_b))) 1)) + p_m)) - o29.2)) p_b p_cmp).bind fun r37 =>
            some r37
          else
            some r31
      else
        (bif (decide (p_a < o29.2)) then
            some (decide (o29.2 < (w64 (shiftI .shr .u64 (IntKind.u64.wrap (w64 (p_a + p_b))) 1))))
          else
            some false).bind fun c38 =>
        bif c38 then
          (slices_symMergeCmpFunc_int_again o29.1 p_a o29.2 (w64 (shiftI .shr .u64 (IntKind.u64.wrap (w64 (p_a + p_b))) 1)) p_cmp).bind fun r39 =>
          (bif (decide ((w64 (shiftI .shr .u64 (IntKind.u64.wrap (w64 (p_a + p_b))) 1)) < (w64 ((w64 ((w64 (shiftI .shr .u64 (IntKind.u64.wrap (w64 (p_a + p_b))) 1)) + p_m)) - o29.2)))) then
              some (decide ((w64 ((w64 ((w64 (shiftI .shr .u64 (IntKind.u64.wrap (w64 (p_a + p_b))) 1)) + p_m)) - o29.2)) < p_b))
            else
              some false).bind fun c40 =>
          bif c40 then
            (slices_symMergeCmpFunc_int_again r39 (w64 (shiftI .shr .u64 (IntKind.u64.wrap (w64 (p_a + p_b))) 1)) (w64 ((w64 ((w64 (shiftI .shr .u64 (IntKind.u64.wrap (w64 (p_a + p_b))) 1)) + p_m)) - o29.2)) p_b p_cmp).bind fun r41 =>
            some r41
          else
            some r39
        else
          (bif (decide ((w64 (shiftI .shr .u64 (IntKind.u64.wrap (w64 (p_a + p_b))) 1)) < (w64 ((w64 ((w64 (shiftI .shr .u64 (IntKind.u64.wrap (w64 (p_a + p_b))) 1)) + p_m)) - o29.2)))) then
              some (decide ((w64 ((w64 ((w64 (shiftI .shr .u64 (IntKind.u64.wrap (w64 (p_a + p_b))) 1)) + p_m)) - o29.2)) < p_b))
            else
              some false).bind fun c42 =>
          bif c42 then
            (slices_symMergeCmpFunc_int_again o29.1 (w64 (shiftI .shr .u64 (IntKind.u64.wrap (w64 (p_a + p_b))) 1)) (w64 ((w64 ((w64 (shiftI .shr .u64 (IntKind.u64.wrap (w64 (p_a + p_b))) 1)) + p_m)) - o29.2)) p_b p_cmp).bind fun r43 =>
            some r43
          else
            some o29.1
noncomputable def slices_symMergeCmpFunc_int_70_it : Nat → (List Int) → Int → Int → Int → ((List Int) × Unit) → Option ((List Int))
  | 0, _, _, _, _, _ => none
  | k + 1, p_data, p_a, p_m, p_b, p_cmp => slices_symMergeCmpFunc_int_70_step (slices_symMergeCmpFunc_int_70_it k) p_data p_a p_m p_b p_cmp
noncomputable def slices_symMergeCmpFunc_int_70 (p_data : List Int) (p_a : Int) (p_m : Int) (p_b : Int) (p_cmp : (List Int) × Unit) : Option ((List Int)) := limE fun k => slices_symMergeCmpFunc_int_70_it k p_data p_a p_m p_b p_cmp
noncomputable def C134_70 : FnSpec := { ps := [.own (.slice (.int .i64)), .val (.int .i64), .val (.int .i64), .val (.int .i64), .fn 70 [(.slice (.int .i64))]], rs := [], fn := fun x => slices_symMergeCmpFunc_int_70 x.1 x.2.1 x.2.2.1 x.2.2.2.1 x.2.2.2.2 }
noncomputable def CR134_70 (again : (List Int) → Int → Int → Int → ((List Int) × Unit) → Option ((List Int))) : FnSpec := { ps := [.own (.slice (.int .i64)), .val (.int .i64), .val (.int .i64), .val (.int .i64), .fn 70 [(.slice (.int .i64))]], rs := [], fn := fun x => again x.1 x.2.1 x.2.2.1 x.2.2.2.1 x.2.2.2.2 }
noncomputable def E134_70 (again : (List Int) → Int → Int → Int → ((List Int) × Unit) → Option ((List Int))) : Env := { T := [(3, (.int .i64)), (38, (.slice (.int .i64))), (123, (.int .u64))], G := [(70, C70), (134, CR134_70 again), (140, C140_70)], ro := [], loops := [(3, { keep := [1, 4], live := [.own 0 [] 100000 (.int .i64) true, .tv 10 (.int .i64), .tv 11 (.int .i64)], outs := [(.exit 0, [.own 0 [] 100000 (.int .i64) true, .tv 10 (.int .i64)])] }), (9, { keep := [10], live := [.own 0 [] 100000 (.int .i64) true, .tv 13 (.int .i64)], outs := [(.exit 2, [.own 0 [] 100000 (.int .i64) true])] }), (15, { keep := [2, 4], live := [.own 0 [] 100000 (.int .i64) true, .tv 14 (.int .i64), .tv 15 (.int .i64)], outs := [(.exit 4, [.own 0 [] 100000 (.int .i64) true, .tv 14 (.int .i64)])] }), (21, { keep := [14], live := [.own 0 [] 100000 (.int .i64) true, .tv 17 (.int .i64)], outs := [(.exit 6, [.own 0 [] 100000 (.int .i64) true])] }), (33, { keep := [1, 2, 3, 4, 18, 19, 22, 182, 183, 184, 196, 197, 198, 210, 211, 212], live := [.own 0 [] 100000 (.int .i64) true, .tv 20 (.int .i64), .tv 21 (.int .i64)], outs := [(.exit 8, [.own 0 [] 100000 (.int .i64) true, .tv 20 (.int .i64)])] })], joins := [(32, { keep := [1, 2, 3, 4, 18, 19], live := [], outs := [(.normal, [.own 0 [] 100000 (.int .i64) true, .tv 20 (.int .i64), .tv 21 (.int .i64)])] })], hoist := [(11, [2, 3, 4]), (23, [2, 3, 4])] }
theorem E134_70_eq : ∀ (again : (List Int) → Int → Int → Int → ((List Int) × Unit) → Option ((List Int))) x, afun (E134_70 again) Try.f134 C134_70.ps C134_70.rs x = slices_symMergeCmpFunc_int_70_step again x.1 x.2.1 x.2.2.1 x.2.2.2.1 x.2.2.2.2 := fun again x => by kernel_rfl
theorem S134_70_it : ∀ k, Sound Try.prog 134 (CR134_70 (slices_symMergeCmpFunc_int_70_it k))
  | 0 => fun _ _ _ _ _ _ _ _ _ _ h => nomatch h
  | k + 1 => fun_sound_own (E := E134_70 (slices_symMergeCmpFunc_int_70_it k)) ⟨good_T (by kernel_rfl), (good_cons S70 ⟨_, Try.func70, by kernel_rfl, by kernel_rfl⟩ (good_cons (S134_70_it k) ⟨_, Try.func134, by kernel_rfl, by kernel_rfl⟩ (good_cons S140_70 ⟨_, Try.func140, by kernel_rfl, by kernel_rfl⟩ good_nil))), mixedOk, ins_nil⟩ Try.func134 rfl rfl (E134_70_eq _)
theorem S134_70 : Sound Try.prog 134 C134_70 := sound_lim (P := Try.prog) (f := 134) (ps := C134_70.ps) (rs := C134_70.rs) (g := fun k x => slices_symMergeCmpFunc_int_70_it k x.1 x.2.1 x.2.2.1 x.2.2.2.1 x.2.2.2.2) S134_70_it
/-- slices.stableCmpFunc[int] -/
noncomputable def slices_stableCmpFunc_int_70 (p_data : List Int) (p_n : Int) (p_cmp : (List Int) × Unit) : Option ((List Int)) :=
  (loopE (fun (st2 : (List Int) × Int × Int) => (
      bif (decide (st2.2.2 ≤ p_n)) then
        (slices_insertionSortCmpFunc_int_70 st2.1 st2.2.1 st2.2.2 p_cmp).bind fun r3 =>
        some (.inl (r3, st2.2.2, (w64 (st2.2.2 + 20))))
      else
        some (.inr (st2.1, st2.2.1)) : Option (((List Int) × Int × Int) ⊕ (((List Int) × Int))))) (p_data, 0, 20)).bind fun o4 =>
  (slices_insertionSortCmpFunc_int_70 o4.1 o4.2 p_n p_cmp).bind fun r5 =>
  (loopE (fun (st7 : (List Int) × Int) => (
      bif (decide (st7.2 < p_n)) then
        (loopE (fun (st9 : (List Int) × Int × Int) => (
            bif (decide (st9.2.2 ≤ p_n)) then
              (slices_symMergeCmpFunc_int_70 st9.1 st9.2.1 (w64 (st9.2.1 + st7.2)) st9.2.2 p_cmp).bind fun r10 =>
              some (.inl (r10, st9.2.2, (w64 (st9.2.2 + (w64 (2 * st7.2))))))
            else
              some (.inr (st9.1, st9.2.1)) : Option (((List Int) × Int × Int) ⊕ (((List Int) × Int))))) (st7.1, 0, (w64 (2 * st7.2)))).bind fun o11 =>
        bif (decide ((w64 (o11.2 + st7.2)) < p_n)) then
          (slices_symMergeCmpFunc_int_70 o11.1 o11.2 (w64 (o11.2 + st7.2)) p_n p_cmp).bind fun r12 =>
          some (.inl (r12, (w64 (st7.2 * 2))))
        else
          some (.inl (o11.1, (w64 (st7.2 * 2))))
      else
        some (.inr st7.1) : Option (((List Int) × Int) ⊕ ((List Int))))) (r5, 20)).bind fun o13 =>
  some o13
noncomputable def C110_70 : FnSpec := { ps := [.own (.slice (.int .i64)), .val (.int .i64), .fn 70 [(.slice (.int .i64))]], rs := [], fn := fun x => slices_stableCmpFunc_int_70 x.1 x.2.1 x.2.2 }
noncomputable def E110_70 : Env := { T := [], G := [(133, C133_70), (134, C134_70)], ro := [], loops := [(2, { keep := [1, 2, 6], live := [.own 0 [] 100000 (.int .i64) true, .tv 7 (.int .i64), .tv 8 (.int .i64)], outs := [(.exit 0, [.own 0 [] 100000 (.int .i64) true, .tv 7 (.int .i64)])] }), (7, { keep := [1, 2], live := [.own 0 [] 100000 (.int .i64) true, .tv 6 (.int .i64)], outs := [(.exit 2, [.own 0 [] 100000 (.int .i64) true])] }), (9, { keep := [1, 2, 6], live := [.own 0 [] 100000 (.int .i64) true, .tv 7 (.int .i64), .tv 8 (.int .i64)], outs := [(.exit 4, [.own 0 [] 100000 (.int .i64) true, .tv 7 (.int .i64)])] })], joins := [] }
theorem E110_70_eq : ∀ x, afun E110_70 Try.f110 C110_70.ps C110_70.rs x = C110_70.fn x := fun x => by kernel_rfl
theorem S110_70 : Sound Try.prog 110 C110_70 := fun_sound_own (E := E110_70) ⟨good_T (by kernel_rfl), (good_cons S133_70 ⟨_, Try.func133, by kernel_rfl, by kernel_rfl⟩ (good_cons S134_70 ⟨_, Try.func134, by kernel_rfl, by kernel_rfl⟩ good_nil)), mixedOk, ins_nil⟩ Try.func110 rfl rfl E110_70_eq
/-- slices.SortStableFunc[[]int,int] -/
noncomputable def slices_SortStableFunc_int_70 (p_x : List Int) (p_cmp : (List Int) × Unit) : Option ((List Int)) :=
  (slices_stableCmpFunc_int_70 p_x (p_x.length : Int) p_cmp).bind fun r1 =>
  some r1
noncomputable def C67_70 : FnSpec := { ps := [.own (.slice (.int .i64)), .fn 70 [(.slice (.int .i64))]], rs := [], fn := fun x => slices_SortStableFunc_int_70 x.1 x.2 }
noncomputable def E67_70 : Env := { T := [(38, (.slice (.int .i64)))], G := [(110, C110_70)], ro := [], loops := [], joins := [] }
theorem E67_70_eq : ∀ x, afun E67_70 Try.f67 C67_70.ps C67_70.rs x = C67_70.fn x := fun x => by kernel_rfl
theorem S67_70 : Sound Try.prog 67 C67_70 := fun_sound_own (E := E67_70) ⟨good_T (by kernel_rfl), (good_cons S110_70 ⟨_, Try.func110, by kernel_rfl, by kernel_rfl⟩ good_nil), mixedOk, ins_nil⟩ Try.func67 rfl rfl E67_70_eq
/-- slices.Clone[[]int,int] -/
noncomputable def slices_Clone_int (p_s : List Int) : Option ((List Int)) :=
  bif List.isEmpty p_s then
    bothSame (
      bif true then
        some []
      else
        bif decide (List.length p_s ≤ lim) then
          some p_s
        else
          none)
    (
      bif false then
        some []
      else
        bif decide (List.length p_s ≤ lim) then
          some p_s
        else
          none)
  else
    bif false then
      some []
    else
      bif decide (List.length p_s ≤ lim) then
        some p_s
      else
        none
noncomputable def C72 : FnSpec := { ps := [.val (.slice (.int .i64))], rs := [.own (.slice (.int .i64))], fn := fun x => slices_Clone_int x }
noncomputable def E72 : Env := { T := [(38, (.slice (.int .i64)))], G := [], ro := [], loops := [], joins := [] }
theorem E72_eq : ∀ x, afun E72 Try.f72 C72.ps C72.rs x = C72.fn x := fun x => by kernel_rfl
theorem S72 : Sound Try.prog 72 C72 := fun_sound (E := E72) ⟨good_T (by kernel_rfl), good_nil, mixedOk, ins_nil⟩ Try.func72 rfl E72_eq
/-- impl.cloneBook -/
noncomputable def i_cloneBook (p_b : GBook) : Option (GBook) :=
  bif decide (0 ≤ (p_b.1.length : Int)) && decide ((p_b.1.length : Int) ≤ (p_b.1.length : Int)) && decide ((p_b.1.length : Int) ≤ lim) then
    (loopE (fun (st2 : (List GPhrase) × (List GPhrase) × Int) => (
        bif (decide (st2.2.2 < (p_b.1.length : Int))) then
          (idx p_b.1 st2.2.2).bind fun e3 =>
          (slices_Clone_int e3.2.1).bind fun r4 =>
          bif decide (0 ≤ st2.2.2) && decide (st2.2.2 < (st2.2.1.length : Int)) then
            some (.inl (st2.1, (st2.2.1.set (Int.toNat st2.2.2) (e3.1, r4, ())), (w64 (st2.2.2 + 1))))
          else
            none
        else
          some (.inr (st2.1, st2.2.1)) : Option (((List GPhrase) × (List GPhrase) × Int) ⊕ (((List GPhrase) × (List GPhrase)))))) ([], (List.replicate (Int.toNat (p_b.1.length : Int)) (([], ([], ())) : GPhrase)), 0)).bind fun o5 =>
    some (o5.2, ())
  else
    none
noncomputable def C71 : FnSpec := { ps := [.val TGBook], rs := [.own TGBook], fn := fun x => i_cloneBook x }
noncomputable def E71 : Env := { T := [(9, .str), (30, (.slice TGPhrase)), (32, TGBook), (38, (.slice (.int .i64))), (61, TGPhrase)], G := [(72, C72)], ro := [1], loops := [(3, { keep := [12, 13], live := [.bx 2 32 [.own 300032 TGPhrase true], .bx 3 48 [.own 144 TGPhrase true], .tv 14 (.int .i64)], outs := [(.exit 0, [.bx 2 32 [.own 300032 TGPhrase true], .bx 3 48 [.own 144 TGPhrase true]])] })], joins := [], mv := true }
theorem E71_eq : ∀ x, afun E71 Try.f71 C71.ps C71.rs x = C71.fn x := fun x => by kernel_rfl
theorem S71 : Sound Try.prog 71 C71 := fun_sound (E := E71) ⟨good_T (by kernel_rfl), (good_cons S72 ⟨_, Try.func72, by kernel_rfl, by kernel_rfl⟩ good_nil), mixedOk, ins_nil⟩ Try.func71 rfl E71_eq
/-- impl.DealAnew -/
noncomputable def i_DealAnew (p_b : GBook) (p_weights : List Int) : Option (GBook × Bool) :=
  (i_IsBook p_b).bind fun r1 =>
  (bif (!r1) then
      some true
    else
      (i_areBookWeights p_b p_weights).bind fun r2 =>
      some (!r2)).bind fun c3 =>
  bif c3 then
    some (([], ()), false)
  else
    (i_firstChoice (p_weights.length : Int)).bind fun r4 =>
    (slices_SortStableFunc_int_68 r4 (p_b, ())).bind fun r5 =>
    (i_firstChoice (p_weights.length : Int)).bind fun r6 =>
    (slices_SortStableFunc_int_70 r6 (p_weights, ())).bind fun r7 =>
    (i_cloneBook p_b).bind fun r8 =>
    (loopE (fun (st10 : (List GPhrase) × (List Int) × (List GPhrase) × (List Int) × Int) => (
        bif (decide (st10.2.2.2.2 < (r7.length : Int))) then
          bif decide (0 ≤ st10.2.2.2.2) && decide (st10.2.2.2.2 < (st10.2.2.2.1.length : Int)) then
            (st10.2.2.2.1[(Int.toNat st10.2.2.2.2)]?).bind fun e11 =>
            bif decide (0 ≤ st10.2.2.2.2) && decide (st10.2.2.2.2 < (st10.2.1.length : Int)) then
              (st10.2.1[(Int.toNat st10.2.2.2.2)]?).bind fun e12 =>
              (idx p_b.1 e12).bind fun e13 =>
              (slices_Clone_int e13.2.1).bind fun r14 =>
              bif decide (0 ≤ e11) && decide (e11 < (st10.2.2.1.length : Int)) then
                (st10.2.2.1[(Int.toNat e11)]?).bind fun e15 =>
                some (.inl (st10.1, st10.2.1, (st10.2.2.1.set (Int.toNat e11) (e15.1, r14, ())), st10.2.2.2.1, (w64 (st10.2.2.2.2 + 1))))
              else
                none
            else
              none
          else
            none
        else
          some (.inr (st10.1, st10.2.2.1)) : Option (((List GPhrase) × (List Int) × (List GPhrase) × (List Int) × Int) ⊕ (((List GPhrase) × (List GPhrase)))))) ([], r5, r8.1, r7, 0)).bind fun o16 =>
    some ((o16.2, ()), true)
noncomputable def C17 : FnSpec := { ps := [.val TGBook, .val (.slice (.int .i64))], rs := [.own TGBook, .val .bool], fn := fun x => i_DealAnew x.1 x.2 }
noncomputable def E17 : Env := { T := [(3, (.int .i64)), (30, (.slice TGPhrase)), (32, TGBook), (38, (.slice (.int .i64))), (61, TGPhrase)], G := [(49, C49), (65, C65), (66, C66), (67, C67_68), (67, C67_70), (71, C71), (72, C72)], ro := [2, 3], loops := [(9, { keep := [2, 36], live := [.bx 4 64 [.own 300064 TGPhrase true], .own 6 [] 368 (.int .i64) true, .bx 8 128 [.own 544 TGPhrase true], .own 35 [] 464 (.int .i64) true, .tv 37 (.int .i64)], outs := [(.exit 0, [.bx 4 64 [.own 300064 TGPhrase true], .bx 8 128 [.own 544 TGPhrase true]])] })], joins := [], mv := true }
theorem E17_eq : ∀ x, afun E17 Try.f17 C17.ps C17.rs x = C17.fn x := fun x => by kernel_rfl
theorem S17 : Sound Try.prog 17 C17 := fun_sound (E := E17) ⟨good_T (by kernel_rfl), (good_cons S49 ⟨_, Try.func49, by kernel_rfl, by kernel_rfl⟩ (good_cons S65 ⟨_, Try.func65, by kernel_rfl, by kernel_rfl⟩ (good_cons S66 ⟨_, Try.func66, by kernel_rfl, by kernel_rfl⟩ (good_cons S67_68 ⟨_, Try.func67, by kernel_rfl, by kernel_rfl⟩ (good_cons S67_70 ⟨_, Try.func67, by kernel_rfl, by kernel_rfl⟩ (good_cons S71 ⟨_, Try.func71, by kernel_rfl, by kernel_rfl⟩ (good_cons S72 ⟨_, Try.func72, by kernel_rfl, by kernel_rfl⟩ good_nil))))))), mixedOk, ins_nil⟩ Try.func17 rfl E17_eq
/-- laws.markIntS -/
noncomputable def l_markIntS (p_a : List Int) (p_k : Int) : Option ((List Int) × Int) :=
  (loopE (fun (st2 : (List Int) × Int × Int) => (
      bif (decide (st2.2.2 < (st2.1.length : Int))) then
        bif decide (0 ≤ st2.2.2) && decide (st2.2.2 < (st2.1.length : Int)) then
          some (.inl ((st2.1.set (Int.toNat st2.2.2) st2.2.1), (w64 (st2.2.1 + 1)), (w64 (st2.2.2 + 1))))
        else
          none
      else
        some (.inr (st2.1, st2.2.1)) : Option (((List Int) × Int × Int) ⊕ (((List Int) × Int))))) (p_a, p_k, 0)).bind fun o3 =>
  some (o3.1, o3.2)
noncomputable def C20 : FnSpec := { ps := [.own (.slice (.int .i64)), .val (.int .i64)], rs := [.val (.int .i64)], fn := fun x => l_markIntS x.1 x.2 }
noncomputable def E20 : Env := { T := [(3, (.int .i64)), (38, (.slice (.int .i64)))], G := [], ro := [], loops := [(2, { keep := [], live := [.own 0 [] 100000 (.int .i64) true, .tv 1 (.int .i64), .tv 5 (.int .i64)], outs := [(.exit 0, [.own 0 [] 100000 (.int .i64) true, .tv 1 (.int .i64)])] })], joins := [] }
theorem E20_eq : ∀ x, afun E20 Try.f20 C20.ps C20.rs x = C20.fn x := fun x => by kernel_rfl
theorem S20 : Sound Try.prog 20 C20 := fun_sound_own (E := E20) ⟨good_T (by kernel_rfl), good_nil, mixedOk, ins_nil⟩ Try.func20 rfl rfl E20_eq
/-- laws.markText -/
noncomputable def l_markText (p_k : Int) : Option (Bytes) :=
  bif (decide (p_k ≤ 0)) then
    some ([109, 48] : Bytes)
  else
    (loopE (fun (st2 : Int × Bytes) => (
        bif (decide (0 < st2.1)) then
          bif decide (List.length (toStr [(IntKind.u8.wrap (w64 (48 + (Int.tmod st2.1 10))))]) + List.length st2.2 ≤ lim) then
            some (.inl ((w64 (Int.tdiv st2.1 10)), ((toStr [(IntKind.u8.wrap (w64 (48 + (Int.tmod st2.1 10))))]) ++ st2.2)))
          else
            none
        else
          some (.inr st2.2) : Option ((Int × Bytes) ⊕ (Bytes)))) (p_k, [])).bind fun o3 =>
    bif decide (List.length ([109] : Bytes) + List.length o3 ≤ lim) then
      some (([109] : Bytes) ++ o3)
    else
      none
noncomputable def C112 : FnSpec := { ps := [.val (.int .i64)], rs := [.val .str], fn := fun x => l_markText x }
noncomputable def E112 : Env := { T := [(3, (.int .i64)), (5, (.int .u8)), (9, .str), (46, (.slice (.int .u8)))], G := [], ro := [], loops := [(4, { keep := [], live := [.tv 0 (.int .i64), .tv 3 .str], outs := [(.exit 0, [.tv 3 .str])] })], joins := [] }
theorem E112_eq : ∀ x, afun E112 Try.f112 C112.ps C112.rs x = C112.fn x := fun x => by kernel_rfl
theorem S112 : Sound Try.prog 112 C112 := fun_sound (E := E112) ⟨good_T (by kernel_rfl), good_nil, mixedOk, ins_nil⟩ Try.func112 rfl E112_eq
/-- laws.markPhraseS -/
noncomputable def l_markPhraseS (p_a : List GPhrase) (p_k : Int) : Option ((List GPhrase) × Int) :=
  (loopE (fun (st2 : (List GPhrase) × Int × Int) => (
      bif (decide (st2.2.2 < (st2.1.length : Int))) then
        (l_markText st2.2.1).bind fun r3 =>
        bif decide (0 ≤ st2.2.2) && decide (st2.2.2 < (st2.1.length : Int)) then
          (st2.1[(Int.toNat st2.2.2)]?).bind fun e4 =>
          bif decide (0 ≤ st2.2.2) && decide (st2.2.2 < ((st2.1.set (Int.toNat st2.2.2) (r3, e4.2)).length : Int)) then
            ((st2.1.set (Int.toNat st2.2.2) (r3, e4.2))[(Int.toNat st2.2.2)]?).bind fun e5 =>
            (l_markIntS e5.2.1 (w64 (st2.2.1 + 1))).bind fun r6 =>
            some (.inl (((st2.1.set (Int.toNat st2.2.2) (r3, e4.2)).set (Int.toNat st2.2.2) (e5.1, r6.1, ())), r6.2, (w64 (st2.2.2 + 1))))
          else
            none
        else
          none
      else
        some (.inr (st2.1, st2.2.1)) : Option (((List GPhrase) × Int × Int) ⊕ (((List GPhrase) × Int))))) (p_a, p_k, 0)).bind fun o7 =>
  some (o7.1, o7.2)
noncomputable def C73 : FnSpec := { ps := [.own (.slice TGPhrase), .val (.int .i64)], rs := [.val (.int .i64)], fn := fun x => l_markPhraseS x.1 x.2 }
noncomputable def E73 : Env := { T := [(9, .str), (30, (.slice TGPhrase)), (38, (.slice (.int .i64))), (61, TGPhrase)], G := [(20, C20), (112, C112)], ro := [], loops := [(2, { keep := [], live := [.own 0 [] 100000 TGPhrase true, .tv 1 (.int .i64), .tv 5 (.int .i64)], outs := [(.exit 0, [.own 0 [] 100000 TGPhrase true, .tv 1 (.int .i64)])] })], joins := [] }
theorem E73_eq : ∀ x, afun E73 Try.f73 C73.ps C73.rs x = C73.fn x := fun x => by kernel_rfl
theorem S73 : Sound Try.prog 73 C73 := fun_sound_own (E := E73) ⟨good_T (by kernel_rfl), (good_cons S20 ⟨_, Try.func20, by kernel_rfl, by kernel_rfl⟩ (good_cons S112 ⟨_, Try.func112, by kernel_rfl, by kernel_rfl⟩ good_nil)), mixedOk, ins_nil⟩ Try.func73 rfl rfl E73_eq
/-- laws.markBook -/
noncomputable def l_markBook (p_a : GBook) (p_k : Int) : Option (GBook × Int) :=
  (l_markPhraseS p_a.1 p_k).bind fun r1 =>
  some ((r1.1, ()), r1.2)
noncomputable def C19 : FnSpec := { ps := [.own TGBook, .val (.int .i64)], rs := [.val (.int .i64)], fn := fun x => l_markBook x.1 x.2 }
noncomputable def E19 : Env := { T := [(30, (.slice TGPhrase)), (32, TGBook)], G := [(73, C73)], ro := [], loops := [], joins := [] }
theorem E19_eq : ∀ x, afun E19 Try.f19 C19.ps C19.rs x = C19.fn x := fun x => by kernel_rfl
theorem S19 : Sound Try.prog 19 C19 := fun_sound_own (E := E19) ⟨good_T (by kernel_rfl), (good_cons S73 ⟨_, Try.func73, by kernel_rfl, by kernel_rfl⟩ good_nil), mixedOk, ins_nil⟩ Try.func19 rfl rfl E19_eq
/-- laws.heldIntS -/
noncomputable def l_heldIntS (p_a : List Int) (p_k : Int) : Option (Int) :=
  (loopE (fun (st2 : Int × Int) => (
      bif (decide (st2.2 < (p_a.length : Int))) then
        (idx p_a st2.2).bind fun e3 =>
        bif (!decide (e3 = st2.1)) then
          some (.inr (.inr (-1)))
        else
          some (.inl ((w64 (st2.1 + 1)), (w64 (st2.2 + 1))))
      else
        some (.inr (.inl st2.1)) : Option ((Int × Int) ⊕ (Int ⊕ Int)))) (p_k, 0)).bind fun o4 =>
  match o4 with
  | .inl x5 =>
    some x5
  | .inr y6 =>
    some y6
noncomputable def C113 : FnSpec := { ps := [.val (.slice (.int .i64)), .val (.int .i64)], rs := [.val (.int .i64)], fn := fun x => l_heldIntS x.1 x.2 }
noncomputable def E113 : Env := { T := [(3, (.int .i64)), (38, (.slice (.int .i64)))], G := [], ro := [], loops := [(2, { keep := [0], live := [.tv 1 (.int .i64), .tv 5 (.int .i64)], outs := [(.exit 0, [.tv 1 (.int .i64)]), (.ret, [.tv 4 (.int .i64)])] })], joins := [] }
theorem E113_eq : ∀ x, afun E113 Try.f113 C113.ps C113.rs x = C113.fn x := fun x => by kernel_rfl
theorem S113 : Sound Try.prog 113 C113 := fun_sound (E := E113) ⟨good_T (by kernel_rfl), good_nil, mixedOk, ins_nil⟩ Try.func113 rfl E113_eq
/-- laws.heldPhraseS -/
noncomputable def l_heldPhraseS (p_a : List GPhrase) (p_k : Int) : Option (Int) :=
  (loopE (fun (st2 : Int × Int) => (
      bif (decide (st2.2 < (p_a.length : Int))) then
        (idx p_a st2.2).bind fun e3 =>
        (l_markText st2.1).bind fun r4 =>
        bif (!decide (e3.1 = r4)) then
          some (.inr (.inr (-1)))
        else
          (idx p_a st2.2).bind fun e5 =>
          (l_heldIntS e5.2.1 (w64 (st2.1 + 1))).bind fun r6 =>
          bif (decide (r6 < 0)) then
            some (.inr (.inr (-1)))
          else
            some (.inl (r6, (w64 (st2.2 + 1))))
      else
        some (.inr (.inl st2.1)) : Option ((Int × Int) ⊕ (Int ⊕ Int)))) (p_k, 0)).bind fun o7 =>
  match o7 with
  | .inl x8 =>
    some x8
  | .inr y9 =>
    some y9
noncomputable def C74 : FnSpec := { ps := [.val (.slice TGPhrase), .val (.int .i64)], rs := [.val (.int .i64)], fn := fun x => l_heldPhraseS x.1 x.2 }
noncomputable def E74 : Env := { T := [(9, .str), (30, (.slice TGPhrase)), (38, (.slice (.int .i64))), (61, TGPhrase)], G := [(112, C112), (113, C113)], ro := [], loops := [(2, { keep := [0], live := [.tv 1 (.int .i64), .tv 5 (.int .i64)], outs := [(.exit 0, [.tv 1 (.int .i64)]), (.ret, [.tv 4 (.int .i64)])] })], joins := [] }
theorem E74_eq : ∀ x, afun E74 Try.f74 C74.ps C74.rs x = C74.fn x := fun x => by kernel_rfl
theorem S74 : Sound Try.prog 74 C74 := fun_sound (E := E74) ⟨good_T (by kernel_rfl), (good_cons S112 ⟨_, Try.func112, by kernel_rfl, by kernel_rfl⟩ (good_cons S113 ⟨_, Try.func113, by kernel_rfl, by kernel_rfl⟩ good_nil)), mixedOk, ins_nil⟩ Try.func74 rfl E74_eq
/-- laws.heldBook -/
noncomputable def l_heldBook (p_a : GBook) (p_k : Int) : Option (Int) :=
  (l_heldPhraseS p_a.1 p_k).bind fun r1 =>
  bif (decide (r1 < 0)) then
    some (-1)
  else
    some r1
noncomputable def C21 : FnSpec := { ps := [.val TGBook, .val (.int .i64)], rs := [.val (.int .i64)], fn := fun x => l_heldBook x.1 x.2 }
noncomputable def E21 : Env := { T := [(30, (.slice TGPhrase)), (32, TGBook)], G := [(74, C74)], ro := [2], loops := [], joins := [] }
theorem E21_eq : ∀ x, afun E21 Try.f21 C21.ps C21.rs x = C21.fn x := fun x => by kernel_rfl
theorem S21 : Sound Try.prog 21 C21 := fun_sound (E := E21) ⟨good_T (by kernel_rfl), (good_cons S74 ⟨_, Try.func74, by kernel_rfl, by kernel_rfl⟩ good_nil), mixedOk, ins_nil⟩ Try.func21 rfl E21_eq
/-- laws.FnExactDealAnew -/
noncomputable def l_FnExactDealAnew (p_aB : GBook) (p_aWeights : List Int) : Option (Bool) :=
  bif (decide (1048576 < (p_aWeights.length : Int))) then
    some true
  else
    (l_szBook p_aB 1048576).bind fun r1 =>
    bif (decide (r1 < 0)) then
      some true
    else
      (l_toBook p_aB).bind fun r2 =>
      (l_toIntS p_aWeights).bind fun r3 =>
      (s_DealAnew r2 r3).bind fun r4 =>
      (l_toBook p_aB).bind fun r5 =>
      (l_toIntS p_aWeights).bind fun r6 =>
      (i_DealAnew r5 r6).bind fun r7 =>
      (l_eqBook r7.1 r4.1).bind fun r8 =>
      (bif (!r8) then
          some true
        else
          some (r7.2 != r4.2)).bind fun c9 =>
      bif c9 then
        some false
      else
        (l_toBook p_aB).bind fun r10 =>
        (l_eqBook r5 r10).bind fun r11 =>
        bif (!r11) then
          some false
        else
          (l_toIntS p_aWeights).bind fun r12 =>
          (l_eqIntS r6 r12).bind fun r13 =>
          bif (!r13) then
            some false
          else
            (l_markBook (r5.1, ()) 1).bind fun r14 =>
            (l_markIntS r6 r14.2).bind fun r15 =>
            (bif (decide (r15.2 < 0)) then
                some true
              else
                (l_eqBook r7.1 r4.1).bind fun r16 =>
                some (!r16)).bind fun c17 =>
            (bif c17 then
                some true
              else
                some (r7.2 != r4.2)).bind fun c18 =>
            bif c18 then
              some false
            else
              (l_markBook r7.1 1).bind fun r19 =>
              (l_heldBook r19.1 1).bind fun r20 =>
              bif (decide (r20 < 0)) then
                some false
              else
                bif (!decide (r20 = r19.2)) then
                  some false
                else
                  (l_toBook p_aB).bind fun r21 =>
                  (l_toIntS p_aWeights).bind fun r22 =>
                  (i_DealAnew r21 r22).bind fun r23 =>
                  (l_eqBook r23.1 r4.1).bind fun r24 =>
                  (bif (!r24) then
                      some true
                    else
                      some (r23.2 != r4.2)).bind fun c25 =>
                  bif c25 then
                    some false
                  else
                    (l_heldBook r19.1 1).bind fun r26 =>
                    bif (decide (r26 < 0)) then
                      some false
                    else
                      bif (!decide (r26 = r19.2)) then
                        some false
                      else
                        some true
noncomputable def C4 : FnSpec := { ps := [.val TGBook, .val (.slice (.int .i64))], rs := [.val .bool], fn := fun x => l_FnExactDealAnew x.1 x.2 }
noncomputable def E4 : Env := { T := [(4, .bool), (24, TGBook), (32, TGBook), (38, (.slice (.int .i64)))], G := [(7, C7), (10, C10), (13, C13), (15, C15), (16, C16), (17, C17), (18, C18), (19, C19), (20, C20), (21, C21)], ro := [2], loops := [], joins := [] }
theorem E4_eq : ∀ x, afun E4 Try.f4 C4.ps C4.rs x = C4.fn x := fun x => by kernel_rfl
theorem S4 : Sound Try.prog 4 C4 := fun_sound (E := E4) ⟨good_T (by kernel_rfl), (good_cons S7 ⟨_, Try.func7, by kernel_rfl, by kernel_rfl⟩ (good_cons S10 ⟨_, Try.func10, by kernel_rfl, by kernel_rfl⟩ (good_cons S13 ⟨_, Try.func13, by kernel_rfl, by kernel_rfl⟩ (good_cons S15 ⟨_, Try.func15, by kernel_rfl, by kernel_rfl⟩ (good_cons S16 ⟨_, Try.func16, by kernel_rfl, by kernel_rfl⟩ (good_cons S17 ⟨_, Try.func17, by kernel_rfl, by kernel_rfl⟩ (good_cons S18 ⟨_, Try.func18, by kernel_rfl, by kernel_rfl⟩ (good_cons S19 ⟨_, Try.func19, by kernel_rfl, by kernel_rfl⟩ (good_cons S20 ⟨_, Try.func20, by kernel_rfl, by kernel_rfl⟩ (good_cons S21 ⟨_, Try.func21, by kernel_rfl, by kernel_rfl⟩ good_nil)))))))))), mixedOk, ins_nil⟩ Try.func4 rfl E4_eq
/-- spec.spLetters -/
noncomputable def s_spLetters (p_s : Bytes) : Option (Bool) :=
  (loopE (fun (st2 : Int) => (
      bif (decide (st2 < (p_s.length : Int))) then
        (idx p_s st2).bind fun b3 =>
        (bif (decide ((b3.toNat : Int) < 97)) then
            some true
          else
            (idx p_s st2).bind fun b4 =>
            some (decide (122 < (b4.toNat : Int)))).bind fun c5 =>
        bif c5 then
          some (.inr (.inr false))
        else
          some (.inl (w64 (st2 + 1)))
      else
        some (.inr (.inl ())) : Option ((Int) ⊕ (Unit ⊕ Bool)))) 0).bind fun o6 =>
  match o6 with
  | .inl _ =>
    some (decide ((p_s.length : Int) ≤ 40))
  | .inr y8 =>
    some y8
noncomputable def C54 : FnSpec := { ps := [.val .str], rs := [.val .bool], fn := fun x => s_spLetters x }
noncomputable def E54 : Env := { T := [(9, .str)], G := [], ro := [], loops := [(2, { keep := [0], live := [.tv 3 (.int .i64)], outs := [(.exit 0, []), (.ret, [.tv 2 .bool])] })], joins := [] }
theorem E54_eq : ∀ x, afun E54 Try.f54 C54.ps C54.rs x = C54.fn x := fun x => by kernel_rfl
theorem S54 : Sound Try.prog 54 C54 := fun_sound (E := E54) ⟨good_T (by kernel_rfl), good_nil, mixedOk, ins_nil⟩ Try.func54 rfl E54_eq
/-- spec.spAsked -/
noncomputable def s_spAsked (p_b : GBook) (p_s : Bytes) : Option (Bool) :=
  (s_bkGood p_b).bind fun r1 =>
  (bif r1 then
      (s_spLetters p_s).bind fun r2 =>
      some r2
    else
      some false).bind fun c3 =>
  some c3
noncomputable def C119 : FnSpec := { ps := [.val TGBook, .val .str], rs := [.val .bool], fn := fun x => s_spAsked x.1 x.2 }
noncomputable def E119 : Env := { T := [(32, TGBook)], G := [(53, C53), (54, C54)], ro := [2], loops := [], joins := [] }
theorem E119_eq : ∀ x, afun E119 Try.f119 C119.ps C119.rs x = C119.fn x := fun x => by kernel_rfl
theorem S119 : Sound Try.prog 119 C119 := fun_sound (E := E119) ⟨good_T (by kernel_rfl), (good_cons S53 ⟨_, Try.func53, by kernel_rfl, by kernel_rfl⟩ (good_cons S54 ⟨_, Try.func54, by kernel_rfl, by kernel_rfl⟩ good_nil)), mixedOk, ins_nil⟩ Try.func119 rfl E119_eq
/-- spec.spBegins -/
noncomputable def s_spBegins (p_s : Bytes) (p_text : Bytes) : Option (Bool) :=
  (bif (decide ((p_text.length : Int) ≤ (p_s.length : Int))) then
      (sub p_s 0 (p_text.length : Int)).bind fun l1 =>
      some (decide (l1 = p_text))
    else
      some false).bind fun c2 =>
  some c2
noncomputable def C136 : FnSpec := { ps := [.val .str, .val .str], rs := [.val .bool], fn := fun x => s_spBegins x.1 x.2 }
noncomputable def E136 : Env := { T := [(9, .str)], G := [], ro := [], loops := [], joins := [] }
theorem E136_eq : ∀ x, afun E136 Try.f136 C136.ps C136.rs x = C136.fn x := fun x => by kernel_rfl
theorem S136 : Sound Try.prog 136 C136 := fun_sound (E := E136) ⟨good_T (by kernel_rfl), good_nil, mixedOk, ins_nil⟩ Try.func136 rfl E136_eq
/-- spec.spTable -/
noncomputable def s_spTable (p_b : GBook) (p_s : Bytes) : Option ((List Int)) :=
  bif decide (0 ≤ (w64 ((p_s.length : Int) + 1))) && decide ((w64 ((p_s.length : Int) + 1)) ≤ (w64 ((p_s.length : Int) + 1))) && decide ((w64 ((p_s.length : Int) + 1)) ≤ lim) then
    (loopE (fun (st2 : (List Int) × Int) => (
        bif (decide (0 ≤ st2.2)) then
          bif decide (0 ≤ st2.2) && decide (st2.2 < (st2.1.length : Int)) then
            (loopE (fun (st4 : (List Int) × Int) => (
                bif (decide (st4.2 < (p_b.1.length : Int))) then
                  (idx p_b.1 st4.2).bind fun e5 =>
                  (sub p_s st2.2 (p_s.length : Int)).bind fun l6 =>
                  (s_spBegins l6 e5.1).bind fun r7 =>
                  (bif (!r7) then
                      some true
                    else
                      bif decide (0 ≤ (w64 (st2.2 + (e5.1.length : Int)))) && decide ((w64 (st2.2 + (e5.1.length : Int))) < (st4.1.length : Int)) then
                        (st4.1[(Int.toNat (w64 (st2.2 + (e5.1.length : Int))))]?).bind fun e8 =>
                        some (decide (e8 < 0))
                      else
                        none).bind fun c9 =>
                  bif c9 then
                    some (.inl (st4.1, (w64 (st4.2 + 1))))
                  else
                    bif decide (0 ≤ (w64 (st2.2 + (e5.1.length : Int)))) && decide ((w64 (st2.2 + (e5.1.length : Int))) < (st4.1.length : Int)) then
                      (st4.1[(Int.toNat (w64 (st2.2 + (e5.1.length : Int))))]?).bind fun e10 =>
                      bif decide (0 ≤ st2.2) && decide (st2.2 < (st4.1.length : Int)) then
                        (st4.1[(Int.toNat st2.2)]?).bind fun e11 =>
                        (bif (decide (e11 < 0)) then
                            some true
                          else
                            bif decide (0 ≤ st2.2) && decide (st2.2 < (st4.1.length : Int)) then
                              (st4.1[(Int.toNat st2.2)]?).bind fun e12 =>
                              some (decide ((w64 ((e5.2.1.length : Int) + e10)) < e12))
                            else
                              none).bind fun c13 =>
                        bif c13 then
                          bif decide (0 ≤ st2.2) && decide (st2.2 < (st4.1.length : Int)) then
                            some (.inl ((st4.1.set (Int.toNat st2.2) (w64 ((e5.2.1.length : Int) + e10))), (w64 (st4.2 + 1))))
                          else
                            none
                        else
                          some (.inl (st4.1, (w64 (st4.2 + 1))))
                      else
                        none
                    else
                      none
                else
                  some (.inr st4.1) : Option (((List Int) × Int) ⊕ ((List Int))))) ((st2.1.set (Int.toNat st2.2) (-1)), 0)).bind fun o14 =>
            some (.inl (o14, (w64 (st2.2 - 1))))
          else
            none
        else
          some (.inr st2.1) : Option (((List Int) × Int) ⊕ ((List Int))))) ((List.replicate (Int.toNat (w64 ((p_s.length : Int) + 1))) (0 : Int)), (w64 ((p_s.length : Int) - 1)))).bind fun o15 =>
    some o15
  else
    none
noncomputable def C120 : FnSpec := { ps := [.val TGBook, .val .str], rs := [.own (.slice (.int .i64))], fn := fun x => s_spTable x.1 x.2 }
noncomputable def E120 : Env := { T := [(3, (.int .i64)), (9, .str), (30, (.slice TGPhrase)), (32, TGBook), (38, (.slice (.int .i64))), (61, TGPhrase)], G := [(136, C136)], ro := [2], loops := [(3, { keep := [1, 2], live := [.own 5 [] 208 (.int .i64) true, .tv 6 (.int .i64)], outs := [(.exit 0, [.own 5 [] 208 (.int .i64) true])] }), (7, { keep := [1, 2, 6, 25, 26], live := [.own 5 [] 208 (.int .i64) true, .tv 27 (.int .i64)], outs := [(.exit 2, [.own 5 [] 208 (.int .i64) true])] })], joins := [] }
theorem E120_eq : ∀ x, afun E120 Try.f120 C120.ps C120.rs x = C120.fn x := fun x => by kernel_rfl
theorem S120 : Sound Try.prog 120 C120 := fun_sound (E := E120) ⟨good_T (by kernel_rfl), (good_cons S136 ⟨_, Try.func136, by kernel_rfl, by kernel_rfl⟩ good_nil), mixedOk, ins_nil⟩ Try.func120 rfl E120_eq
/-- spec.LeastSignals -/
noncomputable def s_LeastSignals (p_b : GBook) (p_s : Bytes) : Option (Int × Bool) :=
  (s_spAsked p_b p_s).bind fun r1 =>
  (bif (!r1) then
      some true
    else
      (s_spTable p_b p_s).bind fun r2 =>
      bif decide (0 ≤ 0) && decide (0 < (r2.length : Int)) then
        (r2[(Int.toNat 0)]?).bind fun e3 =>
        some (decide (e3 < 0))
      else
        none).bind fun c4 =>
  bif c4 then
    some (0, false)
  else
    (s_spTable p_b p_s).bind fun r5 =>
    bif decide (0 ≤ 0) && decide (0 < (r5.length : Int)) then
      (r5[(Int.toNat 0)]?).bind fun e6 =>
      some (e6, true)
    else
      none
noncomputable def C85 : FnSpec := { ps := [.val TGBook, .val .str], rs := [.val (.int .i64), .val .bool], fn := fun x => s_LeastSignals x.1 x.2 }
noncomputable def E85 : Env := { T := [(3, (.int .i64)), (32, TGBook), (38, (.slice (.int .i64)))], G := [(119, C119), (120, C120)], ro := [2], loops := [], joins := [] }
theorem E85_eq : ∀ x, afun E85 Try.f85 C85.ps C85.rs x = C85.fn x := fun x => by kernel_rfl
theorem S85 : Sound Try.prog 85 C85 := fun_sound (E := E85) ⟨good_T (by kernel_rfl), (good_cons S119 ⟨_, Try.func119, by kernel_rfl, by kernel_rfl⟩ (good_cons S120 ⟨_, Try.func120, by kernel_rfl, by kernel_rfl⟩ good_nil)), mixedOk, ins_nil⟩ Try.func85 rfl E85_eq
/-- spec.l1Sign -/
noncomputable def s_l1Sign (p_n : Int) : Option (Int) :=
  bif (decide (0 < p_n)) then
    some 1
  else
    bif (decide (p_n < 0)) then
      some (-1)
    else
      some 0
noncomputable def C103 : FnSpec := { ps := [.val (.int .i64)], rs := [.val (.int .i64)], fn := fun x => s_l1Sign x }
noncomputable def E103 : Env := { T := [], G := [], ro := [], loops := [], joins := [] }
theorem E103_eq : ∀ x, afun E103 Try.f103 C103.ps C103.rs x = C103.fn x := fun x => by kernel_rfl
theorem S103 : Sound Try.prog 103 C103 := fun_sound (E := E103) ⟨good_T (by kernel_rfl), good_nil, mixedOk, ins_nil⟩ Try.func103 rfl E103_eq
/-- spec.msCompare -/
noncomputable def s_msCompare (p_a : GBook) (p_b : GBook) (p_s : Bytes) : Option (Int × Bool) :=
  (s_LeastSignals p_a p_s).bind fun r1 =>
  (s_LeastSignals p_b p_s).bind fun r2 =>
  (bif (!r1.2) then
      some true
    else
      some (!r2.2)).bind fun c3 =>
  bif c3 then
    some (0, false)
  else
    (s_l1Sign (w64 (r1.1 - r2.1))).bind fun r4 =>
    some (r4, true)
noncomputable def C55 : FnSpec := { ps := [.val TGBook, .val TGBook, .val .str], rs := [.val (.int .i64), .val .bool], fn := fun x => s_msCompare x.1 x.2.1 x.2.2 }
noncomputable def E55 : Env := { T := [(32, TGBook)], G := [(85, C85), (103, C103)], ro := [3, 4], loops := [], joins := [] }
theorem E55_eq : ∀ x, afun E55 Try.f55 C55.ps C55.rs x = C55.fn x := fun x => by kernel_rfl
theorem S55 : Sound Try.prog 55 C55 := fun_sound (E := E55) ⟨good_T (by kernel_rfl), (good_cons S85 ⟨_, Try.func85, by kernel_rfl, by kernel_rfl⟩ (good_cons S103 ⟨_, Try.func103, by kernel_rfl, by kernel_rfl⟩ good_nil)), mixedOk, ins_nil⟩ Try.func55 rfl E55_eq
/-- spec.CountWins -/
noncomputable def s_CountWins (p_a : GBook) (p_b : GBook) (p_list : List Bytes) : Option (Int × Int × Int × Bool) :=
  (s_bkGood p_a).bind fun r1 =>
  (bif (!r1) then
      some true
    else
      (s_bkGood p_b).bind fun r2 =>
      some (!r2)).bind fun c3 =>
  (bif c3 then
      some true
    else
      some (decide (20 < (p_list.length : Int)))).bind fun c4 =>
  bif c4 then
    some (0, 0, 0, false)
  else
    bif decide (0 ≤ 3) && decide (3 ≤ 3) && decide (3 ≤ lim) then
      (loopE (fun (st6 : (List Int) × Int) => (
          bif (decide (st6.2 < (p_list.length : Int))) then
            (idx p_list st6.2).bind fun e7 =>
            (s_spLetters e7).bind fun r8 =>
            bif (!r8) then
              some (.inr (.inr (0, 0, 0, false)))
            else
              (s_msCompare p_a p_b e7).bind fun r9 =>
              bif r9.2 then
                bif decide (0 ≤ (w64 (r9.1 + 1))) && decide ((w64 (r9.1 + 1)) < (st6.1.length : Int)) then
                  (st6.1[(Int.toNat (w64 (r9.1 + 1)))]?).bind fun e10 =>
                  bif decide (0 ≤ (w64 (r9.1 + 1))) && decide ((w64 (r9.1 + 1)) < (st6.1.length : Int)) then
                    some (.inl ((st6.1.set (Int.toNat (w64 (r9.1 + 1))) (w64 (e10 + 1))), (w64 (st6.2 + 1))))
                  else
                    none
                else
                  none
              else
                some (.inl (st6.1, (w64 (st6.2 + 1))))
          else
            some (.inr (.inl st6.1)) : Option (((List Int) × Int) ⊕ ((List Int) ⊕ (Int × Int × Int × Bool))))) ((List.replicate (Int.toNat 3) (0 : Int)), 0)).bind fun o11 =>
      match o11 with
      | .inl x12 =>
        bif decide (0 ≤ 0) && decide (0 < (x12.length : Int)) then
          (x12[(Int.toNat 0)]?).bind fun e14 =>
          bif decide (0 ≤ 1) && decide (1 < (x12.length : Int)) then
            (x12[(Int.toNat 1)]?).bind fun e15 =>
            bif decide (0 ≤ 2) && decide (2 < (x12.length : Int)) then
              (x12[(Int.toNat 2)]?).bind fun e16 =>
              some (e14, e15, e16, true)
            else
              none
          else
            none
        else
          none
      | .inr y13 =>
        some (y13.1, y13.2.1, y13.2.2.1, y13.2.2.2)
    else
      none
noncomputable def C9 : FnSpec := { ps := [.val TGBook, .val TGBook, .val (.slice .str)], rs := [.val (.int .i64), .val (.int .i64), .val (.int .i64), .val .bool], fn := fun x => s_CountWins x.1 x.2.1 x.2.2 }
noncomputable def E9 : Env := { T := [(3, (.int .i64)), (9, .str), (25, (.slice .str)), (32, TGBook), (38, (.slice (.int .i64)))], G := [(53, C53), (54, C54), (55, C55)], ro := [3, 4], loops := [(5, { keep := [3, 4, 29, 30], live := [.own 10 [] 448 (.int .i64) true, .tv 31 (.int .i64)], outs := [(.exit 0, [.own 10 [] 448 (.int .i64) true]), (.ret, [.tv 6 (.int .i64), .tv 7 (.int .i64), .tv 8 (.int .i64), .tv 9 .bool])] })], joins := [] }
theorem E9_eq : ∀ x, afun E9 Try.f9 C9.ps C9.rs x = C9.fn x := fun x => by kernel_rfl
theorem S9 : Sound Try.prog 9 C9 := fun_sound (E := E9) ⟨good_T (by kernel_rfl), (good_cons S53 ⟨_, Try.func53, by kernel_rfl, by kernel_rfl⟩ (good_cons S54 ⟨_, Try.func54, by kernel_rfl, by kernel_rfl⟩ (good_cons S55 ⟨_, Try.func55, by kernel_rfl, by kernel_rfl⟩ good_nil))), mixedOk, ins_nil⟩ Try.func9 rfl E9_eq
/-- impl.isLetters -/
noncomputable def i_isLetters (p_s : Bytes) : Option (Bool) :=
  (bif (decide ((p_s.length : Int) ≤ 40)) then
      (i_isSmall p_s).bind fun r1 =>
      some r1
    else
      some false).bind fun c2 =>
  some c2
noncomputable def C59 : FnSpec := { ps := [.val .str], rs := [.val .bool], fn := fun x => i_isLetters x }
noncomputable def E59 : Env := { T := [(9, .str)], G := [(106, C106)], ro := [], loops := [], joins := [] }
theorem E59_eq : ∀ x, afun E59 Try.f59 C59.ps C59.rs x = C59.fn x := fun x => by kernel_rfl
theorem S59 : Sound Try.prog 59 C59 := fun_sound (E := E59) ⟨good_T (by kernel_rfl), (good_cons S106 ⟨_, Try.func106, by kernel_rfl, by kernel_rfl⟩ good_nil), mixedOk, ins_nil⟩ Try.func59 rfl E59_eq
/-- internal/stringslite.HasPrefix -/
noncomputable def internal_stringslite_HasPrefix (p_s : Bytes) (p_prefix : Bytes) : Option (Bool) :=
  (bif (decide ((p_prefix.length : Int) ≤ (p_s.length : Int))) then
      (sub p_s 0 (p_prefix.length : Int)).bind fun l1 =>
      some (decide (l1 = p_prefix))
    else
      some false).bind fun c2 =>
  some c2
noncomputable def C143 : FnSpec := { ps := [.val .str, .val .str], rs := [.val .bool], fn := fun x => internal_stringslite_HasPrefix x.1 x.2 }
noncomputable def E143 : Env := { T := [(9, .str)], G := [], ro := [], loops := [], joins := [] }
theorem E143_eq : ∀ x, afun E143 Try.f143 C143.ps C143.rs x = C143.fn x := fun x => by kernel_rfl
theorem S143 : Sound Try.prog 143 C143 := fun_sound (E := E143) ⟨good_T (by kernel_rfl), good_nil, mixedOk, ins_nil⟩ Try.func143 rfl E143_eq
/-- strings.HasPrefix -/
noncomputable def strings_HasPrefix (p_s : Bytes) (p_prefix : Bytes) : Option (Bool) :=
  (internal_stringslite_HasPrefix p_s p_prefix).bind fun r1 =>
  some r1
noncomputable def C141 : FnSpec := { ps := [.val .str, .val .str], rs := [.val .bool], fn := fun x => strings_HasPrefix x.1 x.2 }
noncomputable def E141 : Env := { T := [], G := [(143, C143)], ro := [], loops := [], joins := [] }
theorem E141_eq : ∀ x, afun E141 Try.f141 C141.ps C141.rs x = C141.fn x := fun x => by kernel_rfl
theorem S141 : Sound Try.prog 141 C141 := fun_sound (E := E141) ⟨good_T (by kernel_rfl), (good_cons S143 ⟨_, Try.func143, by kernel_rfl, by kernel_rfl⟩ good_nil), mixedOk, ins_nil⟩ Try.func141 rfl E141_eq
/-- impl.spell -/
noncomputable def i_spell (p_b : GBook) (p_s : Bytes) : Option ((List Int) × Bool) :=
  bif decide (0 ≤ (w64 ((p_s.length : Int) + 1))) && decide ((w64 ((p_s.length : Int) + 1)) ≤ (w64 ((p_s.length : Int) + 1))) && decide ((w64 ((p_s.length : Int) + 1)) ≤ lim) then
    bif decide (0 ≤ (w64 ((p_s.length : Int) + 1))) && decide ((w64 ((p_s.length : Int) + 1)) ≤ (w64 ((p_s.length : Int) + 1))) && decide ((w64 ((p_s.length : Int) + 1)) ≤ lim) then
      (loopE (fun (st2 : (List Int) × (List Int) × Int) => (
          bif (decide (0 ≤ st2.2.2)) then
            bif decide (0 ≤ st2.2.2) && decide (st2.2.2 < (st2.1.length : Int)) then
              (loopE (fun (st4 : (List Int) × (List Int) × Int) => (
                  bif (decide (st4.2.2 < (p_b.1.length : Int))) then
                    (idx p_b.1 st4.2.2).bind fun e5 =>
                    (sub p_s st2.2.2 (p_s.length : Int)).bind fun l6 =>
                    (strings_HasPrefix l6 e5.1).bind fun r7 =>
                    bif (!r7) then
                      some (.inl (st4.1, st4.2.1, (w64 (st4.2.2 + 1))))
                    else
                      bif decide (0 ≤ (w64 (st2.2.2 + (e5.1.length : Int)))) && decide ((w64 (st2.2.2 + (e5.1.length : Int))) < (st4.1.length : Int)) then
                        (st4.1[(Int.toNat (w64 (st2.2.2 + (e5.1.length : Int))))]?).bind fun e8 =>
                        bif decide (0 ≤ st2.2.2) && decide (st2.2.2 < (st4.1.length : Int)) then
                          (st4.1[(Int.toNat st2.2.2)]?).bind fun e9 =>
                          bif (decide ((w64 (e8 + (e5.2.1.length : Int))) < e9)) then
                            bif decide (0 ≤ st2.2.2) && decide (st2.2.2 < (st4.1.length : Int)) then
                              bif decide (0 ≤ st2.2.2) && decide (st2.2.2 < (st4.2.1.length : Int)) then
                                some (.inl ((st4.1.set (Int.toNat st2.2.2) (w64 (e8 + (e5.2.1.length : Int)))), (st4.2.1.set (Int.toNat st2.2.2) st4.2.2), (w64 (st4.2.2 + 1))))
                              else
                                none
                            else
                              none
                          else
                            some (.inl (st4.1, st4.2.1, (w64 (st4.2.2 + 1))))
                        else
                          none
                      else
                        none
                  else
                    some (.inr (st4.1, st4.2.1)) : Option (((List Int) × (List Int) × Int) ⊕ (((List Int) × (List Int)))))) ((st2.1.set (Int.toNat st2.2.2) 1073741824), st2.2.1, 0)).bind fun o10 =>
              some (.inl (o10.1, o10.2, (w64 (st2.2.2 - 1))))
            else
              none
          else
            some (.inr (st2.1, st2.2.1)) : Option (((List Int) × (List Int) × Int) ⊕ (((List Int) × (List Int)))))) ((List.replicate (Int.toNat (w64 ((p_s.length : Int) + 1))) (0 : Int)), (List.replicate (Int.toNat (w64 ((p_s.length : Int) + 1))) (0 : Int)), (w64 ((p_s.length : Int) - 1)))).bind fun o11 =>
      bif decide (0 ≤ 0) && decide (0 < (o11.1.length : Int)) then
        (o11.1[(Int.toNat 0)]?).bind fun e12 =>
        bif (decide (1073741824 ≤ e12)) then
          some ([], false)
        else
          (loopE (fun (st14 : (List Int) × (List Int) × Int) => (
              bif (decide (st14.2.2 < (p_s.length : Int))) then
                bif decide (0 ≤ st14.2.2) && decide (st14.2.2 < (st14.1.length : Int)) then
                  (st14.1[(Int.toNat st14.2.2)]?).bind fun e15 =>
                  bif decide (List.length st14.2.1 + List.length [e15] ≤ lim) then
                    bif decide (0 ≤ st14.2.2) && decide (st14.2.2 < (st14.1.length : Int)) then
                      (st14.1[(Int.toNat st14.2.2)]?).bind fun e16 =>
                      (idx p_b.1 e16).bind fun e17 =>
                      some (.inl (st14.1, (st14.2.1 ++ [e15]), (w64 (st14.2.2 + (e17.1.length : Int)))))
                    else
                      none
                  else
                    none
                else
                  none
              else
                some (.inr st14.2.1) : Option (((List Int) × (List Int) × Int) ⊕ ((List Int))))) (o11.2, [], 0)).bind fun o18 =>
          some (o18, true)
      else
        none
    else
      none
  else
    none
noncomputable def C138 : FnSpec := { ps := [.val TGBook, .val .str], rs := [.own (.slice (.int .i64)), .val .bool], fn := fun x => i_spell x.1 x.2 }
noncomputable def E138 : Env := { T := [(3, (.int .i64)), (9, .str), (30, (.slice TGPhrase)), (32, TGBook), (38, (.slice (.int .i64))), (61, TGPhrase)], G := [(141, C141)], ro := [2], loops := [(4, { keep := [1, 2], live := [.own 6 [] 272 (.int .i64) true, .own 7 [] 336 (.int .i64) true, .tv 8 (.int .i64)], outs := [(.exit 0, [.own 6 [] 272 (.int .i64) true, .own 7 [] 336 (.int .i64) true])] }), (8, { keep := [1, 2, 8, 33, 34], live := [.own 6 [] 272 (.int .i64) true, .own 7 [] 336 (.int .i64) true, .tv 35 (.int .i64)], outs := [(.exit 2, [.own 6 [] 272 (.int .i64) true, .own 7 [] 336 (.int .i64) true])] }), (19, { keep := [1, 2], live := [.own 7 [] 336 (.int .i64) true, .own 12 [] 200012 (.int .i64) true, .tv 13 (.int .i64)], outs := [(.exit 4, [.own 12 [] 200012 (.int .i64) true])] })], joins := [] }
theorem E138_eq : ∀ x, afun E138 Try.f138 C138.ps C138.rs x = C138.fn x := fun x => by kernel_rfl
theorem S138 : Sound Try.prog 138 C138 := fun_sound (E := E138) ⟨good_T (by kernel_rfl), (good_cons S141 ⟨_, Try.func141, by kernel_rfl, by kernel_rfl⟩ good_nil), mixedOk, ins_nil⟩ Try.func138 rfl E138_eq
/-- impl.SpellMessage -/
noncomputable def i_SpellMessage (p_b : GBook) (p_s : Bytes) : Option ((List Int) × Bool) :=
  (i_IsBook p_b).bind fun r1 =>
  (bif (!r1) then
      some true
    else
      (i_isLetters p_s).bind fun r2 =>
      some (!r2)).bind fun c3 =>
  bif c3 then
    some ([], false)
  else
    (i_spell p_b p_s).bind fun r4 =>
    some (r4.1, r4.2)
noncomputable def C123 : FnSpec := { ps := [.val TGBook, .val .str], rs := [.own (.slice (.int .i64)), .val .bool], fn := fun x => i_SpellMessage x.1 x.2 }
noncomputable def E123 : Env := { T := [(32, TGBook)], G := [(49, C49), (59, C59), (138, C138)], ro := [2], loops := [], joins := [] }
theorem E123_eq : ∀ x, afun E123 Try.f123 C123.ps C123.rs x = C123.fn x := fun x => by kernel_rfl
theorem S123 : Sound Try.prog 123 C123 := fun_sound (E := E123) ⟨good_T (by kernel_rfl), (good_cons S49 ⟨_, Try.func49, by kernel_rfl, by kernel_rfl⟩ (good_cons S59 ⟨_, Try.func59, by kernel_rfl, by kernel_rfl⟩ (good_cons S138 ⟨_, Try.func138, by kernel_rfl, by kernel_rfl⟩ good_nil))), mixedOk, ins_nil⟩ Try.func123 rfl E123_eq
/-- impl.EncodeMessage -/
noncomputable def i_EncodeMessage (p_b : GBook) (p_s : Bytes) : Option ((List Int) × Bool) :=
  (i_SpellMessage p_b p_s).bind fun r1 =>
  (loopE (fun (st3 : (List Int) × (List Int) × Int) => (
      bif (decide (st3.2.2 < (r1.1.length : Int))) then
        bif decide (0 ≤ st3.2.2) && decide (st3.2.2 < (st3.2.1.length : Int)) then
          (st3.2.1[(Int.toNat st3.2.2)]?).bind fun e4 =>
          (idx p_b.1 e4).bind fun e5 =>
          bif decide (List.length st3.1 + List.length e5.2.1 ≤ lim) then
            some (.inl ((st3.1 ++ e5.2.1), st3.2.1, (w64 (st3.2.2 + 1))))
          else
            none
        else
          none
      else
        some (.inr st3.1) : Option (((List Int) × (List Int) × Int) ⊕ ((List Int))))) ([], r1.1, 0)).bind fun o6 =>
  some (o6, r1.2)
noncomputable def C91 : FnSpec := { ps := [.val TGBook, .val .str], rs := [.own (.slice (.int .i64)), .val .bool], fn := fun x => i_EncodeMessage x.1 x.2 }
noncomputable def E91 : Env := { T := [(3, (.int .i64)), (30, (.slice TGPhrase)), (32, TGBook), (38, (.slice (.int .i64))), (61, TGPhrase)], G := [(123, C123)], ro := [2], loops := [(4, { keep := [2, 7, 18], live := [.own 8 [] 200008 (.int .i64) true, .own 17 [] 224 (.int .i64) true, .tv 19 (.int .i64)], outs := [(.exit 0, [.own 8 [] 200008 (.int .i64) true])] })], joins := [] }
theorem E91_eq : ∀ x, afun E91 Try.f91 C91.ps C91.rs x = C91.fn x := fun x => by kernel_rfl
theorem S91 : Sound Try.prog 91 C91 := fun_sound (E := E91) ⟨good_T (by kernel_rfl), (good_cons S123 ⟨_, Try.func123, by kernel_rfl, by kernel_rfl⟩ good_nil), mixedOk, ins_nil⟩ Try.func91 rfl E91_eq
/-- impl.LeastSignals -/
noncomputable def i_LeastSignals (p_b : GBook) (p_s : Bytes) : Option (Int × Bool) :=
  (i_EncodeMessage p_b p_s).bind fun r1 =>
  some ((r1.1.length : Int), r1.2)
noncomputable def C36 : FnSpec := { ps := [.val TGBook, .val .str], rs := [.val (.int .i64), .val .bool], fn := fun x => i_LeastSignals x.1 x.2 }
noncomputable def E36 : Env := { T := [(32, TGBook), (38, (.slice (.int .i64)))], G := [(91, C91)], ro := [2], loops := [], joins := [] }
theorem E36_eq : ∀ x, afun E36 Try.f36 C36.ps C36.rs x = C36.fn x := fun x => by kernel_rfl
theorem S36 : Sound Try.prog 36 C36 := fun_sound (E := E36) ⟨good_T (by kernel_rfl), (good_cons S91 ⟨_, Try.func91, by kernel_rfl, by kernel_rfl⟩ good_nil), mixedOk, ins_nil⟩ Try.func36 rfl E36_eq
/-- impl.CompareBooks -/
noncomputable def i_CompareBooks (p_a : GBook) (p_b : GBook) (p_s : Bytes) : Option (Int × Bool) :=
  (i_LeastSignals p_a p_s).bind fun r1 =>
  (i_LeastSignals p_b p_s).bind fun r2 =>
  (bif (!r1.2) then
      some true
    else
      some (!r2.2)).bind fun c3 =>
  bif c3 then
    some (0, false)
  else
    (cmp_Compare_int r1.1 r2.1).bind fun r4 =>
    some (r4, true)
noncomputable def C24 : FnSpec := { ps := [.val TGBook, .val TGBook, .val .str], rs := [.val (.int .i64), .val .bool], fn := fun x => i_CompareBooks x.1 x.2.1 x.2.2 }
noncomputable def E24 : Env := { T := [(32, TGBook)], G := [(36, C36), (69, C69)], ro := [3, 4], loops := [], joins := [] }
theorem E24_eq : ∀ x, afun E24 Try.f24 C24.ps C24.rs x = C24.fn x := fun x => by kernel_rfl
theorem S24 : Sound Try.prog 24 C24 := fun_sound (E := E24) ⟨good_T (by kernel_rfl), (good_cons S36 ⟨_, Try.func36, by kernel_rfl, by kernel_rfl⟩ (good_cons S69 ⟨_, Try.func69, by kernel_rfl, by kernel_rfl⟩ good_nil)), mixedOk, ins_nil⟩ Try.func24 rfl E24_eq
/-- impl.CountWins$1 -/
noncomputable def i_CountWins_1 (p_s : Bytes) : Option (Bool) :=
  (i_isLetters p_s).bind fun r1 =>
  some (!r1)
noncomputable def C58 : FnSpec := { ps := [.val .str], rs := [.val .bool], fn := fun x => i_CountWins_1 x }
noncomputable def E58 : Env := { T := [], G := [(59, C59)], ro := [], loops := [], joins := [] }
theorem E58_eq : ∀ x, afun E58 Try.f58 C58.ps C58.rs x = C58.fn x := fun x => by kernel_rfl
theorem S58 : Sound Try.prog 58 C58 := fun_sound (E := E58) ⟨good_T (by kernel_rfl), (good_cons S59 ⟨_, Try.func59, by kernel_rfl, by kernel_rfl⟩ good_nil), mixedOk, ins_nil⟩ Try.func58 rfl E58_eq
/-- slices.IndexFunc[[]string,string] -/
noncomputable def slices_IndexFunc_string_58 (p_s : List Bytes) : Option (Int) :=
  (loopE (fun (st2 : Int) => (
      bif (decide (st2 < (p_s.length : Int))) then
        (idx p_s st2).bind fun e3 =>
        (i_CountWins_1 e3).bind fun r4 =>
        bif r4 then
          some (.inr (.inr st2))
        else
          some (.inl (w64 (st2 + 1)))
      else
        some (.inr (.inl ())) : Option ((Int) ⊕ (Unit ⊕ Int)))) 0).bind fun o5 =>
  match o5 with
  | .inl _ =>
    some (-1)
  | .inr y7 =>
    some y7
noncomputable def C105_58 : FnSpec := { ps := [.val (.slice .str), .fn 58 []], rs := [.val (.int .i64)], fn := fun x => slices_IndexFunc_string_58 x.1 }
noncomputable def E105_58 : Env := { T := [(9, .str), (25, (.slice .str))], G := [(58, C58)], ro := [], loops := [(2, { keep := [0, 1, 7], live := [.tv 8 (.int .i64)], outs := [(.exit 0, []), (.ret, [.tv 4 (.int .i64)])] })], joins := [] }
theorem E105_58_eq : ∀ x, afun E105_58 Try.f105 C105_58.ps C105_58.rs x = C105_58.fn x := fun x => by kernel_rfl
theorem S105_58 : Sound Try.prog 105 C105_58 := fun_sound (E := E105_58) ⟨good_T (by kernel_rfl), (good_cons S58 ⟨_, Try.func58, by kernel_rfl, by kernel_rfl⟩ good_nil), mixedOk, ins_nil⟩ Try.func105 rfl E105_58_eq
/-- slices.ContainsFunc[[]string,string] -/
noncomputable def slices_ContainsFunc_string_58 (p_s : List Bytes) : Option (Bool) :=
  (slices_IndexFunc_string_58 p_s).bind fun r1 =>
  some (decide (0 ≤ r1))
noncomputable def C57_58 : FnSpec := { ps := [.val (.slice .str), .fn 58 []], rs := [.val .bool], fn := fun x => slices_ContainsFunc_string_58 x.1 }
noncomputable def E57_58 : Env := { T := [], G := [(105, C105_58)], ro := [], loops := [], joins := [] }
theorem E57_58_eq : ∀ x, afun E57_58 Try.f57 C57_58.ps C57_58.rs x = C57_58.fn x := fun x => by kernel_rfl
theorem S57_58 : Sound Try.prog 57 C57_58 := fun_sound (E := E57_58) ⟨good_T (by kernel_rfl), (good_cons S105_58 ⟨_, Try.func105, by kernel_rfl, by kernel_rfl⟩ good_nil), mixedOk, ins_nil⟩ Try.func57 rfl E57_58_eq
/-- impl.CountWins -/
noncomputable def i_CountWins (p_a : GBook) (p_b : GBook) (p_list : List Bytes) : Option (Int × Int × Int × Bool) :=
  (i_IsBook p_a).bind fun r1 =>
  (bif (!r1) then
      some true
    else
      (i_IsBook p_b).bind fun r2 =>
      some (!r2)).bind fun c3 =>
  (bif c3 then
      some true
    else
      some (decide (20 < (p_list.length : Int)))).bind fun c4 =>
  (bif c4 then
      some true
    else
      (slices_ContainsFunc_string_58 p_list).bind fun r5 =>
      some r5).bind fun c6 =>
  bif c6 then
    some (0, 0, 0, false)
  else
    (loopE (fun (st8 : Int × Int × Int × Int) => (
        bif (decide (st8.2.2.2 < (p_list.length : Int))) then
          (idx p_list st8.2.2.2).bind fun e9 =>
          (i_CompareBooks p_a p_b e9).bind fun r10 =>
          bif r10.2 then
            bif decide ((w64 (r10.1 + 1)) = (2 : Int)) then
              bif decide ((w64 (r10.1 + 1)) = (2 : Int)) then
                some (.inl (st8.1, st8.2.1, (w64 (st8.2.2.1 + 1)), (w64 (st8.2.2.2 + 1))))
              else
                bif decide ((w64 (r10.1 + 1)) = (1 : Int)) then
                  some (.inl (st8.1, (w64 (st8.2.2.1 + 1)), st8.2.2.1, (w64 (st8.2.2.2 + 1))))
                else
                  bif decide ((w64 (r10.1 + 1)) = (0 : Int)) then
                    some (.inl ((w64 (st8.2.2.1 + 1)), st8.2.1, st8.2.2.1, (w64 (st8.2.2.2 + 1))))
                  else
                    none
            else
              bif decide ((w64 (r10.1 + 1)) = (1 : Int)) then
                bif decide ((w64 (r10.1 + 1)) = (2 : Int)) then
                  some (.inl (st8.1, st8.2.1, (w64 (st8.2.1 + 1)), (w64 (st8.2.2.2 + 1))))
                else
                  bif decide ((w64 (r10.1 + 1)) = (1 : Int)) then
                    some (.inl (st8.1, (w64 (st8.2.1 + 1)), st8.2.2.1, (w64 (st8.2.2.2 + 1))))
                  else
                    bif decide ((w64 (r10.1 + 1)) = (0 : Int)) then
                      some (.inl ((w64 (st8.2.1 + 1)), st8.2.1, st8.2.2.1, (w64 (st8.2.2.2 + 1))))
                    else
                      none
              else
                bif decide ((w64 (r10.1 + 1)) = (0 : Int)) then
                  bif decide ((w64 (r10.1 + 1)) = (2 : Int)) then
                    some (.inl (st8.1, st8.2.1, (w64 (st8.1 + 1)), (w64 (st8.2.2.2 + 1))))
                  else
                    bif decide ((w64 (r10.1 + 1)) = (1 : Int)) then
                      some (.inl (st8.1, (w64 (st8.1 + 1)), st8.2.2.1, (w64 (st8.2.2.2 + 1))))
                    else
                      bif decide ((w64 (r10.1 + 1)) = (0 : Int)) then
                        some (.inl ((w64 (st8.1 + 1)), st8.2.1, st8.2.2.1, (w64 (st8.2.2.2 + 1))))
                      else
                        none
                else
                  none
          else
            some (.inl (st8.1, st8.2.1, st8.2.2.1, (w64 (st8.2.2.2 + 1))))
        else
          some (.inr (st8.1, st8.2.1, st8.2.2.1)) : Option ((Int × Int × Int × Int) ⊕ ((Int × Int × Int))))) (0, 0, 0, 0)).bind fun o11 =>
    some (o11.1, o11.2.1, o11.2.2, true)
noncomputable def C12 : FnSpec := { ps := [.val TGBook, .val TGBook, .val (.slice .str)], rs := [.val (.int .i64), .val (.int .i64), .val (.int .i64), .val .bool], fn := fun x => i_CountWins x.1 x.2.1 x.2.2 }
noncomputable def E12 : Env := { T := [(3, (.int .i64)), (9, .str), (25, (.slice .str)), (32, TGBook), (77, (.pair .unit (.pair (.int .i64) (.pair (.int .i64) (.pair (.int .i64) .unit)))))], G := [(24, C24), (49, C49), (57, C57_58)], ro := [3, 4], loops := [(5, { keep := [3, 4, 32, 33], live := [.bx 10 160 [.pv (.int .i64), .pv (.int .i64), .pv (.int .i64)], .tv 34 (.int .i64)], outs := [(.exit 0, [.bx 10 160 [.pv (.int .i64), .pv (.int .i64), .pv (.int .i64)]])] })], joins := [] }
theorem E12_eq : ∀ x, afun E12 Try.f12 C12.ps C12.rs x = C12.fn x := fun x => by kernel_rfl
theorem S12 : Sound Try.prog 12 C12 := fun_sound (E := E12) ⟨good_T (by kernel_rfl), (good_cons S24 ⟨_, Try.func24, by kernel_rfl, by kernel_rfl⟩ (good_cons S49 ⟨_, Try.func49, by kernel_rfl, by kernel_rfl⟩ (good_cons S57_58 ⟨_, Try.func57, by kernel_rfl, by kernel_rfl⟩ good_nil))), mixedOk, ins_nil⟩ Try.func12 rfl E12_eq
/-- (*spec.l1Cur).next -/
noncomputable def s_l1Cur_next (p_c : Gl1Cur) : Option (Gl1Cur × Int) :=
  (bif (decide (p_c.2.1 < (p_c.1.length : Int))) then
      (idx p_c.1 p_c.2.1).bind fun e1 =>
      some (p_c.1, p_c.2.1, p_c.2.2.1, (w64 e1))
    else
      some (p_c.1, p_c.2.1, p_c.2.2.1, 0)).bind fun j2 =>
  bif (decide ((w64 (j2.2.1 + 1)) ≤ (j2.1.length : Int))) then
    some ((j2.1, (w64 (j2.2.1 + 1)), (IntKind.u64.wrap ((IntKind.u64.wrap ((IntKind.u64.wrap (j2.2.2.1 * 6364136223846793005)) + (IntKind.u64.wrap j2.2.2.2))) + 1442695040888963407)), ()), j2.2.2.2)
  else
    some ((j2.1, (w64 (j2.2.1 + 1)), (IntKind.u64.wrap ((IntKind.u64.wrap ((IntKind.u64.wrap (j2.2.2.1 * 6364136223846793005)) + (IntKind.u64.wrap j2.2.2.2))) + 1442695040888963407)), ()), (w64 (bitsI .and .u64 (shiftI .shr .u64 (IntKind.u64.wrap ((IntKind.u64.wrap ((IntKind.u64.wrap (j2.2.2.1 * 6364136223846793005)) + (IntKind.u64.wrap j2.2.2.2))) + 1442695040888963407)) 40) 255)))
noncomputable def C114 : FnSpec := { ps := [.mbox TGl1Cur], rs := [.val (.int .i64)], fn := fun x => s_l1Cur_next x }
noncomputable def E114 : Env := { T := [(3, (.int .i64)), (5, (.int .u8)), (46, (.slice (.int .u8))), (87, (.int .u64)), (89, TGl1Cur)], G := [], ro := [], loops := [], joins := [(4, { keep := [], live := [], outs := [(.normal, [.bx 0 100000 [.pv (.slice (.int .u8)), .pv (.int .i64), .pv (.int .u64)], .tv 3 (.int .i64)])] })] }
theorem E114_eq : ∀ x, afun E114 Try.f114 C114.ps C114.rs x = C114.fn x := fun x => by kernel_rfl
theorem S114 : Sound Try.prog 114 C114 := fun_sound_box (E := E114) ⟨good_T (by kernel_rfl), good_nil, mixedOk, ins_nil⟩ Try.func114 rfl E114_eq
/-- (*spec.l1Cur).pick -/
noncomputable def s_l1Cur_pick (p_c : Gl1Cur) (p_n : Int) : Option (Gl1Cur × Int) :=
  bif (decide (p_n ≤ 1)) then
    some (p_c, 0)
  else
    (s_l1Cur_next p_c).bind fun r1 =>
    bif (decide (200 < p_n)) then
      (s_l1Cur_next r1.1).bind fun r2 =>
      bif (!decide (p_n = 0)) then
        some (r2.1, (Int.tmod (w64 ((w64 (r1.2 * 256)) + r2.2)) p_n))
      else
        none
    else
      bif (!decide (p_n = 0)) then
        some (r1.1, (Int.tmod r1.2 p_n))
      else
        none
noncomputable def C75 : FnSpec := { ps := [.mbox TGl1Cur, .val (.int .i64)], rs := [.val (.int .i64)], fn := fun x => s_l1Cur_pick x.1 x.2 }
noncomputable def E75 : Env := { T := [], G := [(114, C114)], ro := [], loops := [], joins := [] }
theorem E75_eq : ∀ x, afun E75 Try.f75 C75.ps C75.rs x = C75.fn x := fun x => by kernel_rfl
theorem S75 : Sound Try.prog 75 C75 := fun_sound_box (E := E75) ⟨good_T (by kernel_rfl), (good_cons S114 ⟨_, Try.func114, by kernel_rfl, by kernel_rfl⟩ good_nil), mixedOk, ins_nil⟩ Try.func75 rfl E75_eq
/-- (*spec.l1Cur).one -/
noncomputable def s_l1Cur_one (p_c : Gl1Cur) (p_n : Int) : Option (Gl1Cur × Bool) :=
  (s_l1Cur_pick p_c p_n).bind fun r1 =>
  some (r1.1, (decide (r1.2 = 0)))
noncomputable def C76 : FnSpec := { ps := [.mbox TGl1Cur, .val (.int .i64)], rs := [.val .bool], fn := fun x => s_l1Cur_one x.1 x.2 }
noncomputable def E76 : Env := { T := [], G := [(75, C75)], ro := [], loops := [], joins := [] }
theorem E76_eq : ∀ x, afun E76 Try.f76 C76.ps C76.rs x = C76.fn x := fun x => by kernel_rfl
theorem S76 : Sound Try.prog 76 C76 := fun_sound_box (E := E76) ⟨good_T (by kernel_rfl), (good_cons S75 ⟨_, Try.func75, by kernel_rfl, by kernel_rfl⟩ good_nil), mixedOk, ins_nil⟩ Try.func76 rfl E76_eq
/-- (*spec.l1Cur).of -/
noncomputable def s_l1Cur_of (p_c : Gl1Cur) (p_list : List Bytes) : Option (Gl1Cur × Bytes) :=
  (s_l1Cur_pick p_c (p_list.length : Int)).bind fun r1 =>
  (idx p_list r1.2).bind fun e2 =>
  some (r1.1, e2)
noncomputable def C115 : FnSpec := { ps := [.mbox TGl1Cur, .val (.slice .str)], rs := [.val .str], fn := fun x => s_l1Cur_of x.1 x.2 }
noncomputable def E115 : Env := { T := [(9, .str), (25, (.slice .str))], G := [(75, C75)], ro := [], loops := [], joins := [] }
theorem E115_eq : ∀ x, afun E115 Try.f115 C115.ps C115.rs x = C115.fn x := fun x => by kernel_rfl
theorem S115 : Sound Try.prog 115 C115 := fun_sound_box (E := E115) ⟨good_T (by kernel_rfl), (good_cons S75 ⟨_, Try.func75, by kernel_rfl, by kernel_rfl⟩ good_nil), mixedOk, ins_nil⟩ Try.func115 rfl E115_eq
/-- (*spec.l1Cur).letters -/
noncomputable def s_l1Cur_letters (p_c : Gl1Cur) (p_b : GBook) : Option (Gl1Cur × Bytes) :=
  (s_l1Cur_pick p_c 6).bind fun r1 =>
  ((s_l1Cur_one r1.1 16).bind fun r2 =>
    bif r2.2 then
      some (r2.1.1, r2.1.2.1, r2.1.2.2.1, 40)
    else
      some (r2.1.1, r2.1.2.1, r2.1.2.2.1, r1.2)).bind fun j3 =>
  (loopE (fun (st5 : (List Int) × Int × Int × Bytes × Int) => (
      bif (decide (0 < st5.2.2.2.2)) then
        (s_l1Cur_of (st5.1, st5.2.1, st5.2.2.1, ()) [([97] : Bytes), ([98] : Bytes), ([101] : Bytes), ([115, 104, 105, 112, 115] : Bytes), ([122] : Bytes), ([113] : Bytes)]).bind fun r6 =>
        bif (decide (0 < (p_b.1.length : Int))) then
          (s_l1Cur_one r6.1 8).bind fun r7 =>
          bif (!r7.2) then
            (s_l1Cur_pick r7.1 (p_b.1.length : Int)).bind fun r8 =>
            (idx p_b.1 r8.2).bind fun e9 =>
            bif (decide ((w64 ((st5.2.2.2.1.length : Int) + (e9.1.length : Int))) ≤ 40)) then
              bif decide (List.length st5.2.2.2.1 + List.length e9.1 ≤ lim) then
                some (.inl (r8.1.1, r8.1.2.1, r8.1.2.2.1, (st5.2.2.2.1 ++ e9.1), (w64 (st5.2.2.2.2 - 1))))
              else
                none
            else
              some (.inl (r8.1.1, r8.1.2.1, r8.1.2.2.1, st5.2.2.2.1, (w64 (st5.2.2.2.2 - 1))))
          else
            bif (decide ((w64 ((st5.2.2.2.1.length : Int) + (r6.2.length : Int))) ≤ 40)) then
              bif decide (List.length st5.2.2.2.1 + List.length r6.2 ≤ lim) then
                some (.inl (r7.1.1, r7.1.2.1, r7.1.2.2.1, (st5.2.2.2.1 ++ r6.2), (w64 (st5.2.2.2.2 - 1))))
              else
                none
            else
              some (.inl (r7.1.1, r7.1.2.1, r7.1.2.2.1, st5.2.2.2.1, (w64 (st5.2.2.2.2 - 1))))
        else
          bif false then
            (s_l1Cur_pick r6.1 (p_b.1.length : Int)).bind fun r10 =>
            (idx p_b.1 r10.2).bind fun e11 =>
            bif (decide ((w64 ((st5.2.2.2.1.length : Int) + (e11.1.length : Int))) ≤ 40)) then
              bif decide (List.length st5.2.2.2.1 + List.length e11.1 ≤ lim) then
                some (.inl (r10.1.1, r10.1.2.1, r10.1.2.2.1, (st5.2.2.2.1 ++ e11.1), (w64 (st5.2.2.2.2 - 1))))
              else
                none
            else
              some (.inl (r10.1.1, r10.1.2.1, r10.1.2.2.1, st5.2.2.2.1, (w64 (st5.2.2.2.2 - 1))))
          else
            bif (decide ((w64 ((st5.2.2.2.1.length : Int) + (r6.2.length : Int))) ≤ 40)) then
              bif decide (List.length st5.2.2.2.1 + List.length r6.2 ≤ lim) then
                some (.inl (r6.1.1, r6.1.2.1, r6.1.2.2.1, (st5.2.2.2.1 ++ r6.2), (w64 (st5.2.2.2.2 - 1))))
              else
                none
            else
              some (.inl (r6.1.1, r6.1.2.1, r6.1.2.2.1, st5.2.2.2.1, (w64 (st5.2.2.2.2 - 1))))
      else
        some (.inr (st5.1, st5.2.1, st5.2.2.1, st5.2.2.2.1)) : Option (((List Int) × Int × Int × Bytes × Int) ⊕ (((List Int) × Int × Int × Bytes))))) (j3.1, j3.2.1, j3.2.2.1, [], j3.2.2.2)).bind fun o12 =>
  (s_l1Cur_one (o12.1, o12.2.1, o12.2.2.1, ()) 24).bind fun r13 =>
  bif r13.2 then
    (s_l1Cur_pick r13.1 2).bind fun r14 =>
    (loopE (fun (st16 : (List Int) × Int × Int × Bytes) => (
        bif (decide ((st16.2.2.2.length : Int) < (w64 (40 + r14.2)))) then
          bif decide (List.length st16.2.2.2 + List.length ([97] : Bytes) ≤ lim) then
            some (.inl (st16.1, st16.2.1, st16.2.2.1, (st16.2.2.2 ++ ([97] : Bytes))))
          else
            none
        else
          some (.inr (st16.1, st16.2.1, st16.2.2.1, st16.2.2.2)) : Option (((List Int) × Int × Int × Bytes) ⊕ (((List Int) × Int × Int × Bytes))))) (r14.1.1, r14.1.2.1, r14.1.2.2.1, o12.2.2.2)).bind fun o17 =>
    (s_l1Cur_one (o17.1, o17.2.1, o17.2.2.1, ()) 24).bind fun r18 =>
    bif r18.2 then
      (s_l1Cur_of r18.1 [([65] : Bytes), ([32] : Bytes), ([49] : Bytes)]).bind fun r19 =>
      bif decide (List.length o17.2.2.2 + List.length r19.2 ≤ lim) then
        some (r19.1, (o17.2.2.2 ++ r19.2))
      else
        none
    else
      some (r18.1, o17.2.2.2)
  else
    (s_l1Cur_one r13.1 24).bind fun r20 =>
    bif r20.2 then
      (s_l1Cur_of r20.1 [([65] : Bytes), ([32] : Bytes), ([49] : Bytes)]).bind fun r21 =>
      bif decide (List.length o12.2.2.2 + List.length r21.2 ≤ lim) then
        some (r21.1, (o12.2.2.2 ++ r21.2))
      else
        none
    else
      some (r20.1, o12.2.2.2)
noncomputable def C77 : FnSpec := { ps := [.mbox TGl1Cur, .val TGBook], rs := [.val .str], fn := fun x => s_l1Cur_letters x.1 x.2 }
noncomputable def E77 : Env := { T := [(9, .str), (25, (.slice .str)), (30, (.slice TGPhrase)), (32, TGBook), (61, TGPhrase)], G := [(75, C75), (76, C76), (115, C115)], ro := [3], loops := [(5, { keep := [3], live := [.bx 0 100000 [.pv (.slice (.int .u8)), .pv (.int .i64), .pv (.int .u64)], .tv 5 .str, .tv 6 (.int .i64)], outs := [(.exit 0, [.bx 0 100000 [.pv (.slice (.int .u8)), .pv (.int .i64), .pv (.int .u64)], .tv 5 .str])] }), (14, { keep := [8], live := [.bx 0 100000 [.pv (.slice (.int .u8)), .pv (.int .i64), .pv (.int .u64)], .tv 5 .str], outs := [(.exit 2, [.bx 0 100000 [.pv (.slice (.int .u8)), .pv (.int .i64), .pv (.int .u64)], .tv 5 .str])] })], joins := [(5, { keep := [3, 5], live := [], outs := [(.normal, [.bx 0 100000 [.pv (.slice (.int .u8)), .pv (.int .i64), .pv (.int .u64)], .tv 6 (.int .i64)])] })], forks := [24], aside := [(35, 100000)] }
theorem E77_eq : ∀ x, afun E77 Try.f77 C77.ps C77.rs x = C77.fn x := fun x => by kernel_rfl
theorem S77 : Sound Try.prog 77 C77 := fun_sound_box (E := E77) ⟨good_T (by kernel_rfl), (good_cons S75 ⟨_, Try.func75, by kernel_rfl, by kernel_rfl⟩ (good_cons S76 ⟨_, Try.func76, by kernel_rfl, by kernel_rfl⟩ (good_cons S115 ⟨_, Try.func115, by kernel_rfl, by kernel_rfl⟩ good_nil))), mixedOk, ins_nil⟩ Try.func77 rfl E77_eq
/-- (*spec.l1Cur).among -/
noncomputable def s_l1Cur_among (p_c : Gl1Cur) (p_list : List Int) : Option (Gl1Cur × Int) :=
  (s_l1Cur_pick p_c (p_list.length : Int)).bind fun r1 =>
  (idx p_list r1.2).bind fun e2 =>
  some (r1.1, e2)
noncomputable def C83 : FnSpec := { ps := [.mbox TGl1Cur, .val (.slice (.int .i64))], rs := [.val (.int .i64)], fn := fun x => s_l1Cur_among x.1 x.2 }
noncomputable def E83 : Env := { T := [(3, (.int .i64)), (38, (.slice (.int .i64)))], G := [(75, C75)], ro := [], loops := [], joins := [] }
theorem E83_eq : ∀ x, afun E83 Try.f83 C83.ps C83.rs x = C83.fn x := fun x => by kernel_rfl
theorem S83 : Sound Try.prog 83 C83 := fun_sound_box (E := E83) ⟨good_T (by kernel_rfl), (good_cons S75 ⟨_, Try.func75, by kernel_rfl, by kernel_rfl⟩ good_nil), mixedOk, ins_nil⟩ Try.func83 rfl E83_eq
/-- spec.phraseTexts -/
noncomputable def s_phraseTexts : Option ((List Bytes)) :=
  some [([97] : Bytes), ([97, 98, 98, 101, 121] : Bytes), ([97, 114, 114, 105, 118, 101] : Bytes), ([98] : Bytes), ([98, 111, 97, 116] : Bytes), ([98, 111, 97, 116, 115] : Bytes), ([99, 108, 101, 97, 114] : Bytes), ([101] : Bytes), ([101, 110, 101, 109, 121] : Bytes), ([102, 108, 101, 101, 116] : Bytes), ([102, 111, 103] : Bytes), ([102, 114, 111, 109] : Bytes), ([104, 97, 114, 98, 111, 117, 114] : Bytes), ([105, 110] : Bytes), ([110, 111, 114, 116, 104] : Bytes), ([112, 111, 114, 116] : Bytes), ([113, 117, 97, 114, 97, 110, 116, 105, 110, 101, 100] : Bytes), ([115, 97, 105, 108, 115] : Bytes), ([115, 104, 105, 112] : Bytes), ([115, 104, 105, 112, 115] : Bytes), ([115, 111, 117, 116, 104] : Bytes), ([115, 116, 111, 114, 109] : Bytes), ([116, 104, 101] : Bytes), ([116, 111] : Bytes), ([116, 111, 110, 105, 103, 104, 116] : Bytes), ([122] : Bytes)]
noncomputable def C135 : FnSpec := { ps := [], rs := [.own (.slice .str)], fn := fun x => s_phraseTexts }
noncomputable def E135 : Env := { T := [(25, (.slice .str))], G := [], ro := [], loops := [], joins := [] }
theorem E135_eq : ∀ x, afun E135 Try.f135 C135.ps C135.rs x = C135.fn x := fun x => by kernel_rfl
theorem S135 : Sound Try.prog 135 C135 := fun_sound (E := E135) ⟨good_T (by kernel_rfl), good_nil, mixedOk, ins_nil⟩ Try.func135 rfl E135_eq
/-- (*spec.l1Cur).book -/
noncomputable def s_l1Cur_book (p_c : Gl1Cur) : Option (Gl1Cur × GBook) :=
  (s_phraseTexts).bind fun r1 =>
  (loopE (fun (st3 : (List Int) × Int × Int × (List GPhrase) × (List GPhrase) × (List Bytes) × Int) => (
      bif (decide (st3.2.2.2.2.2.2 < (r1.length : Int))) then
        bif decide (0 ≤ st3.2.2.2.2.2.2) && decide (st3.2.2.2.2.2.2 < (st3.2.2.2.2.2.1.length : Int)) then
          (st3.2.2.2.2.2.1[(Int.toNat st3.2.2.2.2.2.2)]?).bind fun e4 =>
          (s_l1Cur_one (st3.1, st3.2.1, st3.2.2.1, ()) 2).bind fun r5 =>
          (bif (!r5.2) then
              some (decide (0 < (st3.2.2.2.2.1.length : Int)))
            else
              some false).bind fun c6 =>
          bif c6 then
            some (.inl (r5.1.1, r5.1.2.1, r5.1.2.2.1, st3.2.2.2.1, st3.2.2.2.2.1, st3.2.2.2.2.2.1, (w64 (st3.2.2.2.2.2.2 + 1))))
          else
            (s_l1Cur_among r5.1 [2, 4, 60]).bind fun r7 =>
            (loopE (fun (st9 : (List Int) × Int × Int × (List GPhrase) × (List GPhrase) × Int × (List Bytes)) => (
                bif (decide (st9.2.2.2.2.2.1 < 9)) then
                  (s_l1Cur_among (st9.1, st9.2.1, st9.2.2.1, ()) [1, 1, 2, 2, 3]).bind fun r10 =>
                  (loopE (fun (st12 : (List Int) × Int × Int × (List GPhrase) × (List GPhrase) × Bytes × (List Int) × Int × (List Bytes)) => (
                      bif (decide (0 < st12.2.2.2.2.2.2.2.1)) then
                        (s_l1Cur_pick (st12.1, st12.2.1, st12.2.2.1, ()) r7.2).bind fun r13 =>
                        bif decide (List.length st12.2.2.2.2.2.2.1 + List.length [(w64 (1 + r13.2))] ≤ lim) then
                          some (.inl (r13.1.1, r13.1.2.1, r13.1.2.2.1, st12.2.2.2.1, st12.2.2.2.2.1, st12.2.2.2.2.2.1, (st12.2.2.2.2.2.2.1 ++ [(w64 (1 + r13.2))]), (w64 (st12.2.2.2.2.2.2.2.1 - 1)), st12.2.2.2.2.2.2.2.2))
                        else
                          none
                      else
                        some (.inr (st12.1, st12.2.1, st12.2.2.1, st12.2.2.2.1, st12.2.2.2.2.1, st12.2.2.2.2.2.1, st12.2.2.2.2.2.2.1, st12.2.2.2.2.2.2.2.2)) : Option (((List Int) × Int × Int × (List GPhrase) × (List GPhrase) × Bytes × (List Int) × Int × (List Bytes)) ⊕ (((List Int) × Int × Int × (List GPhrase) × (List GPhrase) × Bytes × (List Int) × (List Bytes)))))) (r10.1.1, r10.1.2.1, r10.1.2.2.1, st9.2.2.2.1, st9.2.2.2.2.1, e4, [], r10.2, st9.2.2.2.2.2.2)).bind fun o14 =>
                  (s_bkOf (o14.2.2.2.2.1, ()) o14.2.2.2.2.2.2.1).bind fun r15 =>
                  bif (decide (r15 < 0)) then
                    bif decide (List.length o14.2.2.2.2.1 + List.length [(o14.2.2.2.2.2.1, o14.2.2.2.2.2.2.1, ())] ≤ lim) then
                      some (.inr (o14.1, o14.2.1, o14.2.2.1, o14.2.2.2.1, (o14.2.2.2.2.1 ++ [(o14.2.2.2.2.2.1, o14.2.2.2.2.2.2.1, ())]), o14.2.2.2.2.2.2.2))
                    else
                      none
                  else
                    some (.inl (o14.1, o14.2.1, o14.2.2.1, o14.2.2.2.1, o14.2.2.2.2.1, (w64 (st9.2.2.2.2.2.1 + 1)), o14.2.2.2.2.2.2.2))
                else
                  some (.inr (st9.1, st9.2.1, st9.2.2.1, st9.2.2.2.1, st9.2.2.2.2.1, st9.2.2.2.2.2.2)) : Option (((List Int) × Int × Int × (List GPhrase) × (List GPhrase) × Int × (List Bytes)) ⊕ (((List Int) × Int × Int × (List GPhrase) × (List GPhrase) × (List Bytes)))))) (r7.1.1, r7.1.2.1, r7.1.2.2.1, st3.2.2.2.1, st3.2.2.2.2.1, 0, st3.2.2.2.2.2.1)).bind fun o16 =>
            some (.inl (o16.1, o16.2.1, o16.2.2.1, o16.2.2.2.1, o16.2.2.2.2.1, o16.2.2.2.2.2, (w64 (st3.2.2.2.2.2.2 + 1))))
        else
          none
      else
        some (.inr (st3.1, st3.2.1, st3.2.2.1, st3.2.2.2.1, st3.2.2.2.2.1)) : Option (((List Int) × Int × Int × (List GPhrase) × (List GPhrase) × (List Bytes) × Int) ⊕ (((List Int) × Int × Int × (List GPhrase) × (List GPhrase)))))) (p_c.1, p_c.2.1, p_c.2.2.1, [], [], r1, 0)).bind fun o17 =>
  (s_l1Cur_one (o17.1, o17.2.1, o17.2.2.1, ()) 2).bind fun r18 =>
  bif r18.2 then
    (loopE (fun (st20 : (List Int) × Int × Int × (List GPhrase) × (List GPhrase) × Int) => (
        bif (decide (st20.2.2.2.2.2 < (o17.2.2.2.2.length : Int))) then
          bif decide (0 ≤ st20.2.2.2.2.2) && decide (st20.2.2.2.2.2 < (st20.2.2.2.2.1.length : Int)) then
            (st20.2.2.2.2.1[(Int.toNat st20.2.2.2.2.2)]?).bind fun e21 =>
            some (.inl (st20.1, st20.2.1, st20.2.2.1, st20.2.2.2.1, (st20.2.2.2.2.1.set (Int.toNat st20.2.2.2.2.2) (e21.1, [(w64 (1 + st20.2.2.2.2.2))], ())), (w64 (st20.2.2.2.2.2 + 1))))
          else
            none
        else
          some (.inr (st20.1, st20.2.1, st20.2.2.1, st20.2.2.2.1, st20.2.2.2.2.1)) : Option (((List Int) × Int × Int × (List GPhrase) × (List GPhrase) × Int) ⊕ (((List Int) × Int × Int × (List GPhrase) × (List GPhrase)))))) (r18.1.1, r18.1.2.1, r18.1.2.2.1, o17.2.2.2.1, o17.2.2.2.2, 0)).bind fun o22 =>
    some ((o22.1, o22.2.1, o22.2.2.1, ()), (o22.2.2.2.2, ()))
  else
    some (r18.1, (o17.2.2.2.2, ()))
noncomputable def C116 : FnSpec := { ps := [.mbox TGl1Cur], rs := [.own TGBook], fn := fun x => s_l1Cur_book x }
noncomputable def E116 : Env := { T := [(9, .str), (25, (.slice .str)), (30, (.slice TGPhrase)), (32, TGBook), (38, (.slice (.int .i64))), (61, TGPhrase)], G := [(75, C75), (76, C76), (83, C83), (102, C102), (135, C135)], ro := [], loops := [(3, { keep := [13], live := [.bx 0 100000 [.pv (.slice (.int .u8)), .pv (.int .i64), .pv (.int .u64)], .bx 2 32 [.own 300032 TGPhrase true], .bx 3 48 [.own 300048 TGPhrase true], .own 12 [] 192 .str true, .tv 14 (.int .i64)], outs := [(.exit 0, [.bx 0 100000 [.pv (.slice (.int .u8)), .pv (.int .i64), .pv (.int .u64)], .bx 2 32 [.own 300032 TGPhrase true], .bx 3 48 [.own 300048 TGPhrase true]])] }), (8, { keep := [5, 6, 13, 14, 22, 23, 24, 25], live := [.bx 0 100000 [.pv (.slice (.int .u8)), .pv (.int .i64), .pv (.int .u64)], .bx 2 32 [.own 300032 TGPhrase true], .bx 3 48 [.own 300048 TGPhrase true], .tv 7 (.int .i64), .own 12 [] 192 .str true], outs := [(.exit 2, [.bx 0 100000 [.pv (.slice (.int .u8)), .pv (.int .i64), .pv (.int .u64)], .bx 2 32 [.own 300032 TGPhrase true], .bx 3 48 [.own 300048 TGPhrase true], .own 12 [] 192 .str true])] }), (12, { keep := [5, 6, 7, 13, 14, 22, 23, 24, 25], live := [.bx 0 100000 [.pv (.slice (.int .u8)), .pv (.int .i64), .pv (.int .u64)], .bx 2 32 [.own 300032 TGPhrase true], .bx 3 48 [.own 300048 TGPhrase true], .bx 8 128 [.pv .str, .own 300129 (.int .i64) true], .tv 9 (.int .i64), .own 12 [] 192 .str true], outs := [(.exit 4, [.bx 0 100000 [.pv (.slice (.int .u8)), .pv (.int .i64), .pv (.int .u64)], .bx 2 32 [.own 300032 TGPhrase true], .bx 3 48 [.own 300048 TGPhrase true], .bx 8 128 [.pv .str, .own 300129 (.int .i64) true], .own 12 [] 192 .str true])] }), (20, { keep := [68], live := [.bx 0 100000 [.pv (.slice (.int .u8)), .pv (.int .i64), .pv (.int .u64)], .bx 2 32 [.own 300032 TGPhrase true], .bx 3 48 [.own 300048 TGPhrase true], .tv 69 (.int .i64)], outs := [(.exit 6, [.bx 0 100000 [.pv (.slice (.int .u8)), .pv (.int .i64), .pv (.int .u64)], .bx 2 32 [.own 300032 TGPhrase true], .bx 3 48 [.own 300048 TGPhrase true]])] })], joins := [], mv := true, hoist := [(14, [0])], aside := [(47, 100000)] }
theorem E116_eq : ∀ x, afun E116 Try.f116 C116.ps C116.rs x = C116.fn x := fun x => by kernel_rfl
theorem S116 : Sound Try.prog 116 C116 := fun_sound_box (E := E116) ⟨good_T (by kernel_rfl), (good_cons S75 ⟨_, Try.func75, by kernel_rfl, by kernel_rfl⟩ (good_cons S76 ⟨_, Try.func76, by kernel_rfl, by kernel_rfl⟩ (good_cons S83 ⟨_, Try.func83, by kernel_rfl, by kernel_rfl⟩ (good_cons S102 ⟨_, Try.func102, by kernel_rfl, by kernel_rfl⟩ (good_cons S135 ⟨_, Try.func135, by kernel_rfl, by kernel_rfl⟩ good_nil))))), mixedOk, ins_nil⟩ Try.func116 rfl E116_eq
/-- spec.manyPhrases -/
noncomputable def s_manyPhrases (p_n : Int) : Option (GBook) :=
  (loopE (fun (st2 : (List GPhrase) × (List GPhrase) × Int) => (
      bif (decide (st2.2.2 < p_n)) then
        bif decide (List.length st2.2.1 + List.length [((toStr [(IntKind.u8.wrap (w64 (97 + (w64 (Int.tdiv st2.2.2 20))))), (IntKind.u8.wrap (w64 (97 + (Int.tmod st2.2.2 20))))]), [(w64 (1 + (Int.tmod st2.2.2 30))), (w64 (1 + (w64 (Int.tdiv st2.2.2 30))))], ())] ≤ lim) then
          some (.inl (st2.1, (st2.2.1 ++ [((toStr [(IntKind.u8.wrap (w64 (97 + (w64 (Int.tdiv st2.2.2 20))))), (IntKind.u8.wrap (w64 (97 + (Int.tmod st2.2.2 20))))]), [(w64 (1 + (Int.tmod st2.2.2 30))), (w64 (1 + (w64 (Int.tdiv st2.2.2 30))))], ())]), (w64 (st2.2.2 + 1))))
        else
          none
      else
        some (.inr (st2.1, st2.2.1)) : Option (((List GPhrase) × (List GPhrase) × Int) ⊕ (((List GPhrase) × (List GPhrase)))))) ([], [], 0)).bind fun o3 =>
  some (o3.2, ())
noncomputable def C117 : FnSpec := { ps := [.val (.int .i64)], rs := [.own TGBook], fn := fun x => s_manyPhrases x }
noncomputable def E117 : Env := { T := [(3, (.int .i64)), (5, (.int .u8)), (9, .str), (30, (.slice TGPhrase)), (32, TGBook), (38, (.slice (.int .i64))), (46, (.slice (.int .u8))), (61, TGPhrase)], G := [], ro := [], loops := [(3, { keep := [0], live := [.bx 2 32 [.own 300032 TGPhrase true], .bx 3 48 [.own 300048 TGPhrase true], .tv 4 (.int .i64)], outs := [(.exit 0, [.bx 2 32 [.own 300032 TGPhrase true], .bx 3 48 [.own 300048 TGPhrase true]])] })], joins := [], mv := true }
theorem E117_eq : ∀ x, afun E117 Try.f117 C117.ps C117.rs x = C117.fn x := fun x => by kernel_rfl
theorem S117 : Sound Try.prog 117 C117 := fun_sound (E := E117) ⟨good_T (by kernel_rfl), good_nil, mixedOk, ins_nil⟩ Try.func117 rfl E117_eq
/-- (*spec.l1Cur).anyBook -/
noncomputable def s_l1Cur_anyBook (p_c : Gl1Cur) : Option (Gl1Cur × GBook) :=
  (s_l1Cur_book p_c).bind fun r1 =>
  (s_l1Cur_pick r1.1 (r1.2.1.length : Int)).bind fun r2 =>
  bif decide (0 ≤ r2.2) && decide (r2.2 < (r1.2.1.length : Int)) then
    (s_l1Cur_pick r2.1 30).bind fun r3 =>
    bif (decide (r3.2 = 0)) then
      (s_l1Cur_of r3.1 ([[], ([65] : Bytes), ([97, 98, 99, 100, 101, 102, 103, 104, 105, 106, 107, 108] : Bytes), ([97, 98, 99, 100, 101, 102, 103, 104, 105, 106, 107, 108, 109] : Bytes), ([122] : Bytes), ([97, 32, 98] : Bytes)] : List Bytes)).bind fun r4 =>
      (r1.2.1[(Int.toNat r2.2)]?).bind fun e5 =>
      some (r4.1, ((r1.2.1.set (Int.toNat r2.2) (r4.2, e5.2)), ()))
    else
      bif (decide (r3.2 = 1)) then
        (r1.2.1[(Int.toNat r2.2)]?).bind fun e6 =>
        (s_l1Cur_among r3.1 [(-1), 0, 60, 61]).bind fun r7 =>
        bif decide (0 ≤ 0) && decide (0 < (List.length e6.2.1 : Int)) then
          some (r7.1, ((r1.2.1.set (Int.toNat r2.2) (e6.1, (List.set e6.2.1 (Int.toNat 0) r7.2), ())), ()))
        else
          none
      else
        bif (decide (r3.2 = 2)) then
          (r1.2.1[(Int.toNat r2.2)]?).bind fun e8 =>
          some (r3.1, ((r1.2.1.set (Int.toNat r2.2) (e8.1, [], ())), ()))
        else
          bif (decide (r3.2 = 3)) then
            (r1.2.1[(Int.toNat r2.2)]?).bind fun e9 =>
            some (r3.1, ((r1.2.1.set (Int.toNat r2.2) (e9.1, [1, 2, 3, 4], ())), ()))
          else
            bif (decide (r3.2 = 4)) then
              (s_l1Cur_among r3.1 [40, 41]).bind fun r10 =>
              (s_manyPhrases r10.2).bind fun r11 =>
              some (r10.1, (r11.1, ()))
            else
              bif (decide (r3.2 = 5)) then
                bif decide (0 ≤ 0) && decide (0 < (r1.2.1.length : Int)) then
                  (r1.2.1[(Int.toNat 0)]?).bind fun e12 =>
                  (s_l1Own e12.2.1).bind fun r13 =>
                  (r1.2.1[(Int.toNat r2.2)]?).bind fun e14 =>
                  some (r3.1, ((r1.2.1.set (Int.toNat r2.2) (e14.1, r13, ())), ()))
                else
                  none
              else
                bif (decide (r3.2 = 6)) then
                  some (r3.1, ([], ()))
                else
                  some (r3.1, r1.2)
  else
    none
noncomputable def C78 : FnSpec := { ps := [.mbox TGl1Cur], rs := [.own TGBook], fn := fun x => s_l1Cur_anyBook x }
noncomputable def E78 : Env := { T := [(3, (.int .i64)), (9, .str), (25, (.slice .str)), (30, (.slice TGPhrase)), (32, TGBook), (38, (.slice (.int .i64))), (61, TGPhrase)], G := [(64, C64), (75, C75), (83, C83), (115, C115), (116, C116), (117, C117)], ro := [32], loops := [], joins := [], mv := true, hoist := [(2, [0]), (7, [0, 1, 2])], aside := [(13, 100000), (33, 100000)] }
theorem E78_eq : ∀ x, afun E78 Try.f78 C78.ps C78.rs x = C78.fn x := fun x => by kernel_rfl
theorem S78 : Sound Try.prog 78 C78 := fun_sound_box (E := E78) ⟨good_T (by kernel_rfl), (good_cons S64 ⟨_, Try.func64, by kernel_rfl, by kernel_rfl⟩ (good_cons S75 ⟨_, Try.func75, by kernel_rfl, by kernel_rfl⟩ (good_cons S83 ⟨_, Try.func83, by kernel_rfl, by kernel_rfl⟩ (good_cons S115 ⟨_, Try.func115, by kernel_rfl, by kernel_rfl⟩ (good_cons S116 ⟨_, Try.func116, by kernel_rfl, by kernel_rfl⟩ (good_cons S117 ⟨_, Try.func117, by kernel_rfl, by kernel_rfl⟩ good_nil)))))), mixedOk, ins_nil⟩ Try.func78 rfl E78_eq
/-- spec.DrawCompareBooks -/
noncomputable def s_DrawCompareBooks (p_code : List Int) : Option (GBook × GBook × Bytes) :=
  (s_l1Cur_anyBook (p_code, 0, 0, ())).bind fun r1 =>
  (s_l1Cur_anyBook r1.1).bind fun r2 =>
  (s_l1Cur_one r2.1 2).bind fun r3 =>
  (bif r3.2 then
      (s_bkGood r1.2).bind fun r4 =>
      some r4
    else
      some false).bind fun c5 =>
  bif c5 then
    bif decide (0 ≤ (r1.2.1.length : Int)) && decide ((r1.2.1.length : Int) ≤ (r1.2.1.length : Int)) && decide ((r1.2.1.length : Int) ≤ lim) then
      (s_DealAnew r1.2 (List.replicate (Int.toNat (r1.2.1.length : Int)) (0 : Int))).bind fun r6 =>
      (s_l1Cur_letters r3.1 r1.2).bind fun r7 =>
      some (r1.2, r6.1, r7.2)
    else
      none
  else
    (s_l1Cur_letters r3.1 r1.2).bind fun r8 =>
    some (r1.2, r2.2, r8.2)
noncomputable def C23 : FnSpec := { ps := [.val (.slice (.int .u8))], rs := [.val TGBook, .val TGBook, .val .str], fn := fun x => s_DrawCompareBooks x }
noncomputable def E23 : Env := { T := [(30, (.slice TGPhrase)), (32, TGBook), (38, (.slice (.int .i64))), (89, TGl1Cur)], G := [(15, C15), (53, C53), (76, C76), (77, C77), (78, C78)], ro := [], loops := [], joins := [], pre := [(5, [192])], aside := [(34, 160)], astore := [(2, 32), (7, 112)] }
theorem E23_eq : ∀ x, afun E23 Try.f23 C23.ps C23.rs x = C23.fn x := fun x => by kernel_rfl
theorem S23 : Sound Try.prog 23 C23 := fun_sound (E := E23) ⟨good_T (by kernel_rfl), (good_cons S15 ⟨_, Try.func15, by kernel_rfl, by kernel_rfl⟩ (good_cons S53 ⟨_, Try.func53, by kernel_rfl, by kernel_rfl⟩ (good_cons S76 ⟨_, Try.func76, by kernel_rfl, by kernel_rfl⟩ (good_cons S77 ⟨_, Try.func77, by kernel_rfl, by kernel_rfl⟩ (good_cons S78 ⟨_, Try.func78, by kernel_rfl, by kernel_rfl⟩ good_nil))))), mixedOk, ins_nil⟩ Try.func23 rfl E23_eq
/-- spec.DrawCountWins -/
noncomputable def s_DrawCountWins (p_code : List Int) : Option (GBook × GBook × (List Bytes)) :=
  (s_DrawCompareBooks p_code).bind fun r1 =>
  (s_l1Cur_pick (p_code, 0, 0, ()) 6).bind fun r2 =>
  (s_l1Cur_one r2.1 20).bind fun r3 =>
  bif r3.2 then
    (s_l1Cur_pick r3.1 2).bind fun r4 =>
    (loopE (fun (st6 : (List GPhrase) × (List GPhrase) × (List Int) × Int × Int × (List GPhrase) × (List GPhrase) × (List Bytes)) => (
        bif (decide ((st6.2.2.2.2.2.2.2.length : Int) < (w64 (20 + r4.2)))) then
          (s_l1Cur_letters (st6.2.2.1, st6.2.2.2.1, st6.2.2.2.2.1, ()) (st6.2.2.2.2.2.2.1, ())).bind fun r7 =>
          bif decide (List.length st6.2.2.2.2.2.2.2 + List.length [r7.2] ≤ lim) then
            some (.inl (st6.1, st6.2.1, r7.1.1, r7.1.2.1, r7.1.2.2.1, st6.2.2.2.2.2.1, st6.2.2.2.2.2.2.1, (st6.2.2.2.2.2.2.2 ++ [r7.2])))
          else
            none
        else
          some (.inr (st6.1, st6.2.1, st6.2.2.2.2.2.1, st6.2.2.2.2.2.2.1, st6.2.2.2.2.2.2.2)) : Option (((List GPhrase) × (List GPhrase) × (List Int) × Int × Int × (List GPhrase) × (List GPhrase) × (List Bytes)) ⊕ (((List GPhrase) × (List GPhrase) × (List GPhrase) × (List GPhrase) × (List Bytes)))))) ([], [], r4.1.1, r4.1.2.1, r4.1.2.2.1, r1.1.1, r1.2.1.1, [r1.2.2])).bind fun o8 =>
    some ((o8.2.2.1, ()), (o8.2.2.2.1, ()), o8.2.2.2.2)
  else
    (loopE (fun (st10 : (List GPhrase) × (List GPhrase) × (List Int) × Int × Int × (List GPhrase) × (List GPhrase) × (List Bytes)) => (
        bif (decide ((st10.2.2.2.2.2.2.2.length : Int) < r2.2)) then
          (s_l1Cur_letters (st10.2.2.1, st10.2.2.2.1, st10.2.2.2.2.1, ()) (st10.2.2.2.2.2.2.1, ())).bind fun r11 =>
          bif decide (List.length st10.2.2.2.2.2.2.2 + List.length [r11.2] ≤ lim) then
            some (.inl (st10.1, st10.2.1, r11.1.1, r11.1.2.1, r11.1.2.2.1, st10.2.2.2.2.2.1, st10.2.2.2.2.2.2.1, (st10.2.2.2.2.2.2.2 ++ [r11.2])))
          else
            none
        else
          some (.inr (st10.1, st10.2.1, st10.2.2.2.2.2.1, st10.2.2.2.2.2.2.1, st10.2.2.2.2.2.2.2)) : Option (((List GPhrase) × (List GPhrase) × (List Int) × Int × Int × (List GPhrase) × (List GPhrase) × (List Bytes)) ⊕ (((List GPhrase) × (List GPhrase) × (List GPhrase) × (List GPhrase) × (List Bytes)))))) ([], [], r3.1.1, r3.1.2.1, r3.1.2.2.1, r1.1.1, r1.2.1.1, [r1.2.2])).bind fun o12 =>
    some ((o12.2.2.1, ()), (o12.2.2.2.1, ()), o12.2.2.2.2)
noncomputable def C22 : FnSpec := { ps := [.val (.slice (.int .u8))], rs := [.val TGBook, .val TGBook, .val (.slice .str)], fn := fun x => s_DrawCountWins x }
noncomputable def E22 : Env := { T := [(25, (.slice .str)), (32, TGBook), (89, TGl1Cur)], G := [(23, C23), (75, C75), (76, C76), (77, C77)], ro := [], loops := [(7, { keep := [10], live := [.bx 2 32 [.own 300032 TGPhrase true], .bx 3 48 [.own 300048 TGPhrase true], .bx 5 208 [.pv (.slice (.int .u8)), .pv (.int .i64), .pv (.int .u64)], .bx 6 96 [.pv (.slice TGPhrase)], .bx 7 112 [.pv (.slice TGPhrase)], .own 9 [] 336 .str true], outs := [(.exit 0, [.bx 2 32 [.own 300032 TGPhrase true], .bx 3 48 [.own 300048 TGPhrase true], .bx 6 96 [.pv (.slice TGPhrase)], .bx 7 112 [.pv (.slice TGPhrase)], .own 9 [] 336 .str true])] })], joins := [], hoist := [(9, [2])], astore := [(2, 32)] }
theorem E22_eq : ∀ x, afun E22 Try.f22 C22.ps C22.rs x = C22.fn x := fun x => by kernel_rfl
theorem S22 : Sound Try.prog 22 C22 := fun_sound (E := E22) ⟨good_T (by kernel_rfl), (good_cons S23 ⟨_, Try.func23, by kernel_rfl, by kernel_rfl⟩ (good_cons S75 ⟨_, Try.func75, by kernel_rfl, by kernel_rfl⟩ (good_cons S76 ⟨_, Try.func76, by kernel_rfl, by kernel_rfl⟩ (good_cons S77 ⟨_, Try.func77, by kernel_rfl, by kernel_rfl⟩ good_nil)))), mixedOk, ins_nil⟩ Try.func22 rfl E22_eq
/-- spec.CompareBooks -/
noncomputable def s_CompareBooks (p_a : GBook) (p_b : GBook) (p_s : Bytes) : Option (Int × Bool) :=
  (s_msCompare p_a p_b p_s).bind fun r1 =>
  some (r1.1, r1.2)
noncomputable def C25 : FnSpec := { ps := [.val TGBook, .val TGBook, .val .str], rs := [.val (.int .i64), .val .bool], fn := fun x => s_CompareBooks x.1 x.2.1 x.2.2 }
noncomputable def E25 : Env := { T := [(32, TGBook)], G := [(55, C55)], ro := [3, 4], loops := [], joins := [] }
theorem E25_eq : ∀ x, afun E25 Try.f25 C25.ps C25.rs x = C25.fn x := fun x => by kernel_rfl
theorem S25 : Sound Try.prog 25 C25 := fun_sound (E := E25) ⟨good_T (by kernel_rfl), (good_cons S55 ⟨_, Try.func55, by kernel_rfl, by kernel_rfl⟩ good_nil), mixedOk, ins_nil⟩ Try.func25 rfl E25_eq
/-- spec.DrawIsBook -/
noncomputable def s_DrawIsBook (p_code : List Int) : Option (GBook) :=
  (s_l1Cur_anyBook (p_code, 0, 0, ())).bind fun r1 =>
  some r1.2
noncomputable def C79 : FnSpec := { ps := [.val (.slice (.int .u8))], rs := [.own TGBook], fn := fun x => s_DrawIsBook x }
noncomputable def E79 : Env := { T := [(32, TGBook), (89, TGl1Cur)], G := [(78, C78)], ro := [], loops := [], joins := [] }
theorem E79_eq : ∀ x, afun E79 Try.f79 C79.ps C79.rs x = C79.fn x := fun x => by kernel_rfl
theorem S79 : Sound Try.prog 79 C79 := fun_sound (E := E79) ⟨good_T (by kernel_rfl), (good_cons S78 ⟨_, Try.func78, by kernel_rfl, by kernel_rfl⟩ good_nil), mixedOk, ins_nil⟩ Try.func79 rfl E79_eq
/-- spec.DrawClosestPhrases -/
noncomputable def s_DrawClosestPhrases (p_code : List Int) : Option (GBook) :=
  (s_DrawIsBook p_code).bind fun r1 =>
  some (r1.1, ())
noncomputable def C26 : FnSpec := { ps := [.val (.slice (.int .u8))], rs := [.own TGBook], fn := fun x => s_DrawClosestPhrases x }
noncomputable def E26 : Env := { T := [(32, TGBook)], G := [(79, C79)], ro := [], loops := [], joins := [] }
theorem E26_eq : ∀ x, afun E26 Try.f26 C26.ps C26.rs x = C26.fn x := fun x => by kernel_rfl
theorem S26 : Sound Try.prog 26 C26 := fun_sound (E := E26) ⟨good_T (by kernel_rfl), (good_cons S79 ⟨_, Try.func79, by kernel_rfl, by kernel_rfl⟩ good_nil), mixedOk, ins_nil⟩ Try.func26 rfl E26_eq
/-- math/bits.OnesCount8 -/
noncomputable def math_bits_OnesCount8 (p_x : Int) : Option (Int) :=
  (idx ([0, 1, 1, 2, 1, 2, 2, 3, 1, 2, 2, 3, 2, 3, 3, 4, 1, 2, 2, 3, 2, 3, 3, 4, 2, 3, 3, 4, 3, 4, 4, 5, 1, 2, 2, 3, 2, 3, 3, 4, 2, 3, 3, 4, 3, 4, 4, 5, 2, 3, 3, 4, 3, 4, 4, 5, 3, 4, 4, 5, 4, 5, 5, 6, 1, 2, 2, 3, 2, 3, 3, 4, 2, 3, 3, 4, 3, 4, 4, 5, 2, 3, 3, 4, 3, 4, 4, 5, 3, 4, 4, 5, 4, 5, 5, 6, 2, 3, 3, 4, 3, 4, 4, 5, 3, 4, 4, 5, 4, 5, 5, 6, 3, 4, 4, 5, 4, 5, 5, 6, 4, 5, 5, 6, 5, 6, 6, 7, 1, 2, 2, 3, 2, 3, 3, 4, 2, 3, 3, 4, 3, 4, 4, 5, 2, 3, 3, 4, 3, 4, 4, 5, 3, 4, 4, 5, 4, 5, 5, 6, 2, 3, 3, 4, 3, 4, 4, 5, 3, 4, 4, 5, 4, 5, 5, 6, 3, 4, 4, 5, 4, 5, 5, 6, 4, 5, 5, 6, 5, 6, 6, 7, 2, 3, 3, 4, 3, 4, 4, 5, 3, 4, 4, 5, 4, 5, 5, 6, 3, 4, 4, 5, 4, 5, 5, 6, 4, 5, 5, 6, 5, 6, 6, 7, 3, 4, 4, 5, 4, 5, 5, 6, 4, 5, 5, 6, 5, 6, 6, 7, 4, 5, 5, 6, 5, 6, 6, 7, 5, 6, 6, 7, 6, 7, 7, 8] : Bytes) p_x).bind fun b1 =>
  some (w64 (b1.toNat : Int))
noncomputable def C121 : FnSpec := { ps := [.val (.int .u8)], rs := [.val (.int .i64)], fn := fun x => math_bits_OnesCount8 x }
noncomputable def E121 : Env := { T := [(3, (.int .i64)), (5, (.int .u8)), (9, .str)], G := [], ro := [], loops := [], joins := [] }
theorem E121_eq : ∀ x, afun E121 Try.f121 C121.ps C121.rs x = C121.fn x := fun x => by kernel_rfl
theorem S121 : Sound Try.prog 121 C121 := fun_sound (E := E121) ⟨good_T (by kernel_rfl), good_nil, mixedOk, ins_nil⟩ Try.func121 rfl E121_eq
/-- impl.distanceOf -/
noncomputable def i_distanceOf (p_a : Int) (p_b : Int) : Option (Int) :=
  (math_bits_OnesCount8 (IntKind.u8.wrap (bitsI .xor .i64 p_a p_b))).bind fun r1 =>
  some r1
noncomputable def C88 : FnSpec := { ps := [.val (.int .i64), .val (.int .i64)], rs := [.val (.int .i64)], fn := fun x => i_distanceOf x.1 x.2 }
noncomputable def E88 : Env := { T := [(3, (.int .i64)), (5, (.int .u8))], G := [(121, C121)], ro := [], loops := [], joins := [] }
theorem E88_eq : ∀ x, afun E88 Try.f88 C88.ps C88.rs x = C88.fn x := fun x => by kernel_rfl
theorem S88 : Sound Try.prog 88 C88 := fun_sound (E := E88) ⟨good_T (by kernel_rfl), (good_cons S121 ⟨_, Try.func121, by kernel_rfl, by kernel_rfl⟩ good_nil), mixedOk, ins_nil⟩ Try.func88 rfl E88_eq
/-- impl.phraseDistance -/
noncomputable def i_phraseDistance (p_x : GPhrase) (p_y : GPhrase) : Option (Int) :=
  (loopE (fun (st2 : Int × Int) => (
      bif (decide (st2.2 < (p_x.2.1.length : Int))) then
        (idx p_x.2.1 st2.2).bind fun e3 =>
        (idx p_y.2.1 st2.2).bind fun e4 =>
        (i_distanceOf e3 e4).bind fun r5 =>
        some (.inl ((w64 (st2.1 + r5)), (w64 (st2.2 + 1))))
      else
        some (.inr st2.1) : Option ((Int × Int) ⊕ (Int)))) (0, 0)).bind fun o6 =>
  some o6
noncomputable def C82 : FnSpec := { ps := [.val TGPhrase, .val TGPhrase], rs := [.val (.int .i64)], fn := fun x => i_phraseDistance x.1 x.2 }
noncomputable def E82 : Env := { T := [(3, (.int .i64)), (38, (.slice (.int .i64))), (61, TGPhrase)], G := [(88, C88)], ro := [2, 3], loops := [(3, { keep := [3, 9, 10], live := [.tv 5 (.int .i64), .tv 11 (.int .i64)], outs := [(.exit 0, [.tv 5 (.int .i64)])] })], joins := [] }
theorem E82_eq : ∀ x, afun E82 Try.f82 C82.ps C82.rs x = C82.fn x := fun x => by kernel_rfl
theorem S82 : Sound Try.prog 82 C82 := fun_sound (E := E82) ⟨good_T (by kernel_rfl), (good_cons S88 ⟨_, Try.func88, by kernel_rfl, by kernel_rfl⟩ good_nil), mixedOk, ins_nil⟩ Try.func82 rfl E82_eq
/-- impl.closestPhrases -/
noncomputable def i_closestPhrases (p_b : GBook) : Option (Int × Int × Bool) :=
  (loopE (fun (st2 : Int × Int × Int × Int) => (
      bif (decide (st2.2.2.2 < (p_b.1.length : Int))) then
        (idx p_b.1 st2.2.2.2).bind fun e3 =>
        (loopE (fun (st5 : Int × Int × Int × Bytes × (List Int) × Int) => (
            bif (decide (st5.2.2.2.2.2 < (p_b.1.length : Int))) then
              (idx p_b.1 st5.2.2.2.2.2).bind fun e6 =>
              bif (!decide ((st5.2.2.2.2.1.length : Int) = (e6.2.1.length : Int))) then
                some (.inl (st5.1, st5.2.1, st5.2.2.1, st5.2.2.2.1, st5.2.2.2.2.1, (w64 (st5.2.2.2.2.2 + 1))))
              else
                (i_phraseDistance (st5.2.2.2.1, st5.2.2.2.2.1, ()) e6).bind fun r7 =>
                (bif (decide (st5.2.2.1 < 0)) then
                    some true
                  else
                    some (decide (r7 < st5.2.2.1))).bind fun c8 =>
                bif c8 then
                  some (.inl (st2.2.2.2, st5.2.2.2.2.2, r7, st5.2.2.2.1, st5.2.2.2.2.1, (w64 (st5.2.2.2.2.2 + 1))))
                else
                  some (.inl (st5.1, st5.2.1, st5.2.2.1, st5.2.2.2.1, st5.2.2.2.2.1, (w64 (st5.2.2.2.2.2 + 1))))
            else
              some (.inr (st5.1, st5.2.1, st5.2.2.1)) : Option ((Int × Int × Int × Bytes × (List Int) × Int) ⊕ ((Int × Int × Int))))) (st2.1, st2.2.1, st2.2.2.1, e3.1, e3.2.1, (w64 (st2.2.2.2 + 1)))).bind fun o9 =>
        some (.inl (o9.1, o9.2.1, o9.2.2, (w64 (st2.2.2.2 + 1))))
      else
        some (.inr (st2.1, st2.2.1, st2.2.2.1)) : Option ((Int × Int × Int × Int) ⊕ ((Int × Int × Int))))) (0, 0, (-1), 0)).bind fun o10 =>
  some (o10.1, o10.2.1, (decide (0 ≤ o10.2.2)))
noncomputable def C80 : FnSpec := { ps := [.val TGBook], rs := [.val (.int .i64), .val (.int .i64), .val .bool], fn := fun x => i_closestPhrases x }
noncomputable def E80 : Env := { T := [(30, (.slice TGPhrase)), (32, TGBook), (38, (.slice (.int .i64))), (61, TGPhrase)], G := [(82, C82)], ro := [1], loops := [(3, { keep := [1, 14, 15], live := [.tv 5 (.int .i64), .tv 6 (.int .i64), .tv 7 (.int .i64), .tv 16 (.int .i64)], outs := [(.exit 0, [.tv 5 (.int .i64), .tv 6 (.int .i64), .tv 7 (.int .i64)])] }), (6, { keep := [1, 8, 14, 15, 16], live := [.tv 5 (.int .i64), .tv 6 (.int .i64), .tv 7 (.int .i64), .bx 9 144 [.pv .str, .pv (.slice (.int .i64))], .tv 10 (.int .i64)], outs := [(.exit 2, [.tv 5 (.int .i64), .tv 6 (.int .i64), .tv 7 (.int .i64)])] })], joins := [] }
theorem E80_eq : ∀ x, afun E80 Try.f80 C80.ps C80.rs x = C80.fn x := fun x => by kernel_rfl
theorem S80 : Sound Try.prog 80 C80 := fun_sound (E := E80) ⟨good_T (by kernel_rfl), (good_cons S82 ⟨_, Try.func82, by kernel_rfl, by kernel_rfl⟩ good_nil), mixedOk, ins_nil⟩ Try.func80 rfl E80_eq
/-- impl.ClosestPhrases -/
noncomputable def i_ClosestPhrases (p_b : GBook) : Option (Int × Int × Bool) :=
  (i_IsBook p_b).bind fun r1 =>
  bif (!r1) then
    some (0, 0, false)
  else
    (i_closestPhrases p_b).bind fun r2 =>
    some (r2.1, r2.2.1, r2.2.2)
noncomputable def C27 : FnSpec := { ps := [.val TGBook], rs := [.val (.int .i64), .val (.int .i64), .val .bool], fn := fun x => i_ClosestPhrases x }
noncomputable def E27 : Env := { T := [(32, TGBook)], G := [(49, C49), (80, C80)], ro := [1], loops := [], joins := [] }
theorem E27_eq : ∀ x, afun E27 Try.f27 C27.ps C27.rs x = C27.fn x := fun x => by kernel_rfl
theorem S27 : Sound Try.prog 27 C27 := fun_sound (E := E27) ⟨good_T (by kernel_rfl), (good_cons S49 ⟨_, Try.func49, by kernel_rfl, by kernel_rfl⟩ (good_cons S80 ⟨_, Try.func80, by kernel_rfl, by kernel_rfl⟩ good_nil)), mixedOk, ins_nil⟩ Try.func27 rfl E27_eq
/-- spec.sgClosed -/
noncomputable def s_sgClosed (p_n : Int) (p_i : Int) : Option (Bool) :=
  bif decide (0 ≤ (IntKind.u64.wrap p_i)) then
    some (decide ((bitsI .and .i64 (shiftI .shr .i64 p_n (IntKind.u64.wrap p_i)) 1) = 1))
  else
    none
noncomputable def C137 : FnSpec := { ps := [.val (.int .i64), .val (.int .i64)], rs := [.val .bool], fn := fun x => s_sgClosed x.1 x.2 }
noncomputable def E137 : Env := { T := [(3, (.int .i64)), (123, (.int .u64))], G := [], ro := [], loops := [], joins := [] }
theorem E137_eq : ∀ x, afun E137 Try.f137 C137.ps C137.rs x = C137.fn x := fun x => by kernel_rfl
theorem S137 : Sound Try.prog 137 C137 := fun_sound (E := E137) ⟨good_T (by kernel_rfl), good_nil, mixedOk, ins_nil⟩ Try.func137 rfl E137_eq
/-- spec.sgShutters -/
noncomputable def s_sgShutters (p_n : Int) : Option ((List Int)) :=
  (loopE (fun (st2 : (List Int) × Int) => (
      bif (decide (st2.2 < 6)) then
        (s_sgClosed p_n st2.2).bind fun r3 =>
        bif r3 then
          bif decide (List.length st2.1 + List.length [st2.2] ≤ lim) then
            some (.inl ((st2.1 ++ [st2.2]), (w64 (st2.2 + 1))))
          else
            none
        else
          some (.inl (st2.1, (w64 (st2.2 + 1))))
      else
        some (.inr st2.1) : Option (((List Int) × Int) ⊕ ((List Int))))) ([], 0)).bind fun o4 =>
  some o4
noncomputable def C122 : FnSpec := { ps := [.val (.int .i64)], rs := [.own (.slice (.int .i64))], fn := fun x => s_sgShutters x }
noncomputable def E122 : Env := { T := [(38, (.slice (.int .i64)))], G := [(137, C137)], ro := [], loops := [(3, { keep := [0], live := [.own 3 [] 200003 (.int .i64) true, .tv 4 (.int .i64)], outs := [(.exit 0, [.own 3 [] 200003 (.int .i64) true])] })], joins := [] }
theorem E122_eq : ∀ x, afun E122 Try.f122 C122.ps C122.rs x = C122.fn x := fun x => by kernel_rfl
theorem S122 : Sound Try.prog 122 C122 := fun_sound (E := E122) ⟨good_T (by kernel_rfl), (good_cons S137 ⟨_, Try.func137, by kernel_rfl, by kernel_rfl⟩ good_nil), mixedOk, ins_nil⟩ Try.func122 rfl E122_eq
/-- spec.sgDistance -/
noncomputable def s_sgDistance (p_a : Int) (p_b : Int) : Option (Int) :=
  (s_sgShutters (bitsI .xor .i64 p_a p_b)).bind fun r1 =>
  some (r1.length : Int)
noncomputable def C90 : FnSpec := { ps := [.val (.int .i64), .val (.int .i64)], rs := [.val (.int .i64)], fn := fun x => s_sgDistance x.1 x.2 }
noncomputable def E90 : Env := { T := [(38, (.slice (.int .i64)))], G := [(122, C122)], ro := [], loops := [], joins := [] }
theorem E90_eq : ∀ x, afun E90 Try.f90 C90.ps C90.rs x = C90.fn x := fun x => by kernel_rfl
theorem S90 : Sound Try.prog 90 C90 := fun_sound (E := E90) ⟨good_T (by kernel_rfl), (good_cons S122 ⟨_, Try.func122, by kernel_rfl, by kernel_rfl⟩ good_nil), mixedOk, ins_nil⟩ Try.func90 rfl E90_eq
/-- spec.msDistance -/
noncomputable def s_msDistance (p_x : GPhrase) (p_y : GPhrase) : Option (Int) :=
  bif (!decide ((p_x.2.1.length : Int) = (p_y.2.1.length : Int))) then
    some (-1)
  else
    (loopE (fun (st2 : Int × Int) => (
        bif (decide (st2.2 < (p_x.2.1.length : Int))) then
          (idx p_x.2.1 st2.2).bind fun e3 =>
          (idx p_y.2.1 st2.2).bind fun e4 =>
          (s_sgDistance e3 e4).bind fun r5 =>
          some (.inl ((w64 (st2.1 + r5)), (w64 (st2.2 + 1))))
        else
          some (.inr st2.1) : Option ((Int × Int) ⊕ (Int)))) (0, 0)).bind fun o6 =>
    some o6
noncomputable def C118 : FnSpec := { ps := [.val TGPhrase, .val TGPhrase], rs := [.val (.int .i64)], fn := fun x => s_msDistance x.1 x.2 }
noncomputable def E118 : Env := { T := [(3, (.int .i64)), (38, (.slice (.int .i64))), (61, TGPhrase)], G := [(90, C90)], ro := [2, 3], loops := [(5, { keep := [3, 16, 17], live := [.tv 5 (.int .i64), .tv 18 (.int .i64)], outs := [(.exit 0, [.tv 5 (.int .i64)])] })], joins := [] }
theorem E118_eq : ∀ x, afun E118 Try.f118 C118.ps C118.rs x = C118.fn x := fun x => by kernel_rfl
theorem S118 : Sound Try.prog 118 C118 := fun_sound (E := E118) ⟨good_T (by kernel_rfl), (good_cons S90 ⟨_, Try.func90, by kernel_rfl, by kernel_rfl⟩ good_nil), mixedOk, ins_nil⟩ Try.func118 rfl E118_eq
/-- spec.msClosest -/
noncomputable def s_msClosest (p_b : GBook) : Option (Int × Int × Int) :=
  (loopE (fun (st2 : Int × Int × Int × Int) => (
      bif (decide (st2.2.2.2 < (p_b.1.length : Int))) then
        (idx p_b.1 st2.2.2.2).bind fun e3 =>
        (loopE (fun (st5 : Int × Int × Int × Bytes × (List Int) × Int) => (
            bif (decide (st5.2.2.2.2.2 < (p_b.1.length : Int))) then
              (idx p_b.1 st5.2.2.2.2.2).bind fun e6 =>
              (s_msDistance (st5.2.2.2.1, st5.2.2.2.2.1, ()) e6).bind fun r7 =>
              (bif (decide (0 ≤ r7)) then
                  (bif (decide (st5.2.2.1 < 0)) then
                      some true
                    else
                      some (decide (r7 < st5.2.2.1))).bind fun c8 =>
                  some c8
                else
                  some false).bind fun c9 =>
              bif c9 then
                some (.inl (st2.2.2.2, st5.2.2.2.2.2, r7, st5.2.2.2.1, st5.2.2.2.2.1, (w64 (st5.2.2.2.2.2 + 1))))
              else
                some (.inl (st5.1, st5.2.1, st5.2.2.1, st5.2.2.2.1, st5.2.2.2.2.1, (w64 (st5.2.2.2.2.2 + 1))))
            else
              some (.inr (st5.1, st5.2.1, st5.2.2.1)) : Option ((Int × Int × Int × Bytes × (List Int) × Int) ⊕ ((Int × Int × Int))))) (st2.1, st2.2.1, st2.2.2.1, e3.1, e3.2.1, (w64 (st2.2.2.2 + 1)))).bind fun o10 =>
        some (.inl (o10.1, o10.2.1, o10.2.2, (w64 (st2.2.2.2 + 1))))
      else
        some (.inr (st2.1, st2.2.1, st2.2.2.1)) : Option ((Int × Int × Int × Int) ⊕ ((Int × Int × Int))))) (0, 0, (-1), 0)).bind fun o11 =>
  some (o11.1, o11.2.1, o11.2.2)
noncomputable def C81 : FnSpec := { ps := [.val TGBook], rs := [.val (.int .i64), .val (.int .i64), .val (.int .i64)], fn := fun x => s_msClosest x }
noncomputable def E81 : Env := { T := [(30, (.slice TGPhrase)), (32, TGBook), (61, TGPhrase)], G := [(118, C118)], ro := [1], loops := [(3, { keep := [1, 13, 14], live := [.tv 5 (.int .i64), .tv 6 (.int .i64), .tv 7 (.int .i64), .tv 15 (.int .i64)], outs := [(.exit 0, [.tv 5 (.int .i64), .tv 6 (.int .i64), .tv 7 (.int .i64)])] }), (6, { keep := [1, 8, 13, 14, 15], live := [.tv 5 (.int .i64), .tv 6 (.int .i64), .tv 7 (.int .i64), .bx 9 144 [.pv .str, .pv (.slice (.int .i64))], .tv 10 (.int .i64)], outs := [(.exit 2, [.tv 5 (.int .i64), .tv 6 (.int .i64), .tv 7 (.int .i64)])] })], joins := [] }
theorem E81_eq : ∀ x, afun E81 Try.f81 C81.ps C81.rs x = C81.fn x := fun x => by kernel_rfl
theorem S81 : Sound Try.prog 81 C81 := fun_sound (E := E81) ⟨good_T (by kernel_rfl), (good_cons S118 ⟨_, Try.func118, by kernel_rfl, by kernel_rfl⟩ good_nil), mixedOk, ins_nil⟩ Try.func81 rfl E81_eq
/-- spec.ClosestPhrases -/
noncomputable def s_ClosestPhrases (p_b : GBook) : Option (Int × Int × Bool) :=
  (s_bkGood p_b).bind fun r1 =>
  bif (!r1) then
    some (0, 0, false)
  else
    (s_msClosest p_b).bind fun r2 =>
    some (r2.1, r2.2.1, (decide (0 ≤ r2.2.2)))
noncomputable def C28 : FnSpec := { ps := [.val TGBook], rs := [.val (.int .i64), .val (.int .i64), .val .bool], fn := fun x => s_ClosestPhrases x }
noncomputable def E28 : Env := { T := [(32, TGBook)], G := [(53, C53), (81, C81)], ro := [1], loops := [], joins := [] }
theorem E28_eq : ∀ x, afun E28 Try.f28 C28.ps C28.rs x = C28.fn x := fun x => by kernel_rfl
theorem S28 : Sound Try.prog 28 C28 := fun_sound (E := E28) ⟨good_T (by kernel_rfl), (good_cons S53 ⟨_, Try.func53, by kernel_rfl, by kernel_rfl⟩ (good_cons S81 ⟨_, Try.func81, by kernel_rfl, by kernel_rfl⟩ good_nil)), mixedOk, ins_nil⟩ Try.func28 rfl E28_eq
/-- impl.LeastDistance -/
noncomputable def i_LeastDistance (p_b : GBook) : Option (Int × Bool) :=
  (i_IsBook p_b).bind fun r1 =>
  bif (!r1) then
    some (0, false)
  else
    (i_closestPhrases p_b).bind fun r2 =>
    bif (!r2.2.2) then
      some (0, false)
    else
      (idx p_b.1 r2.1).bind fun e3 =>
      (idx p_b.1 r2.2.1).bind fun e4 =>
      (i_phraseDistance e3 e4).bind fun r5 =>
      some (r5, true)
noncomputable def C29 : FnSpec := { ps := [.val TGBook], rs := [.val (.int .i64), .val .bool], fn := fun x => i_LeastDistance x }
noncomputable def E29 : Env := { T := [(30, (.slice TGPhrase)), (32, TGBook), (61, TGPhrase)], G := [(49, C49), (80, C80), (82, C82)], ro := [1], loops := [], joins := [] }
theorem E29_eq : ∀ x, afun E29 Try.f29 C29.ps C29.rs x = C29.fn x := fun x => by kernel_rfl
theorem S29 : Sound Try.prog 29 C29 := fun_sound (E := E29) ⟨good_T (by kernel_rfl), (good_cons S49 ⟨_, Try.func49, by kernel_rfl, by kernel_rfl⟩ (good_cons S80 ⟨_, Try.func80, by kernel_rfl, by kernel_rfl⟩ (good_cons S82 ⟨_, Try.func82, by kernel_rfl, by kernel_rfl⟩ good_nil))), mixedOk, ins_nil⟩ Try.func29 rfl E29_eq
/-- spec.LeastDistance -/
noncomputable def s_LeastDistance (p_b : GBook) : Option (Int × Bool) :=
  (s_bkGood p_b).bind fun r1 =>
  bif (!r1) then
    some (0, false)
  else
    (s_msClosest p_b).bind fun r2 =>
    bif (decide (r2.2.2 < 0)) then
      some (0, false)
    else
      some (r2.2.2, true)
noncomputable def C30 : FnSpec := { ps := [.val TGBook], rs := [.val (.int .i64), .val .bool], fn := fun x => s_LeastDistance x }
noncomputable def E30 : Env := { T := [(32, TGBook)], G := [(53, C53), (81, C81)], ro := [1], loops := [], joins := [] }
theorem E30_eq : ∀ x, afun E30 Try.f30 C30.ps C30.rs x = C30.fn x := fun x => by kernel_rfl
theorem S30 : Sound Try.prog 30 C30 := fun_sound (E := E30) ⟨good_T (by kernel_rfl), (good_cons S53 ⟨_, Try.func53, by kernel_rfl, by kernel_rfl⟩ (good_cons S81 ⟨_, Try.func81, by kernel_rfl, by kernel_rfl⟩ good_nil)), mixedOk, ins_nil⟩ Try.func30 rfl E30_eq
/-- spec.DrawShowSeconds -/
noncomputable def s_DrawShowSeconds (p_code : List Int) : Option (GBook × Bytes × Int) :=
  (s_l1Cur_anyBook (p_code, 0, 0, ())).bind fun r1 =>
  (s_l1Cur_letters r1.1 r1.2).bind fun r2 =>
  (s_l1Cur_among r2.1 [0, 61]).bind fun r3 =>
  (s_l1Cur_among r3.1 [1, 5, 20, 60, r3.2]).bind fun r4 =>
  some (r1.2, r2.2, r4.2)
noncomputable def C31 : FnSpec := { ps := [.val (.slice (.int .u8))], rs := [.val TGBook, .val .str, .val (.int .i64)], fn := fun x => s_DrawShowSeconds x }
noncomputable def E31 : Env := { T := [(32, TGBook), (38, (.slice (.int .i64))), (89, TGl1Cur)], G := [(77, C77), (78, C78), (83, C83)], ro := [18, 20], loops := [], joins := [], hoist := [(3, [4])], pre := [(3, [176])], aside := [(15, 144), (19, 144), (21, 144)] }
theorem E31_eq : ∀ x, afun E31 Try.f31 C31.ps C31.rs x = C31.fn x := fun x => by kernel_rfl
theorem S31 : Sound Try.prog 31 C31 := fun_sound (E := E31) ⟨good_T (by kernel_rfl), (good_cons S77 ⟨_, Try.func77, by kernel_rfl, by kernel_rfl⟩ (good_cons S78 ⟨_, Try.func78, by kernel_rfl, by kernel_rfl⟩ (good_cons S83 ⟨_, Try.func83, by kernel_rfl, by kernel_rfl⟩ good_nil))), mixedOk, ins_nil⟩ Try.func31 rfl E31_eq
/-- impl.ShowSeconds -/
noncomputable def i_ShowSeconds (p_b : GBook) (p_s : Bytes) (p_seconds : Int) : Option (Int × Bool) :=
  (i_LeastSignals p_b p_s).bind fun r1 =>
  (bif (!r1.2) then
      some true
    else
      (i_within p_seconds 1 60).bind fun r2 =>
      some (!r2)).bind fun c3 =>
  bif c3 then
    some (0, false)
  else
    some ((w64 ((w64 (r1.1 + 1)) * p_seconds)), true)
noncomputable def C32 : FnSpec := { ps := [.val TGBook, .val .str, .val (.int .i64)], rs := [.val (.int .i64), .val .bool], fn := fun x => i_ShowSeconds x.1 x.2.1 x.2.2 }
noncomputable def E32 : Env := { T := [(32, TGBook)], G := [(36, C36), (84, C84)], ro := [3], loops := [], joins := [] }
theorem E32_eq : ∀ x, afun E32 Try.f32 C32.ps C32.rs x = C32.fn x := fun x => by kernel_rfl
theorem S32 : Sound Try.prog 32 C32 := fun_sound (E := E32) ⟨good_T (by kernel_rfl), (good_cons S36 ⟨_, Try.func36, by kernel_rfl, by kernel_rfl⟩ (good_cons S84 ⟨_, Try.func84, by kernel_rfl, by kernel_rfl⟩ good_nil)), mixedOk, ins_nil⟩ Try.func32 rfl E32_eq
/-- spec.ShowSeconds -/
noncomputable def s_ShowSeconds (p_b : GBook) (p_s : Bytes) (p_seconds : Int) : Option (Int × Bool) :=
  (s_LeastSignals p_b p_s).bind fun r1 =>
  (bif (!r1.2) then
      some true
    else
      (s_l1In p_seconds 1 60).bind fun r2 =>
      some (!r2)).bind fun c3 =>
  bif c3 then
    some (0, false)
  else
    some ((w64 ((w64 (r1.1 + 1)) * p_seconds)), true)
noncomputable def C33 : FnSpec := { ps := [.val TGBook, .val .str, .val (.int .i64)], rs := [.val (.int .i64), .val .bool], fn := fun x => s_ShowSeconds x.1 x.2.1 x.2.2 }
noncomputable def E33 : Env := { T := [(32, TGBook)], G := [(85, C85), (86, C86)], ro := [3], loops := [], joins := [] }
theorem E33_eq : ∀ x, afun E33 Try.f33 C33.ps C33.rs x = C33.fn x := fun x => by kernel_rfl
theorem S33 : Sound Try.prog 33 C33 := fun_sound (E := E33) ⟨good_T (by kernel_rfl), (good_cons S85 ⟨_, Try.func85, by kernel_rfl, by kernel_rfl⟩ (good_cons S86 ⟨_, Try.func86, by kernel_rfl, by kernel_rfl⟩ good_nil)), mixedOk, ins_nil⟩ Try.func33 rfl E33_eq
/-- impl.isSignal -/
noncomputable def i_isSignal (p_n : Int) : Option (Bool) :=
  (i_within p_n 0 63).bind fun r1 =>
  some r1
noncomputable def C87 : FnSpec := { ps := [.val (.int .i64)], rs := [.val .bool], fn := fun x => i_isSignal x }
noncomputable def E87 : Env := { T := [], G := [(84, C84)], ro := [], loops := [], joins := [] }
theorem E87_eq : ∀ x, afun E87 Try.f87 C87.ps C87.rs x = C87.fn x := fun x => by kernel_rfl
theorem S87 : Sound Try.prog 87 C87 := fun_sound (E := E87) ⟨good_T (by kernel_rfl), (good_cons S84 ⟨_, Try.func84, by kernel_rfl, by kernel_rfl⟩ good_nil), mixedOk, ins_nil⟩ Try.func87 rfl E87_eq
/-- impl.SignalDistance -/
noncomputable def i_SignalDistance (p_a : Int) (p_b : Int) : Option (Int × Bool) :=
  (i_isSignal p_a).bind fun r1 =>
  (bif (!r1) then
      some true
    else
      (i_isSignal p_b).bind fun r2 =>
      some (!r2)).bind fun c3 =>
  bif c3 then
    some (0, false)
  else
    (i_distanceOf p_a p_b).bind fun r4 =>
    some (r4, true)
noncomputable def C34 : FnSpec := { ps := [.val (.int .i64), .val (.int .i64)], rs := [.val (.int .i64), .val .bool], fn := fun x => i_SignalDistance x.1 x.2 }
noncomputable def E34 : Env := { T := [], G := [(87, C87), (88, C88)], ro := [], loops := [], joins := [] }
theorem E34_eq : ∀ x, afun E34 Try.f34 C34.ps C34.rs x = C34.fn x := fun x => by kernel_rfl
theorem S34 : Sound Try.prog 34 C34 := fun_sound (E := E34) ⟨good_T (by kernel_rfl), (good_cons S87 ⟨_, Try.func87, by kernel_rfl, by kernel_rfl⟩ (good_cons S88 ⟨_, Try.func88, by kernel_rfl, by kernel_rfl⟩ good_nil)), mixedOk, ins_nil⟩ Try.func34 rfl E34_eq
/-- spec.sgGood -/
noncomputable def s_sgGood (p_n : Int) : Option (Bool) :=
  (s_l1In p_n 0 63).bind fun r1 =>
  some r1
noncomputable def C89 : FnSpec := { ps := [.val (.int .i64)], rs := [.val .bool], fn := fun x => s_sgGood x }
noncomputable def E89 : Env := { T := [], G := [(86, C86)], ro := [], loops := [], joins := [] }
theorem E89_eq : ∀ x, afun E89 Try.f89 C89.ps C89.rs x = C89.fn x := fun x => by kernel_rfl
theorem S89 : Sound Try.prog 89 C89 := fun_sound (E := E89) ⟨good_T (by kernel_rfl), (good_cons S86 ⟨_, Try.func86, by kernel_rfl, by kernel_rfl⟩ good_nil), mixedOk, ins_nil⟩ Try.func89 rfl E89_eq
/-- spec.SignalDistance -/
noncomputable def s_SignalDistance (p_a : Int) (p_b : Int) : Option (Int × Bool) :=
  (s_sgGood p_a).bind fun r1 =>
  (bif (!r1) then
      some true
    else
      (s_sgGood p_b).bind fun r2 =>
      some (!r2)).bind fun c3 =>
  bif c3 then
    some (0, false)
  else
    (s_sgDistance p_a p_b).bind fun r4 =>
    some (r4, true)
noncomputable def C35 : FnSpec := { ps := [.val (.int .i64), .val (.int .i64)], rs := [.val (.int .i64), .val .bool], fn := fun x => s_SignalDistance x.1 x.2 }
noncomputable def E35 : Env := { T := [], G := [(89, C89), (90, C90)], ro := [], loops := [], joins := [] }
theorem E35_eq : ∀ x, afun E35 Try.f35 C35.ps C35.rs x = C35.fn x := fun x => by kernel_rfl
theorem S35 : Sound Try.prog 35 C35 := fun_sound (E := E35) ⟨good_T (by kernel_rfl), (good_cons S89 ⟨_, Try.func89, by kernel_rfl, by kernel_rfl⟩ (good_cons S90 ⟨_, Try.func90, by kernel_rfl, by kernel_rfl⟩ good_nil)), mixedOk, ins_nil⟩ Try.func35 rfl E35_eq
/-- laws.FnBookContests -/
noncomputable def l_FnBookContests (p_code : List Int) (p_more : List Int) : Option (Bool) :=
  bif (decide (1048576 < (w64 ((p_code.length : Int) + (p_more.length : Int))))) then
    some true
  else
    (s_DrawCountWins p_code).bind fun r1 =>
    (i_CountWins r1.1 r1.2.1 r1.2.2).bind fun r2 =>
    (s_CountWins r1.1 r1.2.1 r1.2.2).bind fun r3 =>
    (s_DrawCompareBooks p_more).bind fun r4 =>
    (i_CompareBooks r4.1 r4.2.1 r4.2.2).bind fun r5 =>
    (s_CompareBooks r4.1 r4.2.1 r4.2.2).bind fun r6 =>
    (i_CompareBooks r4.2.1 r4.1 r4.2.2).bind fun r7 =>
    (s_DrawClosestPhrases p_more).bind fun r8 =>
    (i_ClosestPhrases (r8.1, ())).bind fun r9 =>
    (s_ClosestPhrases (r8.1, ())).bind fun r10 =>
    (i_LeastDistance (r8.1, ())).bind fun r11 =>
    (s_LeastDistance (r8.1, ())).bind fun r12 =>
    (s_DrawShowSeconds p_more).bind fun r13 =>
    (i_ShowSeconds r13.1 r13.2.1 r13.2.2).bind fun r14 =>
    (s_ShowSeconds r13.1 r13.2.1 r13.2.2).bind fun r15 =>
    (bif (r2.2.2.2 != r3.2.2.2) then
        some true
      else
        some (!decide (r2.1 = r3.1))).bind fun c16 =>
    (bif c16 then
        some true
      else
        some (!decide (r2.2.1 = r3.2.1))).bind fun c17 =>
    (bif c17 then
        some true
      else
        some (!decide (r2.2.2.1 = r3.2.2.1))).bind fun c18 =>
    (bif c18 then
        some true
      else
        some (r5.2 != r6.2)).bind fun c19 =>
    (bif c19 then
        some true
      else
        some (!decide (r5.1 = r6.1))).bind fun c20 =>
    (bif c20 then
        some true
      else
        some (r7.2 != r5.2)).bind fun c21 =>
    (bif c21 then
        some true
      else
        some (!decide (r7.1 = (w64 (0 - r6.1))))).bind fun c22 =>
    (bif c22 then
        some true
      else
        some (r9.2.2 != r10.2.2)).bind fun c23 =>
    (bif c23 then
        some true
      else
        some (!decide (r9.1 = r10.1))).bind fun c24 =>
    (bif c24 then
        some true
      else
        some (!decide (r9.2.1 = r10.2.1))).bind fun c25 =>
    (bif c25 then
        some true
      else
        some (r11.2 != r12.2)).bind fun c26 =>
    (bif c26 then
        some true
      else
        some (!decide (r11.1 = r12.1))).bind fun c27 =>
    (bif c27 then
        some true
      else
        some (r14.2 != r15.2)).bind fun c28 =>
    (bif c28 then
        some true
      else
        some (!decide (r14.1 = r15.1))).bind fun c29 =>
    (bif c29 then
        some true
      else
        some (r9.2.2 != r11.2)).bind fun c30 =>
    bif c30 then
      some false
    else
      ((bif r9.2.2 then
            (idx r8.1 r10.1).bind fun e31 =>
            (idx r8.1 r10.2.1).bind fun e32 =>
            (bif (decide (r10.2.1 ≤ r10.1)) then
                some true
              else
                some (!decide ((e31.2.1.length : Int) = (e32.2.1.length : Int)))).bind fun c33 =>
            bif c33 then
              some (.inr false)
            else
              (loopE (fun (st35 : (List GPhrase) × (List GPhrase) × (List GPhrase) × Int × Int) => (
                  bif (decide (st35.2.2.2.2 < (e31.2.1.length : Int))) then
                    (idx e31.2.1 st35.2.2.2.2).bind fun e36 =>
                    (idx e32.2.1 st35.2.2.2.2).bind fun e37 =>
                    (i_SignalDistance e36 e37).bind fun r38 =>
                    (idx e31.2.1 st35.2.2.2.2).bind fun e39 =>
                    (idx e32.2.1 st35.2.2.2.2).bind fun e40 =>
                    (s_SignalDistance e39 e40).bind fun r41 =>
                    (bif (!r38.2) then
                        some true
                      else
                        some (!r41.2)).bind fun c42 =>
                    (bif c42 then
                        some true
                      else
                        some (!decide (r38.1 = r41.1))).bind fun c43 =>
                    bif c43 then
                      some (.inr (.inr false))
                    else
                      some (.inl (st35.1, st35.2.1, st35.2.2.1, (w64 (st35.2.2.2.1 + r41.1)), (w64 (st35.2.2.2.2 + 1))))
                  else
                    some (.inr (.inl (st35.1, st35.2.1, st35.2.2.1, st35.2.2.2.1))) : Option (((List GPhrase) × (List GPhrase) × (List GPhrase) × Int × Int) ⊕ (((List GPhrase) × (List GPhrase) × (List GPhrase) × Int) ⊕ Bool)))) (r1.1.1, r1.2.1.1, r13.1.1, 0, 0)).bind fun o44 =>
              match o44 with
              | .inl x45 =>
                (bif (!decide (x45.2.2.2 = r12.1)) then
                    some true
                  else
                    some (decide (r12.1 < 1))).bind fun c47 =>
                bif c47 then
                  some (.inr false)
                else
                  some (.inl (x45.1, x45.2.1, x45.2.2.1))
              | .inr y46 =>
                some (.inr y46)
          else
            some (.inl (r1.1.1, r1.2.1.1, r13.1.1)) : Option (((List GPhrase) × (List GPhrase) × (List GPhrase)) ⊕ Bool))).bind fun j48 =>
      match j48 with
      | .inl x49 =>
        ((bif r14.2 then
              (i_LeastSignals (x49.2.2, ()) r13.2.1).bind fun r51 =>
              (bif (!r51.2) then
                  some true
                else
                  some (!decide ((w64 ((w64 (r51.1 + 1)) * r13.2.2)) = r15.1))).bind fun c52 =>
              bif c52 then
                some (.inr false)
              else
                some (.inl (x49.1, x49.2.1))
            else
              some (.inl (x49.1, x49.2.1)) : Option (((List GPhrase) × (List GPhrase)) ⊕ Bool))).bind fun j53 =>
        match j53 with
        | .inl x54 =>
          bif (!r2.2.2.2) then
            some true
          else
            (i_CountWins (x54.2, ()) (x54.1, ()) r1.2.2).bind fun r56 =>
            (loopE (fun (st58 : (List GPhrase) × (List GPhrase) × Int × Int) => (
                bif (decide (st58.2.2.2 < (r1.2.2.length : Int))) then
                  (idx r1.2.2 st58.2.2.2).bind fun e59 =>
                  (s_CompareBooks (st58.1, ()) (st58.2.1, ()) e59).bind fun r60 =>
                  bif r60.2 then
                    some (.inl (st58.1, st58.2.1, (w64 (st58.2.2.1 + 1)), (w64 (st58.2.2.2 + 1))))
                  else
                    some (.inl (st58.1, st58.2.1, st58.2.2.1, (w64 (st58.2.2.2 + 1))))
                else
                  some (.inr st58.2.2.1) : Option (((List GPhrase) × (List GPhrase) × Int × Int) ⊕ (Int)))) (x54.1, x54.2, 0, 0)).bind fun o61 =>
            (bif r56.2.2.2 then
                some (decide (r56.1 = r3.2.2.1))
              else
                some false).bind fun c62 =>
            (bif c62 then
                some (decide (r56.2.1 = r3.2.1))
              else
                some false).bind fun c63 =>
            (bif c63 then
                some (decide (r56.2.2.1 = r3.1))
              else
                some false).bind fun c64 =>
            (bif c64 then
                some (decide ((w64 ((w64 (r3.1 + r3.2.1)) + r3.2.2.1)) = o61))
              else
                some false).bind fun c65 =>
            some c65
        | .inr y55 =>
          some y55
      | .inr y50 =>
        some y50
noncomputable def C5 : FnSpec := { ps := [.val (.slice (.int .u8)), .val (.slice (.int .u8))], rs := [.val .bool], fn := fun x => l_FnBookContests x.1 x.2 }
noncomputable def E5 : Env := { T := [(3, (.int .i64)), (4, .bool), (9, .str), (25, (.slice .str)), (30, (.slice TGPhrase)), (32, TGBook), (38, (.slice (.int .i64))), (46, (.slice (.int .u8))), (61, TGPhrase)], G := [(9, C9), (12, C12), (22, C22), (23, C23), (24, C24), (25, C25), (26, C26), (27, C27), (28, C28), (29, C29), (30, C30), (31, C31), (32, C32), (33, C33), (34, C34), (35, C35), (36, C36)], ro := [], loops := [(26, { keep := [7, 11, 12, 13, 14, 34, 37, 38, 40, 41, 43, 44, 266, 313, 314, 326, 327, 328, 329, 330, 331, 363, 364, 365, 368, 369, 370, 373, 374, 375, 378, 379, 380, 381, 382, 383, 384], live := [.bx 5 80 [.pv (.slice TGPhrase)], .bx 6 96 [.pv (.slice TGPhrase)], .bx 36 576 [.pv (.slice TGPhrase)], .tv 45 (.int .i64), .tv 267 (.int .i64)], outs := [(.exit 0, [.bx 5 80 [.pv (.slice TGPhrase)], .bx 6 96 [.pv (.slice TGPhrase)], .bx 36 576 [.pv (.slice TGPhrase)], .tv 45 (.int .i64)]), (.ret, [.tv 4 .bool])] }), (45, { keep := [12, 13, 14, 53, 54, 55, 56, 344, 345, 363, 364, 365, 368, 369, 370, 373, 374, 375, 378, 379, 380, 381, 382, 383, 384], live := [.bx 5 80 [.pv (.slice TGPhrase)], .bx 6 96 [.pv (.slice TGPhrase)], .tv 57 (.int .i64), .tv 346 (.int .i64)], outs := [(.exit 2, [.tv 57 (.int .i64)])] })], joins := [(36, { keep := [7, 11, 12, 13, 14, 37, 38, 40, 41], live := [], outs := [(.normal, [.bx 5 80 [.pv (.slice TGPhrase)], .bx 6 96 [.pv (.slice TGPhrase)], .bx 36 576 [.pv (.slice TGPhrase)]]), (.ret, [.tv 4 .bool])] }), (40, { keep := [7, 11, 12, 13, 14], live := [], outs := [(.normal, [.bx 5 80 [.pv (.slice TGPhrase)], .bx 6 96 [.pv (.slice TGPhrase)]]), (.ret, [.tv 4 .bool])] })], pre := [(21, [1920])] }
theorem E5_eq : ∀ x, afun E5 Try.f5 C5.ps C5.rs x = C5.fn x := fun x => by kernel_rfl
theorem S5 : Sound Try.prog 5 C5 := fun_sound (E := E5) ⟨good_T (by kernel_rfl), (good_cons S9 ⟨_, Try.func9, by kernel_rfl, by kernel_rfl⟩ (good_cons S12 ⟨_, Try.func12, by kernel_rfl, by kernel_rfl⟩ (good_cons S22 ⟨_, Try.func22, by kernel_rfl, by kernel_rfl⟩ (good_cons S23 ⟨_, Try.func23, by kernel_rfl, by kernel_rfl⟩ (good_cons S24 ⟨_, Try.func24, by kernel_rfl, by kernel_rfl⟩ (good_cons S25 ⟨_, Try.func25, by kernel_rfl, by kernel_rfl⟩ (good_cons S26 ⟨_, Try.func26, by kernel_rfl, by kernel_rfl⟩ (good_cons S27 ⟨_, Try.func27, by kernel_rfl, by kernel_rfl⟩ (good_cons S28 ⟨_, Try.func28, by kernel_rfl, by kernel_rfl⟩ (good_cons S29 ⟨_, Try.func29, by kernel_rfl, by kernel_rfl⟩ (good_cons S30 ⟨_, Try.func30, by kernel_rfl, by kernel_rfl⟩ (good_cons S31 ⟨_, Try.func31, by kernel_rfl, by kernel_rfl⟩ (good_cons S32 ⟨_, Try.func32, by kernel_rfl, by kernel_rfl⟩ (good_cons S33 ⟨_, Try.func33, by kernel_rfl, by kernel_rfl⟩ (good_cons S34 ⟨_, Try.func34, by kernel_rfl, by kernel_rfl⟩ (good_cons S35 ⟨_, Try.func35, by kernel_rfl, by kernel_rfl⟩ (good_cons S36 ⟨_, Try.func36, by kernel_rfl, by kernel_rfl⟩ good_nil))))))))))))))))), mixedOk, ins_nil⟩ Try.func5 rfl E5_eq
end Go.Proofs.Ytlhplhjibadplaa.Sh
