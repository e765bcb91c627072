/-
  The functions that the statement reaches, as plain functions; each with its contract.
-/
import Derived.Test.YtlhplhjibadplaaXLift
import Derived.Test.YtlhplhjibadplaaChecked
import Derived.KernelRfl
namespace Go.Proofs.Ytlhplhjibadplaa.Sh
open Go Go.Ab Go.Proofs
set_option maxRecDepth 100000
instance : Tabs := ⟨[]⟩
abbrev TGerrorAddressString : Ty := .pair .str (.pair (.int .u64) .unit)
abbrev GerrorAddressString : Type := Bytes × Int × Unit
abbrev TGPhrase : Ty := .pair .str (.pair (.slice (.int .i64)) .unit)
abbrev GPhrase : Type := Bytes × (List Int) × Unit
abbrev TGl1Cur : Ty := .pair (.slice (.int .u8)) (.pair (.int .i64) (.pair (.int .u64) .unit))
abbrev Gl1Cur : Type := (List Int) × Int × Int × Unit
abbrev TGboundsError : Ty := .pair (.int .i64) (.pair (.int .i64) (.pair .bool (.pair (.int .u8) .unit)))
abbrev GboundsError : Type := Int × Int × Bool × Int × Unit
abbrev TGBook : Ty := .pair (.slice TGPhrase) .unit
abbrev GBook : Type := (List GPhrase) × Unit
theorem mixedOk : Try.prog.follows .mixedOrders = true := by kernel_rfl
/-- spec.l1In -/
noncomputable def s_l1In (p_n : Int) (p_lo : Int) (p_hi : Int) : Option (Bool) :=
  (bif (decide (p_lo ≤ p_n)) then
      some (decide (p_n ≤ p_hi))
    else
      some false).bind fun c1 =>
  some c1
noncomputable def C86 : FnSpec := { ps := [.val (.int .i64), .val (.int .i64), .val (.int .i64)], rs := [.val .bool], fn := fun x => s_l1In x.1 x.2.1 x.2.2 }
noncomputable def E86 : Env := { T := [], G := [], ro := [], loops := [], joins := [] }
theorem E86_eq : ∀ x, afun E86 Try.f86 C86.ps C86.rs x = C86.fn x := fun x => by kernel_rfl
theorem S86 : Sound Try.prog 86 C86 := fun_sound (E := E86) ⟨good_T (by kernel_rfl), good_nil, mixedOk, ins_nil⟩ Try.func86 rfl E86_eq
/-- spec.bkLetters -/
noncomputable def s_bkLetters (p_s : Bytes) : Option (Bool) :=
  (loopE (fun (st2 : Int) => (
      bif (decide (st2 < (p_s.length : Int))) then
        (idx p_s st2).bind fun b3 =>
        (bif (decide ((b3.toNat : Int) < 97)) then
            some true
          else
            (idx p_s st2).bind fun b4 =>
            some (decide (122 < (b4.toNat : Int)))).bind fun c5 =>
        bif c5 then
          some (.inr (.inr false))
        else
          some (.inl (w64 (st2 + 1)))
      else
        some (.inr (.inl ())) : Option ((Int) ⊕ (Unit ⊕ Bool)))) 0).bind fun o6 =>
  match o6 with
  | .inl _ =>
    some (decide ((p_s.length : Int) ≤ 12))
  | .inr y8 =>
    some y8
noncomputable def C131 : FnSpec := { ps := [.val .str], rs := [.val .bool], fn := fun x => s_bkLetters x }
noncomputable def E131 : Env := { T := [(9, .str)], G := [], ro := [], loops := [(2, { keep := [0], live := [.tv 3 (.int .i64)], outs := [(.exit 0, []), (.ret, [.tv 2 .bool])] })], joins := [] }
theorem E131_eq : ∀ x, afun E131 Try.f131 C131.ps C131.rs x = C131.fn x := fun x => by kernel_rfl
theorem S131 : Sound Try.prog 131 C131 := fun_sound (E := E131) ⟨good_T (by kernel_rfl), good_nil, mixedOk, ins_nil⟩ Try.func131 rfl E131_eq
/-- spec.bkPhraseText -/
noncomputable def s_bkPhraseText (p_s : Bytes) : Option (Bool) :=
  (s_bkLetters p_s).bind fun r1 =>
  (bif r1 then
      some (!decide (p_s = []))
    else
      some false).bind fun c2 =>
  some c2
noncomputable def C100 : FnSpec := { ps := [.val .str], rs := [.val .bool], fn := fun x => s_bkPhraseText x }
noncomputable def E100 : Env := { T := [], G := [(131, C131)], ro := [], loops := [], joins := [] }
theorem E100_eq : ∀ x, afun E100 Try.f100 C100.ps C100.rs x = C100.fn x := fun x => by kernel_rfl
theorem S100 : Sound Try.prog 100 C100 := fun_sound (E := E100) ⟨good_T (by kernel_rfl), (good_cons S131 ⟨_, Try.func131, by kernel_rfl, by kernel_rfl⟩ good_nil), mixedOk, ins_nil⟩ Try.func100 rfl E100_eq
/-- spec.l1All -/
noncomputable def s_l1All (p_l : List Int) (p_lo : Int) (p_hi : Int) : Option (Bool) :=
  (loopE (fun (st2 : Int) => (
      bif (decide (st2 < (p_l.length : Int))) then
        (idx p_l st2).bind fun e3 =>
        (s_l1In e3 p_lo p_hi).bind fun r4 =>
        bif (!r4) then
          some (.inr (.inr false))
        else
          some (.inl (w64 (st2 + 1)))
      else
        some (.inr (.inl ())) : Option ((Int) ⊕ (Unit ⊕ Bool)))) 0).bind fun o5 =>
  match o5 with
  | .inl _ =>
    some true
  | .inr y7 =>
    some y7
noncomputable def C108 : FnSpec := { ps := [.val (.slice (.int .i64)), .val (.int .i64), .val (.int .i64)], rs := [.val .bool], fn := fun x => s_l1All x.1 x.2.1 x.2.2 }
noncomputable def E108 : Env := { T := [(3, (.int .i64)), (38, (.slice (.int .i64)))], G := [(86, C86)], ro := [], loops := [(2, { keep := [1, 2, 9, 10], live := [.tv 11 (.int .i64)], outs := [(.exit 0, []), (.ret, [.tv 6 .bool])] })], joins := [] }
theorem E108_eq : ∀ x, afun E108 Try.f108 C108.ps C108.rs x = C108.fn x := fun x => by kernel_rfl
theorem S108 : Sound Try.prog 108 C108 := fun_sound (E := E108) ⟨good_T (by kernel_rfl), (good_cons S86 ⟨_, Try.func86, by kernel_rfl, by kernel_rfl⟩ good_nil), mixedOk, ins_nil⟩ Try.func108 rfl E108_eq
/-- spec.bkSignals -/
noncomputable def s_bkSignals (p_l : List Int) : Option (Bool) :=
  (s_l1In (p_l.length : Int) 1 3).bind fun r1 =>
  (bif r1 then
      (s_l1All p_l 1 60).bind fun r2 =>
      some r2
    else
      some false).bind fun c3 =>
  some c3
noncomputable def C101 : FnSpec := { ps := [.val (.slice (.int .i64))], rs := [.val .bool], fn := fun x => s_bkSignals x }
noncomputable def E101 : Env := { T := [(38, (.slice (.int .i64)))], G := [(86, C86), (108, C108)], ro := [], loops := [], joins := [] }
theorem E101_eq : ∀ x, afun E101 Try.f101 C101.ps C101.rs x = C101.fn x := fun x => by kernel_rfl
theorem S101 : Sound Try.prog 101 C101 := fun_sound (E := E101) ⟨good_T (by kernel_rfl), (good_cons S86 ⟨_, Try.func86, by kernel_rfl, by kernel_rfl⟩ (good_cons S108 ⟨_, Try.func108, by kernel_rfl, by kernel_rfl⟩ good_nil)), mixedOk, ins_nil⟩ Try.func101 rfl E101_eq
/-- spec.l1Same -/
noncomputable def s_l1Same (p_a : List Int) (p_b : List Int) : Option (Bool) :=
  bif (!decide ((p_a.length : Int) = (p_b.length : Int))) then
    some false
  else
    (loopE (fun (st2 : Int) => (
        bif (decide (st2 < (p_a.length : Int))) then
          (idx p_a st2).bind fun e3 =>
          (idx p_b st2).bind fun e4 =>
          bif (!decide (e3 = e4)) then
            some (.inr (.inr false))
          else
            some (.inl (w64 (st2 + 1)))
        else
          some (.inr (.inl ())) : Option ((Int) ⊕ (Unit ⊕ Bool)))) 0).bind fun o5 =>
    match o5 with
    | .inl _ =>
      some true
    | .inr y7 =>
      some y7
noncomputable def C132 : FnSpec := { ps := [.val (.slice (.int .i64)), .val (.slice (.int .i64))], rs := [.val .bool], fn := fun x => s_l1Same x.1 x.2 }
noncomputable def E132 : Env := { T := [(3, (.int .i64)), (38, (.slice (.int .i64)))], G := [], ro := [], loops := [(4, { keep := [0, 1, 12], live := [.tv 13 (.int .i64)], outs := [(.exit 0, []), (.ret, [.tv 4 .bool])] })], joins := [] }
theorem E132_eq : ∀ x, afun E132 Try.f132 C132.ps C132.rs x = C132.fn x := fun x => by kernel_rfl
theorem S132 : Sound Try.prog 132 C132 := fun_sound (E := E132) ⟨good_T (by kernel_rfl), good_nil, mixedOk, ins_nil⟩ Try.func132 rfl E132_eq
/-- spec.bkOf -/
noncomputable def s_bkOf (p_b : GBook) (p_l : List Int) : Option (Int) :=
  (loopE (fun (st2 : Int) => (
      bif (decide (st2 < (p_b.1.length : Int))) then
        (idx p_b.1 st2).bind fun e3 =>
        (s_l1Same e3.2.1 p_l).bind fun r4 =>
        bif r4 then
          some (.inr (.inr st2))
        else
          some (.inl (w64 (st2 + 1)))
      else
        some (.inr (.inl ())) : Option ((Int) ⊕ (Unit ⊕ Int)))) 0).bind fun o5 =>
  match o5 with
  | .inl _ =>
    some (-1)
  | .inr y7 =>
    some y7
noncomputable def C102 : FnSpec := { ps := [.val TGBook, .val (.slice (.int .i64))], rs := [.val (.int .i64)], fn := fun x => s_bkOf x.1 x.2 }
noncomputable def E102 : Env := { T := [(30, (.slice TGPhrase)), (32, TGBook), (38, (.slice (.int .i64))), (61, TGPhrase)], G := [(132, C132)], ro := [2], loops := [(2, { keep := [1, 8, 9], live := [.tv 10 (.int .i64)], outs := [(.exit 0, []), (.ret, [.tv 4 (.int .i64)])] })], joins := [] }
theorem E102_eq : ∀ x, afun E102 Try.f102 C102.ps C102.rs x = C102.fn x := fun x => by kernel_rfl
theorem S102 : Sound Try.prog 102 C102 := fun_sound (E := E102) ⟨good_T (by kernel_rfl), (good_cons S132 ⟨_, Try.func132, by kernel_rfl, by kernel_rfl⟩ good_nil), mixedOk, ins_nil⟩ Try.func102 rfl E102_eq
/-- spec.bkGood -/
noncomputable def s_bkGood (p_b : GBook) : Option (Bool) :=
  (loopE (fun (st2 : Int) => (
      bif (decide (st2 < (p_b.1.length : Int))) then
        (idx p_b.1 st2).bind fun e3 =>
        (s_bkPhraseText e3.1).bind fun r4 =>
        (bif (!r4) then
            some true
          else
            (s_bkSignals e3.2.1).bind fun r5 =>
            some (!r5)).bind fun c6 =>
        (bif c6 then
            some true
          else
            (bif (decide (0 < st2)) then
                (idx p_b.1 (w64 (st2 - 1))).bind fun e7 =>
                some (!Op.bytesLess e7.1 e3.1)
              else
                some false).bind fun c8 =>
            some c8).bind fun c9 =>
        (bif c9 then
            some true
          else
            (s_bkOf p_b e3.2.1).bind fun r10 =>
            some (!decide (r10 = st2))).bind fun c11 =>
        bif c11 then
          some (.inr (.inr false))
        else
          some (.inl (w64 (st2 + 1)))
      else
        some (.inr (.inl ())) : Option ((Int) ⊕ (Unit ⊕ Bool)))) 0).bind fun o12 =>
  match o12 with
  | .inl _ =>
    (s_l1In (p_b.1.length : Int) 1 40).bind fun r15 =>
    some r15
  | .inr y14 =>
    some y14
noncomputable def C53 : FnSpec := { ps := [.val TGBook], rs := [.val .bool], fn := fun x => s_bkGood x }
noncomputable def E53 : Env := { T := [(9, .str), (30, (.slice TGPhrase)), (32, TGBook), (38, (.slice (.int .i64))), (61, TGPhrase)], G := [(86, C86), (100, C100), (101, C101), (102, C102)], ro := [1], loops := [(2, { keep := [1, 6, 7], live := [.tv 8 (.int .i64)], outs := [(.exit 0, []), (.ret, [.tv 2 .bool])] })], joins := [] }
theorem E53_eq : ∀ x, afun E53 Try.f53 C53.ps C53.rs x = C53.fn x := fun x => by kernel_rfl
theorem S53 : Sound Try.prog 53 C53 := fun_sound (E := E53) ⟨good_T (by kernel_rfl), (good_cons S86 ⟨_, Try.func86, by kernel_rfl, by kernel_rfl⟩ (good_cons S100 ⟨_, Try.func100, by kernel_rfl, by kernel_rfl⟩ (good_cons S101 ⟨_, Try.func101, by kernel_rfl, by kernel_rfl⟩ (good_cons S102 ⟨_, Try.func102, by kernel_rfl, by kernel_rfl⟩ good_nil)))), mixedOk, ins_nil⟩ Try.func53 rfl E53_eq
/-- spec.msAsked -/
noncomputable def s_msAsked (p_b : GBook) (p_weights : List Int) : Option (Bool) :=
  (s_bkGood p_b).bind fun r1 =>
  (bif r1 then
      some (decide ((p_weights.length : Int) = (p_b.1.length : Int)))
    else
      some false).bind fun c2 =>
  (bif c2 then
      (s_l1All p_weights 0 10000).bind fun r3 =>
      some r3
    else
      some false).bind fun c4 =>
  some c4
noncomputable def C61 : FnSpec := { ps := [.val TGBook, .val (.slice (.int .i64))], rs := [.val .bool], fn := fun x => s_msAsked x.1 x.2 }
noncomputable def E61 : Env := { T := [(30, (.slice TGPhrase)), (32, TGBook), (38, (.slice (.int .i64)))], G := [(53, C53), (108, C108)], ro := [2], loops := [], joins := [] }
theorem E61_eq : ∀ x, afun E61 Try.f61 C61.ps C61.rs x = C61.fn x := fun x => by kernel_rfl
theorem S61 : Sound Try.prog 61 C61 := fun_sound (E := E61) ⟨good_T (by kernel_rfl), (good_cons S53 ⟨_, Try.func53, by kernel_rfl, by kernel_rfl⟩ (good_cons S108 ⟨_, Try.func108, by kernel_rfl, by kernel_rfl⟩ good_nil)), mixedOk, ins_nil⟩ Try.func61 rfl E61_eq
/-- spec.l1Own -/
noncomputable def s_l1Own (p_l : List Int) : Option ((List Int)) :=
  bif decide (List.length p_l ≤ lim) then
    some p_l
  else
    none
noncomputable def C64 : FnSpec := { ps := [.val (.slice (.int .i64))], rs := [.own (.slice (.int .i64))], fn := fun x => s_l1Own x }
noncomputable def E64 : Env := { T := [(38, (.slice (.int .i64)))], G := [], ro := [], loops := [], joins := [] }
theorem E64_eq : ∀ x, afun E64 Try.f64 C64.ps C64.rs x = C64.fn x := fun x => by kernel_rfl
theorem S64 : Sound Try.prog 64 C64 := fun_sound (E := E64) ⟨good_T (by kernel_rfl), good_nil, mixedOk, ins_nil⟩ Try.func64 rfl E64_eq
/-- spec.bkOwn -/
noncomputable def s_bkOwn (p_l : List GPhrase) : Option ((List GPhrase)) :=
  (loopE (fun (st2 : (List GPhrase) × Int) => (
      bif (decide (st2.2 < (p_l.length : Int))) then
        (idx p_l st2.2).bind fun e3 =>
        (s_l1Own e3.2.1).bind fun r4 =>
        bif decide (List.length st2.1 + List.length [(e3.1, r4, ())] ≤ lim) then
          some (.inl ((st2.1 ++ [(e3.1, r4, ())]), (w64 (st2.2 + 1))))
        else
          none
      else
        some (.inr st2.1) : Option (((List GPhrase) × Int) ⊕ ((List GPhrase))))) ([], 0)).bind fun o5 =>
  some o5
noncomputable def C62 : FnSpec := { ps := [.val (.slice TGPhrase)], rs := [.own (.slice TGPhrase)], fn := fun x => s_bkOwn x }
noncomputable def E62 : Env := { T := [(9, .str), (30, (.slice TGPhrase)), (38, (.slice (.int .i64))), (61, TGPhrase)], G := [(64, C64)], ro := [], loops := [(3, { keep := [6, 7], live := [.own 3 [] 200003 TGPhrase true, .tv 8 (.int .i64)], outs := [(.exit 0, [.own 3 [] 200003 TGPhrase true])] })], joins := [], mv := true, hoist := [(5, [0])] }
theorem E62_eq : ∀ x, afun E62 Try.f62 C62.ps C62.rs x = C62.fn x := fun x => by kernel_rfl
theorem S62 : Sound Try.prog 62 C62 := fun_sound (E := E62) ⟨good_T (by kernel_rfl), (good_cons S64 ⟨_, Try.func64, by kernel_rfl, by kernel_rfl⟩ good_nil), mixedOk, ins_nil⟩ Try.func62 rfl E62_eq
/-- spec.cmOrder -/
noncomputable def s_cmOrder (p_weights : List Int) : Option ((List Int)) :=
  (loopE (fun (st2 : (List Int) × Int) => (
      bif (decide (st2.2 < (p_weights.length : Int))) then
        (idx p_weights st2.2).bind fun e3 =>
        (loopE (fun (st5 : (List Int) × Int) => (
            (bif (decide (0 < st5.2)) then
                bif decide (0 ≤ (w64 (st5.2 - 1))) && decide ((w64 (st5.2 - 1)) < (st5.1.length : Int)) then
                  (st5.1[(Int.toNat (w64 (st5.2 - 1)))]?).bind fun e6 =>
                  (idx p_weights e6).bind fun e7 =>
                  some (decide (e7 < e3))
                else
                  none
              else
                some false).bind fun c8 =>
            bif c8 then
              some (.inl (st5.1, (w64 (st5.2 - 1))))
            else
              some (.inr (st5.1, st5.2)) : Option (((List Int) × Int) ⊕ (((List Int) × Int))))) (st2.1, (st2.1.length : Int))).bind fun o9 =>
        (sub o9.1 0 o9.2).bind fun l10 =>
        (s_l1Own l10).bind fun r11 =>
        (sub o9.1 o9.2 (o9.1.length : Int)).bind fun l12 =>
        bif decide (List.length r11 + List.length [st2.2] ≤ lim) then
          bif decide (List.length (r11 ++ [st2.2]) + List.length l12 ≤ lim) then
            some (.inl (((r11 ++ [st2.2]) ++ l12), (w64 (st2.2 + 1))))
          else
            none
        else
          none
      else
        some (.inr st2.1) : Option (((List Int) × Int) ⊕ ((List Int))))) ([], 0)).bind fun o13 =>
  some o13
noncomputable def C63 : FnSpec := { ps := [.val (.slice (.int .i64))], rs := [.own (.slice (.int .i64))], fn := fun x => s_cmOrder x }
noncomputable def E63 : Env := { T := [(3, (.int .i64)), (38, (.slice (.int .i64)))], G := [(64, C64)], ro := [], loops := [(3, { keep := [0, 7, 8], live := [.own 3 [] 200003 (.int .i64) true, .tv 9 (.int .i64)], outs := [(.exit 0, [.own 3 [] 200003 (.int .i64) true])] }), (6, { keep := [0, 4, 5, 7, 8, 9], live := [.own 3 [] 200003 (.int .i64) true, .tv 6 (.int .i64)], outs := [(.exit 2, [.own 3 [] 200003 (.int .i64) true, .tv 6 (.int .i64)])] })], joins := [], pre := [(8, [200003])] }
theorem E63_eq : ∀ x, afun E63 Try.f63 C63.ps C63.rs x = C63.fn x := fun x => by kernel_rfl
theorem S63 : Sound Try.prog 63 C63 := fun_sound (E := E63) ⟨good_T (by kernel_rfl), (good_cons S64 ⟨_, Try.func64, by kernel_rfl, by kernel_rfl⟩ good_nil), mixedOk, ins_nil⟩ Try.func63 rfl E63_eq
/-- spec.DealAnew -/
noncomputable def s_DealAnew (p_b : GBook) (p_weights : List Int) : Option (GBook × Bool) :=
  (s_msAsked p_b p_weights).bind fun r1 =>
  bif (!r1) then
    some (([], ()), false)
  else
    (loopE (fun (st3 : (List GPhrase) × (List Int) × Int) => (
        bif (decide (st3.2.2 ≤ 3)) then
          (loopE (fun (st5 : (List GPhrase) × (List Int) × Int) => (
              bif (decide (st5.2.2 < (p_b.1.length : Int))) then
                (idx p_b.1 st5.2.2).bind fun e6 =>
                bif (decide ((e6.2.1.length : Int) = st3.2.2)) then
                  bif decide (List.length st5.2.1 + List.length [st5.2.2] ≤ lim) then
                    some (.inl (st5.1, (st5.2.1 ++ [st5.2.2]), (w64 (st5.2.2 + 1))))
                  else
                    none
                else
                  some (.inl (st5.1, st5.2.1, (w64 (st5.2.2 + 1))))
              else
                some (.inr (st5.1, st5.2.1)) : Option (((List GPhrase) × (List Int) × Int) ⊕ (((List GPhrase) × (List Int)))))) (st3.1, st3.2.1, 0)).bind fun o7 =>
          some (.inl (o7.1, o7.2, (w64 (st3.2.2 + 1))))
        else
          some (.inr (st3.1, st3.2.1)) : Option (((List GPhrase) × (List Int) × Int) ⊕ (((List GPhrase) × (List Int)))))) ([], [], 1)).bind fun o8 =>
    (s_bkOwn p_b.1).bind fun r9 =>
    (s_cmOrder p_weights).bind fun r10 =>
    (loopE (fun (st12 : (List GPhrase) × (List Int) × (List GPhrase) × (List Int) × Int) => (
        bif (decide (st12.2.2.2.2 < (r10.length : Int))) then
          bif decide (0 ≤ st12.2.2.2.2) && decide (st12.2.2.2.2 < (st12.2.2.2.1.length : Int)) then
            (st12.2.2.2.1[(Int.toNat st12.2.2.2.2)]?).bind fun e13 =>
            bif decide (0 ≤ st12.2.2.2.2) && decide (st12.2.2.2.2 < (st12.2.1.length : Int)) then
              (st12.2.1[(Int.toNat st12.2.2.2.2)]?).bind fun e14 =>
              (idx p_b.1 e14).bind fun e15 =>
              (s_l1Own e15.2.1).bind fun r16 =>
              bif decide (0 ≤ e13) && decide (e13 < (st12.2.2.1.length : Int)) then
                (st12.2.2.1[(Int.toNat e13)]?).bind fun e17 =>
                some (.inl (st12.1, st12.2.1, (st12.2.2.1.set (Int.toNat e13) (e17.1, r16, ())), st12.2.2.2.1, (w64 (st12.2.2.2.2 + 1))))
              else
                none
            else
              none
          else
            none
        else
          some (.inr (st12.1, st12.2.2.1)) : Option (((List GPhrase) × (List Int) × (List GPhrase) × (List Int) × Int) ⊕ (((List GPhrase) × (List GPhrase)))))) (o8.1, o8.2, r9, r10, 0)).bind fun o18 =>
    some ((o18.2, ()), true)
noncomputable def C15 : FnSpec := { ps := [.val TGBook, .val (.slice (.int .i64))], rs := [.own TGBook, .val .bool], fn := fun x => s_DealAnew x.1 x.2 }
noncomputable def E15 : Env := { T := [(3, (.int .i64)), (30, (.slice TGPhrase)), (32, TGBook), (38, (.slice (.int .i64))), (61, TGPhrase)], G := [(61, C61), (62, C62), (63, C63), (64, C64)], ro := [2], loops := [(5, { keep := [1, 2], live := [.bx 4 64 [.own 300064 TGPhrase true], .own 6 [] 200006 (.int .i64) true, .tv 7 (.int .i64)], outs := [(.exit 0, [.bx 4 64 [.own 300064 TGPhrase true], .own 6 [] 200006 (.int .i64) true])] }), (8, { keep := [1, 2, 7, 23, 24], live := [.bx 4 64 [.own 300064 TGPhrase true], .own 6 [] 200006 (.int .i64) true, .tv 25 (.int .i64)], outs := [(.exit 2, [.bx 4 64 [.own 300064 TGPhrase true], .own 6 [] 200006 (.int .i64) true])] }), (15, { keep := [2, 46], live := [.bx 4 64 [.own 300064 TGPhrase true], .own 6 [] 200006 (.int .i64) true, .bx 10 160 [.own 672 TGPhrase true], .own 45 [] 720 (.int .i64) true, .tv 47 (.int .i64)], outs := [(.exit 4, [.bx 4 64 [.own 300064 TGPhrase true], .bx 10 160 [.own 672 TGPhrase true]])] })], joins := [], mv := true }
theorem E15_eq : ∀ x, afun E15 Try.f15 C15.ps C15.rs x = C15.fn x := fun x => by kernel_rfl
theorem S15 : Sound Try.prog 15 C15 := fun_sound (E := E15) ⟨good_T (by kernel_rfl), (good_cons S61 ⟨_, Try.func61, by kernel_rfl, by kernel_rfl⟩ (good_cons S62 ⟨_, Try.func62, by kernel_rfl, by kernel_rfl⟩ (good_cons S63 ⟨_, Try.func63, by kernel_rfl, by kernel_rfl⟩ (good_cons S64 ⟨_, Try.func64, by kernel_rfl, by kernel_rfl⟩ good_nil)))), mixedOk, ins_nil⟩ Try.func15 rfl E15_eq
/-- impl.within -/
noncomputable def i_within (p_n : Int) (p_low : Int) (p_high : Int) : Option (Bool) :=
  (bif (decide (p_low ≤ p_n)) then
      some (decide (p_n ≤ p_high))
    else
      some false).bind fun c1 =>
  some c1
noncomputable def C84 : FnSpec := { ps := [.val (.int .i64), .val (.int .i64), .val (.int .i64)], rs := [.val .bool], fn := fun x => i_within x.1 x.2.1 x.2.2 }
noncomputable def E84 : Env := { T := [], G := [], ro := [], loops := [], joins := [] }
theorem E84_eq : ∀ x, afun E84 Try.f84 C84.ps C84.rs x = C84.fn x := fun x => by kernel_rfl
theorem S84 : Sound Try.prog 84 C84 := fun_sound (E := E84) ⟨good_T (by kernel_rfl), good_nil, mixedOk, ins_nil⟩ Try.func84 rfl E84_eq
/-- impl.allWithin -/
noncomputable def i_allWithin (p_l : List Int) (p_low : Int) (p_high : Int) : Option (Bool) :=
  (loopE (fun (st2 : Int) => (
      bif (decide (st2 < (p_l.length : Int))) then
        (idx p_l st2).bind fun e3 =>
        (i_within e3 p_low p_high).bind fun r4 =>
        bif (!r4) then
          some (.inr (.inr false))
        else
          some (.inl (w64 (st2 + 1)))
      else
        some (.inr (.inl ())) : Option ((Int) ⊕ (Unit ⊕ Bool)))) 0).bind fun o5 =>
  match o5 with
  | .inl _ =>
    some true
  | .inr y7 =>
    some y7
noncomputable def C109 : FnSpec := { ps := [.val (.slice (.int .i64)), .val (.int .i64), .val (.int .i64)], rs := [.val .bool], fn := fun x => i_allWithin x.1 x.2.1 x.2.2 }
noncomputable def E109 : Env := { T := [(3, (.int .i64)), (38, (.slice (.int .i64)))], G := [(84, C84)], ro := [], loops := [(2, { keep := [1, 2, 9, 10], live := [.tv 11 (.int .i64)], outs := [(.exit 0, []), (.ret, [.tv 6 .bool])] })], joins := [] }
theorem E109_eq : ∀ x, afun E109 Try.f109 C109.ps C109.rs x = C109.fn x := fun x => by kernel_rfl
theorem S109 : Sound Try.prog 109 C109 := fun_sound (E := E109) ⟨good_T (by kernel_rfl), (good_cons S84 ⟨_, Try.func84, by kernel_rfl, by kernel_rfl⟩ good_nil), mixedOk, ins_nil⟩ Try.func109 rfl E109_eq
/-- impl.isSmall -/
noncomputable def i_isSmall (p_s : Bytes) : Option (Bool) :=
  (loopE (fun (st2 : Int) => (
      bif (decide (st2 < (p_s.length : Int))) then
        (idx p_s st2).bind fun b3 =>
        (bif (decide ((b3.toNat : Int) < 97)) then
            some true
          else
            (idx p_s st2).bind fun b4 =>
            some (decide (122 < (b4.toNat : Int)))).bind fun c5 =>
        bif c5 then
          some (.inr (.inr false))
        else
          some (.inl (w64 (st2 + 1)))
      else
        some (.inr (.inl ())) : Option ((Int) ⊕ (Unit ⊕ Bool)))) 0).bind fun o6 =>
  match o6 with
  | .inl _ =>
    some true
  | .inr y8 =>
    some y8
noncomputable def C106 : FnSpec := { ps := [.val .str], rs := [.val .bool], fn := fun x => i_isSmall x }
noncomputable def E106 : Env := { T := [(9, .str)], G := [], ro := [], loops := [(2, { keep := [0], live := [.tv 3 (.int .i64)], outs := [(.exit 0, []), (.ret, [.tv 2 .bool])] })], joins := [] }
theorem E106_eq : ∀ x, afun E106 Try.f106 C106.ps C106.rs x = C106.fn x := fun x => by kernel_rfl
theorem S106 : Sound Try.prog 106 C106 := fun_sound (E := E106) ⟨good_T (by kernel_rfl), good_nil, mixedOk, ins_nil⟩ Try.func106 rfl E106_eq
/-- impl.IsPhraseText -/
noncomputable def i_IsPhraseText (p_s : Bytes) : Option (Bool) :=
  (bif (decide (1 ≤ (p_s.length : Int))) then
      some (decide ((p_s.length : Int) ≤ 12))
    else
      some false).bind fun c1 =>
  (bif c1 then
      (i_isSmall p_s).bind fun r2 =>
      some r2
    else
      some false).bind fun c3 =>
  some c3
noncomputable def C126 : FnSpec := { ps := [.val .str], rs := [.val .bool], fn := fun x => i_IsPhraseText x }
noncomputable def E126 : Env := { T := [(9, .str)], G := [(106, C106)], ro := [], loops := [], joins := [] }
theorem E126_eq : ∀ x, afun E126 Try.f126 C126.ps C126.rs x = C126.fn x := fun x => by kernel_rfl
theorem S126 : Sound Try.prog 126 C126 := fun_sound (E := E126) ⟨good_T (by kernel_rfl), (good_cons S106 ⟨_, Try.func106, by kernel_rfl, by kernel_rfl⟩ good_nil), mixedOk, ins_nil⟩ Try.func126 rfl E126_eq
/-- impl.isPhrase -/
noncomputable def i_isPhrase (p_x : GPhrase) : Option (Bool) :=
  (i_IsPhraseText p_x.1).bind fun r1 =>
  (bif r1 then
      (i_within (p_x.2.1.length : Int) 1 3).bind fun r2 =>
      some r2
    else
      some false).bind fun c3 =>
  (bif c3 then
      (i_allWithin p_x.2.1 1 60).bind fun r4 =>
      some r4
    else
      some false).bind fun c5 =>
  some c5
noncomputable def C97 : FnSpec := { ps := [.val TGPhrase], rs := [.val .bool], fn := fun x => i_isPhrase x }
noncomputable def E97 : Env := { T := [(9, .str), (38, (.slice (.int .i64))), (61, TGPhrase)], G := [(84, C84), (109, C109), (126, C126)], ro := [1], loops := [], joins := [] }
theorem E97_eq : ∀ x, afun E97 Try.f97 C97.ps C97.rs x = C97.fn x := fun x => by kernel_rfl
theorem S97 : Sound Try.prog 97 C97 := fun_sound (E := E97) ⟨good_T (by kernel_rfl), (good_cons S84 ⟨_, Try.func84, by kernel_rfl, by kernel_rfl⟩ (good_cons S109 ⟨_, Try.func109, by kernel_rfl, by kernel_rfl⟩ (good_cons S126 ⟨_, Try.func126, by kernel_rfl, by kernel_rfl⟩ good_nil))), mixedOk, ins_nil⟩ Try.func97 rfl E97_eq
/-- slices.Equal[[]int,int] -/
noncomputable def slices_Equal_int (p_s1 : List Int) (p_s2 : List Int) : Option (Bool) :=
  bif (!decide ((p_s1.length : Int) = (p_s2.length : Int))) then
    some false
  else
    (loopE (fun (st2 : Int) => (
        bif (decide (st2 < (p_s1.length : Int))) then
          (idx p_s1 st2).bind fun e3 =>
          (idx p_s2 st2).bind fun e4 =>
          bif (!decide (e3 = e4)) then
            some (.inr (.inr false))
          else
            some (.inl (w64 (st2 + 1)))
        else
          some (.inr (.inl ())) : Option ((Int) ⊕ (Unit ⊕ Bool)))) 0).bind fun o5 =>
    match o5 with
    | .inl _ =>
      some true
    | .inr y7 =>
      some y7
noncomputable def C129 : FnSpec := { ps := [.val (.slice (.int .i64)), .val (.slice (.int .i64))], rs := [.val .bool], fn := fun x => slices_Equal_int x.1 x.2 }
noncomputable def E129 : Env := { T := [(3, (.int .i64)), (38, (.slice (.int .i64)))], G := [], ro := [], loops := [(4, { keep := [0, 1, 12], live := [.tv 13 (.int .i64)], outs := [(.exit 0, []), (.ret, [.tv 4 .bool])] })], joins := [] }
theorem E129_eq : ∀ x, afun E129 Try.f129 C129.ps C129.rs x = C129.fn x := fun x => by kernel_rfl
theorem S129 : Sound Try.prog 129 C129 := fun_sound (E := E129) ⟨good_T (by kernel_rfl), good_nil, mixedOk, ins_nil⟩ Try.func129 rfl E129_eq
/-- impl.phraseIndex$1 -/
noncomputable def i_phraseIndex_1 (p_x : GPhrase) (p_a1 : List Int) : Option (Bool) :=
  (slices_Equal_int p_x.2.1 p_a1).bind fun r1 =>
  some r1
noncomputable def C128 : FnSpec := { ps := [.val TGPhrase, .rp (.slice (.int .i64))], rs := [.val .bool], fn := fun x => i_phraseIndex_1 x.1 x.2 }
noncomputable def E128 : Env := { T := [(38, (.slice (.int .i64))), (61, TGPhrase)], G := [(129, C129)], ro := [2], loops := [], joins := [] }
theorem E128_eq : ∀ x, afun E128 Try.f128 C128.ps C128.rs x = C128.fn x := fun x => by kernel_rfl
theorem S128 : Sound Try.prog 128 C128 := fun_sound (E := E128) ⟨good_T (by kernel_rfl), (good_cons S129 ⟨_, Try.func129, by kernel_rfl, by kernel_rfl⟩ good_nil), mixedOk, ins_nil⟩ Try.func128 rfl E128_eq
/-- slices.IndexFunc[[]impl.Phrase,impl.Phrase] -/
noncomputable def slices_IndexFunc_Phrase_128 (p_s : List GPhrase) (p_f : (List Int) × Unit) : Option (Int) :=
  (loopE (fun (st2 : Int) => (
      bif (decide (st2 < (p_s.length : Int))) then
        (idx p_s st2).bind fun e3 =>
        (i_phraseIndex_1 e3 p_f.1).bind fun r4 =>
        bif r4 then
          some (.inr (.inr st2))
        else
          some (.inl (w64 (st2 + 1)))
      else
        some (.inr (.inl ())) : Option ((Int) ⊕ (Unit ⊕ Int)))) 0).bind fun o5 =>
  match o5 with
  | .inl _ =>
    some (-1)
  | .inr y7 =>
    some y7
noncomputable def C127_128 : FnSpec := { ps := [.val (.slice TGPhrase), .fn 128 [(.slice (.int .i64))]], rs := [.val (.int .i64)], fn := fun x => slices_IndexFunc_Phrase_128 x.1 x.2 }
noncomputable def E127_128 : Env := { T := [(30, (.slice TGPhrase)), (61, TGPhrase)], G := [(128, C128)], ro := [], loops := [(2, { keep := [0, 1, 7], live := [.tv 8 (.int .i64)], outs := [(.exit 0, []), (.ret, [.tv 4 (.int .i64)])] })], joins := [] }
theorem E127_128_eq : ∀ x, afun E127_128 Try.f127 C127_128.ps C127_128.rs x = C127_128.fn x := fun x => by kernel_rfl
theorem S127_128 : Sound Try.prog 127 C127_128 := fun_sound (E := E127_128) ⟨good_T (by kernel_rfl), (good_cons S128 ⟨_, Try.func128, by kernel_rfl, by kernel_rfl⟩ good_nil), mixedOk, ins_nil⟩ Try.func127 rfl E127_128_eq
/-- impl.phraseIndex -/
noncomputable def i_phraseIndex (p_b : GBook) (p_signals : List Int) : Option (Int) :=
  (slices_IndexFunc_Phrase_128 p_b.1 (p_signals, ())).bind fun r1 =>
  some r1
noncomputable def C98 : FnSpec := { ps := [.val TGBook, .val (.slice (.int .i64))], rs := [.val (.int .i64)], fn := fun x => i_phraseIndex x.1 x.2 }
noncomputable def E98 : Env := { T := [(30, (.slice TGPhrase)), (32, TGBook), (38, (.slice (.int .i64)))], G := [(127, C127_128)], ro := [2, 3], loops := [], joins := [] }
theorem E98_eq : ∀ x, afun E98 Try.f98 C98.ps C98.rs x = C98.fn x := fun x => by kernel_rfl
theorem S98 : Sound Try.prog 98 C98 := fun_sound (E := E98) ⟨good_T (by kernel_rfl), (good_cons S127_128 ⟨_, Try.func127, by kernel_rfl, by kernel_rfl⟩ good_nil), mixedOk, ins_nil⟩ Try.func98 rfl E98_eq
/-- impl.IsBook -/
noncomputable def i_IsBook (p_b : GBook) : Option (Bool) :=
  (i_within (p_b.1.length : Int) 1 40).bind fun r1 =>
  bif (!r1) then
    some false
  else
    (loopE (fun (st3 : Int) => (
        bif (decide (st3 < (p_b.1.length : Int))) then
          (idx p_b.1 st3).bind fun e4 =>
          (i_isPhrase e4).bind fun r5 =>
          (bif (!r5) then
              some true
            else
              (bif (decide (0 < st3)) then
                  (idx p_b.1 (w64 (st3 - 1))).bind fun e6 =>
                  some (!Op.bytesLess e6.1 e4.1)
                else
                  some false).bind fun c7 =>
              some c7).bind fun c8 =>
          (bif c8 then
              some true
            else
              (sub p_b.1 0 st3).bind fun l9 =>
              (i_phraseIndex (l9, ()) e4.2.1).bind fun r10 =>
              some (decide (0 ≤ r10))).bind fun c11 =>
          bif c11 then
            some (.inr (.inr false))
          else
            some (.inl (w64 (st3 + 1)))
        else
          some (.inr (.inl ())) : Option ((Int) ⊕ (Unit ⊕ Bool)))) 0).bind fun o12 =>
    match o12 with
    | .inl _ =>
      some true
    | .inr y14 =>
      some y14
noncomputable def C49 : FnSpec := { ps := [.val TGBook], rs := [.val .bool], fn := fun x => i_IsBook x }
noncomputable def E49 : Env := { T := [(9, .str), (30, (.slice TGPhrase)), (32, TGBook), (38, (.slice (.int .i64))), (61, TGPhrase)], G := [(84, C84), (97, C97), (98, C98)], ro := [1], loops := [(4, { keep := [1, 11, 12], live := [.tv 13 (.int .i64)], outs := [(.exit 0, []), (.ret, [.tv 2 .bool])] })], joins := [] }
theorem E49_eq : ∀ x, afun E49 Try.f49 C49.ps C49.rs x = C49.fn x := fun x => by kernel_rfl
theorem S49 : Sound Try.prog 49 C49 := fun_sound (E := E49) ⟨good_T (by kernel_rfl), (good_cons S84 ⟨_, Try.func84, by kernel_rfl, by kernel_rfl⟩ (good_cons S97 ⟨_, Try.func97, by kernel_rfl, by kernel_rfl⟩ (good_cons S98 ⟨_, Try.func98, by kernel_rfl, by kernel_rfl⟩ good_nil))), mixedOk, ins_nil⟩ Try.func49 rfl E49_eq
/-- impl.areBookWeights -/
noncomputable def i_areBookWeights (p_b : GBook) (p_weights : List Int) : Option (Bool) :=
  (bif (decide ((p_weights.length : Int) = (p_b.1.length : Int))) then
      (i_allWithin p_weights 0 10000).bind fun r1 =>
      some r1
    else
      some false).bind fun c2 =>
  some c2
noncomputable def C65 : FnSpec := { ps := [.val TGBook, .val (.slice (.int .i64))], rs := [.val .bool], fn := fun x => i_areBookWeights x.1 x.2 }
noncomputable def E65 : Env := { T := [(30, (.slice TGPhrase)), (32, TGBook), (38, (.slice (.int .i64)))], G := [(109, C109)], ro := [2], loops := [], joins := [] }
theorem E65_eq : ∀ x, afun E65 Try.f65 C65.ps C65.rs x = C65.fn x := fun x => by kernel_rfl
theorem S65 : Sound Try.prog 65 C65 := fun_sound (E := E65) ⟨good_T (by kernel_rfl), (good_cons S109 ⟨_, Try.func109, by kernel_rfl, by kernel_rfl⟩ good_nil), mixedOk, ins_nil⟩ Try.func65 rfl E65_eq
/-- impl.firstChoice -/
noncomputable def i_firstChoice (p_k : Int) : Option ((List Int)) :=
  bif decide (0 ≤ p_k) && decide (p_k ≤ p_k) && decide (p_k ≤ lim) then
    (loopE (fun (st2 : (List Int) × Int) => (
        bif (decide (st2.2 < ((List.replicate (Int.toNat p_k) (0 : Int)).length : Int))) then
          bif decide (0 ≤ st2.2) && decide (st2.2 < (st2.1.length : Int)) then
            some (.inl ((st2.1.set (Int.toNat st2.2) st2.2), (w64 (st2.2 + 1))))
          else
            none
        else
          some (.inr st2.1) : Option (((List Int) × Int) ⊕ ((List Int))))) ((List.replicate (Int.toNat p_k) (0 : Int)), 0)).bind fun o3 =>
    some o3
  else
    none
noncomputable def C66 : FnSpec := { ps := [.val (.int .i64)], rs := [.own (.slice (.int .i64))], fn := fun x => i_firstChoice x }
noncomputable def E66 : Env := { T := [(3, (.int .i64)), (38, (.slice (.int .i64)))], G := [], ro := [], loops := [(3, { keep := [8], live := [.own 3 [] 96 (.int .i64) true, .tv 9 (.int .i64)], outs := [(.exit 0, [.own 3 [] 96 (.int .i64) true])] })], joins := [] }
theorem E66_eq : ∀ x, afun E66 Try.f66 C66.ps C66.rs x = C66.fn x := fun x => by kernel_rfl
theorem S66 : Sound Try.prog 66 C66 := fun_sound (E := E66) ⟨good_T (by kernel_rfl), good_nil, mixedOk, ins_nil⟩ Try.func66 rfl E66_eq
/-- cmp.isNaN[int] -/
noncomputable def cmp_isNaN_int (p_x : Int) : Option (Bool) :=
  some (!decide (p_x = p_x))
noncomputable def C111 : FnSpec := { ps := [.val (.int .i64)], rs := [.val .bool], fn := fun x => cmp_isNaN_int x }
noncomputable def E111 : Env := { T := [], G := [], ro := [], loops := [], joins := [] }
theorem E111_eq : ∀ x, afun E111 Try.f111 C111.ps C111.rs x = C111.fn x := fun x => by kernel_rfl
theorem S111 : Sound Try.prog 111 C111 := fun_sound (E := E111) ⟨good_T (by kernel_rfl), good_nil, mixedOk, ins_nil⟩ Try.func111 rfl E111_eq
/-- cmp.Compare[int] -/
noncomputable def cmp_Compare_int (p_x : Int) (p_y : Int) : Option (Int) :=
  (cmp_isNaN_int p_x).bind fun r1 =>
  (cmp_isNaN_int p_y).bind fun r2 =>
  bif r1 then
    bif r2 then
      some 0
    else
      some (-1)
  else
    bif r2 then
      some 1
    else
      bif (decide (p_x < p_y)) then
        some (-1)
      else
        bif (decide (p_y < p_x)) then
          some 1
        else
          some 0
noncomputable def C69 : FnSpec := { ps := [.val (.int .i64), .val (.int .i64)], rs := [.val (.int .i64)], fn := fun x => cmp_Compare_int x.1 x.2 }
noncomputable def E69 : Env := { T := [], G := [(111, C111)], ro := [], loops := [], joins := [] }
theorem E69_eq : ∀ x, afun E69 Try.f69 C69.ps C69.rs x = C69.fn x := fun x => by kernel_rfl
theorem S69 : Sound Try.prog 69 C69 := fun_sound (E := E69) ⟨good_T (by kernel_rfl), (good_cons S111 ⟨_, Try.func111, by kernel_rfl, by kernel_rfl⟩ good_nil), mixedOk, ins_nil⟩ Try.func69 rfl E69_eq
/-- impl.DealAnew$1 -/
noncomputable def i_DealAnew_1 (p_i : Int) (p_k : Int) (p_a2 : GBook) : Option (Int) :=
  (idx p_a2.1 p_i).bind fun e1 =>
  (idx p_a2.1 p_k).bind fun e2 =>
  (cmp_Compare_int (e1.2.1.length : Int) (e2.2.1.length : Int)).bind fun r3 =>
  some r3
noncomputable def C68 : FnSpec := { ps := [.val (.int .i64), .val (.int .i64), .rp TGBook], rs := [.val (.int .i64)], fn := fun x => i_DealAnew_1 x.1 x.2.1 x.2.2 }
noncomputable def E68 : Env := { T := [(30, (.slice TGPhrase)), (32, TGBook), (38, (.slice (.int .i64))), (61, TGPhrase)], G := [(69, C69)], ro := [], loops := [], joins := [] }
theorem E68_eq : ∀ x, afun E68 Try.f68 C68.ps C68.rs x = C68.fn x := fun x => by kernel_rfl
theorem S68 : Sound Try.prog 68 C68 := fun_sound (E := E68) ⟨good_T (by kernel_rfl), (good_cons S69 ⟨_, Try.func69, by kernel_rfl, by kernel_rfl⟩ good_nil), mixedOk, ins_nil⟩ Try.func68 rfl E68_eq
/-- slices.insertionSortCmpFunc[int] -/
noncomputable def slices_insertionSortCmpFunc_int_68 (p_data : List Int) (p_a : Int) (p_b : Int) (p_cmp : GBook × Unit) : Option ((List Int)) :=
  (loopE (fun (st2 : (List Int) × Int) => (
      bif (decide (st2.2 < p_b)) then
        (loopE (fun (st4 : (List Int) × Int) => (
            (bif (decide (p_a < st4.2)) then
                bif decide (0 ≤ st4.2) && decide (st4.2 < (st4.1.length : Int)) then
                  (st4.1[(Int.toNat st4.2)]?).bind fun e5 =>
                  bif decide (0 ≤ (w64 (st4.2 - 1))) && decide ((w64 (st4.2 - 1)) < (st4.1.length : Int)) then
                    (st4.1[(Int.toNat (w64 (st4.2 - 1)))]?).bind fun e6 =>
                    (i_DealAnew_1 e5 e6 p_cmp.1).bind fun r7 =>
                    some (decide (r7 < 0))
                  else
                    none
                else
                  none
              else
                some false).bind fun c8 =>
            bif c8 then
              bif decide (0 ≤ (w64 (st4.2 - 1))) && decide ((w64 (st4.2 - 1)) < (st4.1.length : Int)) then
                (st4.1[(Int.toNat (w64 (st4.2 - 1)))]?).bind fun e9 =>
                bif decide (0 ≤ st4.2) && decide (st4.2 < (st4.1.length : Int)) then
                  (st4.1[(Int.toNat st4.2)]?).bind fun e10 =>
                  bif decide (0 ≤ st4.2) && decide (st4.2 < (st4.1.length : Int)) then
                    bif decide (0 ≤ (w64 (st4.2 - 1))) && decide ((w64 (st4.2 - 1)) < ((st4.1.set (Int.toNat st4.2) e9).length : Int)) then
                      some (.inl (((st4.1.set (Int.toNat st4.2) e9).set (Int.toNat (w64 (st4.2 - 1))) e10), (w64 (st4.2 - 1))))
                    else
                      none
                  else
                    none
                else
                  none
              else
                none
            else
              some (.inr st4.1) : Option (((List Int) × Int) ⊕ ((List Int))))) (st2.1, st2.2)).bind fun o11 =>
        some (.inl (o11, (w64 (st2.2 + 1))))
      else
        some (.inr st2.1) : Option (((List Int) × Int) ⊕ ((List Int))))) (p_data, (w64 (p_a + 1)))).bind fun o12 =>
  some o12
noncomputable def C133_68 : FnSpec := { ps := [.own (.slice (.int .i64)), .val (.int .i64), .val (.int .i64), .fn 68 [TGBook]], rs := [], fn := fun x => slices_insertionSortCmpFunc_int_68 x.1 x.2.1 x.2.2.1 x.2.2.2 }
noncomputable def E133_68 : Env := { T := [(3, (.int .i64)), (38, (.slice (.int .i64)))], G := [(68, C68)], ro := [], loops := [(1, { keep := [1, 2, 3], live := [.own 0 [] 100000 (.int .i64) true, .tv 8 (.int .i64)], outs := [(.exit 0, [.own 0 [] 100000 (.int .i64) true])] }), (4, { keep := [1, 2, 3, 8], live := [.own 0 [] 100000 (.int .i64) true, .tv 9 (.int .i64)], outs := [(.exit 2, [.own 0 [] 100000 (.int .i64) true])] })], joins := [], hoist := [(6, [2, 3, 4])] }
theorem E133_68_eq : ∀ x, afun E133_68 Try.f133 C133_68.ps C133_68.rs x = C133_68.fn x := fun x => by kernel_rfl
theorem S133_68 : Sound Try.prog 133 C133_68 := fun_sound_own (E := E133_68) ⟨good_T (by kernel_rfl), (good_cons S68 ⟨_, Try.func68, by kernel_rfl, by kernel_rfl⟩ good_nil), mixedOk, ins_nil⟩ Try.func133 rfl rfl E133_68_eq


/-- slices.swapRangeCmpFunc[int] -/
noncomputable def slices_swapRangeCmpFunc_int_68 (p_data : List Int) (p_a : Int) (p_b : Int) (p_n : Int) (p_cmp : GBook × Unit) : Option ((List Int)) :=
  (loopE (fun (st2 : (List Int) × Int) => (
      bif (decide (st2.2 < p_n)) then
        bif decide (0 ≤ (w64 (p_b + st2.2))) && decide ((w64 (p_b + st2.2)) < (st2.1.length : Int)) then
          (st2.1[(Int.toNat (w64 (p_b + st2.2)))]?).bind fun e3 =>
          bif decide (0 ≤ (w64 (p_a + st2.2))) && decide ((w64 (p_a + st2.2)) < (st2.1.length : Int)) then
            (st2.1[(Int.toNat (w64 (p_a + st2.2)))]?).bind fun e4 =>
            bif decide (0 ≤ (w64 (p_a + st2.2))) && decide ((w64 (p_a + st2.2)) < (st2.1.length : Int)) then
              bif decide (0 ≤ (w64 (p_b + st2.2))) && decide ((w64 (p_b + st2.2)) < ((st2.1.set (Int.toNat (w64 (p_a + st2.2))) e3).length : Int)) then
                some (.inl (((st2.1.set (Int.toNat (w64 (p_a + st2.2))) e3).set (Int.toNat (w64 (p_b + st2.2))) e4), (w64 (st2.2 + 1))))
              else
                none
            else
              none
          else
            none
        else
          none
      else
        some (.inr st2.1) : Option (((List Int) × Int) ⊕ ((List Int))))) (p_data, 0)).bind fun o5 =>
  some o5
noncomputable def C142_68 : FnSpec := { ps := [.own (.slice (.int .i64)), .val (.int .i64), .val (.int .i64), .val (.int .i64), .fn 68 [TGBook]], rs := [], fn := fun x => slices_swapRangeCmpFunc_int_68 x.1 x.2.1 x.2.2.1 x.2.2.2.1 x.2.2.2.2 }
noncomputable def E142_68 : Env := { T := [(3, (.int .i64)), (38, (.slice (.int .i64)))], G := [], ro := [], loops := [(1, { keep := [1, 2, 3], live := [.own 0 [] 100000 (.int .i64) true, .tv 10 (.int .i64)], outs := [(.exit 0, [.own 0 [] 100000 (.int .i64) true])] })], joins := [], hoist := [(3, [4, 5, 6, 7])] }
theorem E142_68_eq : ∀ x, afun E142_68 Try.f142 C142_68.ps C142_68.rs x = C142_68.fn x := fun x => by kernel_rfl
theorem S142_68 : Sound Try.prog 142 C142_68 := fun_sound_own (E := E142_68) ⟨good_T (by kernel_rfl), good_nil, mixedOk, ins_nil⟩ Try.func142 rfl rfl E142_68_eq
/-- slices.rotateCmpFunc[int] -/
noncomputable def slices_rotateCmpFunc_int_68 (p_data : List Int) (p_a : Int) (p_m : Int) (p_b : Int) (p_cmp : GBook × Unit) : Option ((List Int)) :=
  (loopE (fun (st2 : (List Int) × Int × Int) => (
      bif (!decide (st2.2.1 = st2.2.2)) then
        bif (decide (st2.2.2 < st2.2.1)) then
          (slices_swapRangeCmpFunc_int_68 st2.1 (w64 (p_m - st2.2.1)) p_m st2.2.2 p_cmp).bind fun r3 =>
          some (.inl (r3, (w64 (st2.2.1 - st2.2.2)), st2.2.2))
        else
          (slices_swapRangeCmpFunc_int_68 st2.1 (w64 (p_m - st2.2.1)) (w64 ((w64 (p_m + st2.2.2)) - st2.2.1)) st2.2.1 p_cmp).bind fun r4 =>
          some (.inl (r4, st2.2.1, (w64 (st2.2.2 - st2.2.1))))
      else
        some (.inr (st2.1, st2.2.1)) : Option (((List Int) × Int × Int) ⊕ (((List Int) × Int))))) (p_data, (w64 (p_m - p_a)), (w64 (p_b - p_m)))).bind fun o5 =>
  (slices_swapRangeCmpFunc_int_68 o5.1 (w64 (p_m - o5.2)) p_m o5.2 p_cmp).bind fun r6 =>
  some r6
noncomputable def C140_68 : FnSpec := { ps := [.own (.slice (.int .i64)), .val (.int .i64), .val (.int .i64), .val (.int .i64), .fn 68 [TGBook]], rs := [], fn := fun x => slices_rotateCmpFunc_int_68 x.1 x.2.1 x.2.2.1 x.2.2.2.1 x.2.2.2.2 }
noncomputable def E140_68 : Env := { T := [], G := [(142, C142_68)], ro := [], loops := [(2, { keep := [2, 4], live := [.own 0 [] 100000 (.int .i64) true, .tv 10 (.int .i64), .tv 11 (.int .i64)], outs := [(.exit 0, [.own 0 [] 100000 (.int .i64) true, .tv 10 (.int .i64)])] })], joins := [] }
theorem E140_68_eq : ∀ x, afun E140_68 Try.f140 C140_68.ps C140_68.rs x = C140_68.fn x := fun x => by kernel_rfl
theorem S140_68 : Sound Try.prog 140 C140_68 := fun_sound_own (E := E140_68) ⟨good_T (by kernel_rfl), (good_cons S142_68 ⟨_, Try.func142, by kernel_rfl, by kernel_rfl⟩ good_nil), mixedOk, ins_nil⟩ Try.func140 rfl rfl E140_68_eq
/-- slices.symMergeCmpFunc[int] -/
noncomputable def slices_symMergeCmpFunc_int_68_step (slices_symMergeCmpFunc_int_again : (List Int) → Int → Int → Int → (GBook × Unit) → Option ((List Int))) (p_data : List Int) (p_a : Int) (p_m : Int) (p_b : Int) (p_cmp : GBook × Unit) : Option ((List Int)) :=
  bif (decide ((w64 (p_m - p_a)) = 1)) then
    (loopE (fun (st2 : (List Int) × Int × Int) => (
        bif (decide (st2.2.1 < st2.2.2)) then
          bif decide (0 ≤ (w64 (shiftI .shr .u64 (IntKind.u64.wrap (w64 (st2.2.1 + st2.2.2))) 1))) && decide ((w64 (shiftI .shr .u64 (IntKind.u64.wrap (w64 (st2.2.1 + st2.2.2))) 1)) < (st2.1.length : Int)) then
            (st2.1[(Int.toNat (w64 (shiftI .shr .u64 (IntKind.u64.wrap (w64 (st2.2.1 + st2.2.2))) 1)))]?).bind fun e3 =>
            bif decide (0 ≤ p_a) && decide (p_a < (st2.1.length : Int)) then
              (st2.1[(Int.toNat p_a)]?).bind fun e4 =>
              (i_DealAnew_1 e3 e4 p_cmp.1).bind fun r5 =>
              bif (decide (r5 < 0)) then
                some (.inl (st2.1, (w64 ((w64 (shiftI .shr .u64 (IntKind.u64.wrap (w64 (st2.2.1 + st2.2.2))) 1)) + 1)), st2.2.2))
              else
                some (.inl (st2.1, st2.2.1, (w64 (shiftI .shr .u64 (IntKind.u64.wrap (w64 (st2.2.1 + st2.2.2))) 1))))
            else
              none
          else
            none
        else
          some (.inr (st2.1, st2.2.1)) : Option (((List Int) × Int × Int) ⊕ (((List Int) × Int))))) (p_data, p_m, p_b)).bind fun o6 =>
    (loopE (fun (st8 : (List Int) × Int) => (
        bif (decide (st8.2 < (w64 (o6.2 - 1)))) then
          bif decide (0 ≤ (w64 (st8.2 + 1))) && decide ((w64 (st8.2 + 1)) < (st8.1.length : Int)) then
            (st8.1[(Int.toNat (w64 (st8.2 + 1)))]?).bind fun e9 =>
            bif decide (0 ≤ st8.2) && decide (st8.2 < (st8.1.length : Int)) then
              (st8.1[(Int.toNat st8.2)]?).bind fun e10 =>
              bif decide (0 ≤ st8.2) && decide (st8.2 < (st8.1.length : Int)) then
                bif decide (0 ≤ (w64 (st8.2 + 1))) && decide ((w64 (st8.2 + 1)) < ((st8.1.set (Int.toNat st8.2) e9).length : Int)) then
                  some (.inl (((st8.1.set (Int.toNat st8.2) e9).set (Int.toNat (w64 (st8.2 + 1))) e10), (w64 (st8.2 + 1))))
                else
                  none
              else
                none
            else
              none
          else
            none
        else
          some (.inr st8.1) : Option (((List Int) × Int) ⊕ ((List Int))))) (o6.1, p_a)).bind fun o11 =>
    some o11
  else
    bif (decide ((w64 (p_b - p_m)) = 1)) then
      (loopE (fun (st13 : (List Int) × Int × Int) => (
          bif (decide (st13.2.1 < st13.2.2)) then
            bif decide (0 ≤ p_m) && decide (p_m < (st13.1.length : Int)) then
              (st13.1[(Int.toNat p_m)]?).bind fun e14 =>
              bif decide (0 ≤ (w64 (shiftI .shr .u64 (IntKind.u64.wrap (w64 (st13.2.1 + st13.2.2))) 1))) && decide ((w64 (shiftI .shr .u64 (IntKind.u64.wrap (w64 (st13.2.1 + st13.2.2))) 1)) < (st13.1.length : Int)) then
                (st13.1[(Int.toNat (w64 (shiftI .shr .u64 (IntKind.u64.wrap (w64 (st13.2.1 + st13.2.2))) 1)))]?).bind fun e15 =>
                (i_DealAnew_1 e14 e15 p_cmp.1).bind fun r16 =>
                bif (!(decide (r16 < 0))) then
                  some (.inl (st13.1, (w64 ((w64 (shiftI .shr .u64 (IntKind.u64.wrap (w64 (st13.2.1 + st13.2.2))) 1)) + 1)), st13.2.2))
                else
                  some (.inl (st13.1, st13.2.1, (w64 (shiftI .shr .u64 (IntKind.u64.wrap (w64 (st13.2.1 + st13.2.2))) 1))))
              else
                none
            else
              none
          else
            some (.inr (st13.1, st13.2.1)) : Option (((List Int) × Int × Int) ⊕ (((List Int) × Int))))) (p_data, p_a, p_m)).bind fun o17 =>
      (loopE (fun (st19 : (List Int) × Int) => (
          bif (decide (o17.2 < st19.2)) then
            bif decide (0 ≤ (w64 (st19.2 - 1))) && decide ((w64 (st19.2 - 1)) < (st19.1.length : Int)) then
              (st19.1[(Int.toNat (w64 (st19.2 - 1)))]?).bind fun e20 =>
              bif decide (0 ≤ st19.2) && decide (st19.2 < (st19.1.length : Int)) then
                (st19.1[(Int.toNat st19.2)]?).bind fun e21 =>
                bif decide (0 ≤ st19.2) && decide (st19.2 < (st19.1.length : Int)) then
                  bif decide (0 ≤ (w64 (st19.2 - 1))) && decide ((w64 (st19.2 - 1)) < ((st19.1.set (Int.toNat st19.2) e20).length : Int)) then
                    some (.inl (((st19.1.set (Int.toNat st19.2) e20).set (Int.toNat (w64 (st19.2 - 1))) e21), (w64 (st19.2 - 1))))
                  else
                    none
                else
                  none
              else
                none
            else
              none
          else
            some (.inr st19.1) : Option (((List Int) × Int) ⊕ ((List Int))))) (o17.1, p_m)).bind fun o22 =>
      some o22
    else
      (bif (decide ((w64 (shiftI .shr .u64 (IntKind.u64.wrap (w64 (p_a + p_b))) 1)) < p_m)) then
          some (p_data, (w64 ((w64 ((w64 (shiftI .shr .u64 (IntKind.u64.wrap (w64 (p_a + p_b))) 1)) + p_m)) - p_b)), (w64 (shiftI .shr .u64 (IntKind.u64.wrap (w64 (p_a + p_b))) 1)))
        else
          some (p_data, p_a, p_m)).bind fun j23 =>
      (loopE (fun (st25 : (List Int) × Int × Int) => (
          bif (decide (st25.2.1 < st25.2.2)) then
            bif decide (0 ≤ (w64 ((w64 ((w64 ((w64 (shiftI .shr .u64 (IntKind.u64.wrap (w64 (p_a + p_b))) 1)) + p_m)) - 1)) - (w64 (shiftI .shr .u64 (IntKind.u64.wrap (w64 (st25.2.1 + st25.2.2))) 1))))) && decide ((w64 ((w64 ((w64 ((w64 (shiftI .shr .u64 (IntKind.u64.wrap (w64 (p_a + p_b))) 1)) + p_m)) - 1)) - (w64 (shiftI .shr .u64 (IntKind.u64.wrap (w64 (st25.2.1 + st25.2.2))) 1)))) < (st25.1.length : Int)) then
              (st25.1[(Int.toNat (w64 ((w64 ((w64 ((w64 (shiftI .shr .u64 (IntKind.u64.wrap (w64 (p_a + p_b))) 1)) + p_m)) - 1)) - (w64 (shiftI .shr .u64 (IntKind.u64.wrap (w64 (st25.2.1 + st25.2.2))) 1)))))]?).bind fun e26 =>
              bif decide (0 ≤ (w64 (shiftI .shr .u64 (IntKind.u64.wrap (w64 (st25.2.1 + st25.2.2))) 1))) && decide ((w64 (shiftI .shr .u64 (IntKind.u64.wrap (w64 (st25.2.1 + st25.2.2))) 1)) < (st25.1.length : Int)) then
                (st25.1[(Int.toNat (w64 (shiftI .shr .u64 (IntKind.u64.wrap (w64 (st25.2.1 + st25.2.2))) 1)))]?).bind fun e27 =>
                (i_DealAnew_1 e26 e27 p_cmp.1).bind fun r28 =>
                bif (!(decide (r28 < 0))) then
                  some (.inl (st25.1, (w64 ((w64 (shiftI .shr .u64 (IntKind.u64.wrap (w64 (st25.2.1 + st25.2.2))) 1)) + 1)), st25.2.2))
                else
                  some (.inl (st25.1, st25.2.1, (w64 (shiftI .shr .u64 (IntKind.u64.wrap (w64 (st25.2.1 + st25.2.2))) 1))))
              else
                none
            else
              none
          else
            some (.inr (st25.1, st25.2.1)) : Option (((List Int) × Int × Int) ⊕ (((List Int) × Int))))) (j23.1, j23.2.1, j23.2.2)).bind fun o29 =>
      (bif (decide (o29.2 < p_m)) then
          some (decide (p_m < (w64 ((w64 ((w64 (shiftI .shr .u64 (IntKind.u64.wrap (w64 (p_a + p_b))) 1)) + p_m)) - o29.2))))
        else
          some false).bind fun c30 =>
      bif c30 then
        (slices_rotateCmpFunc_int_68 o29.1 o29.2 p_m (w64 ((w64 ((w64 (shiftI .shr .u64 (IntKind.u64.wrap (w64 (p_a + p_b))) 1)) + p_m)) - o29.2)) p_cmp).bind fun r31 =>
        (bif (decide (p_a < o29.2)) then
            some (decide (o29.2 < (w64 (shiftI .shr .u64 (IntKind.u64.wrap (w64 (p_a + p_b))) 1))))
          else
            some false).bind fun c32 =>
        bif c32 then
          (slices_symMergeCmpFunc_int_again r31 p_a o29.2 (w64 (shiftI .shr .u64 (IntKind.u64.wrap (w64 (p_a + p_b))) 1)) p_cmp).bind fun r33 =>
          (bif (decide ((w64 (shiftI .shr .u64 (IntKind.u64.wrap (w64 (p_a + p_b))) 1)) < (w64 ((w64 ((w64 (shiftI .shr .u64 (IntKind.u64.wrap (w64 (p_a + p_b))) 1)) + p_m)) - o29.2)))) then
              some (decide ((w64 ((w64 ((w64 (shiftI .shr .u64 (IntKind.u64.wrap (w64 (p_a + p_b))) 1)) + p_m)) - o29.2)) < p_b))
            else
              some false).bind fun c34 =>
          bif c34 then
            (slices_symMergeCmpFunc_int_again r33 (w64 (shiftI .shr .u64 (IntKind.u64.wrap (w64 (p_a + p_b))) 1)) (w64 ((w64 ((w64 (shiftI .shr .u64 (IntKind.u64.wrap (w64 (p_a + p_b))) 1)) + p_m)) - o29.2)) p_b p_cmp).bind fun r35 =>
            some r35
          else
            some r33
        else
          (bif (decide ((w64 (shiftI .shr .u64 (IntKind.u64.wrap (w64 (p_a + p_b))) 1)) < (w64 ((w64 ((w64 (shiftI .shr .u64 (IntKind.u64.wrap (w64 (p_a + p_b))) 1)) + p_m)) - o29.2)))) then
              some (decide ((w64 ((w64 ((w64 (shiftI .shr .u64 (IntKind.u64.wrap (w64 (p_a + p_b))) 1)) + p_m)) - o29.2)) < p_b))
            else
              some false).bind fun c36 =>
          bif c36 then
            (slices_symMergeCmpFunc_int_again r31 (w64 (shiftI .shr .u64 (IntKind.u64.wrap (w64 (p_a + p_b))) 1)) (w64 ((w64 ((w64 (shiftI .shr .u64 (IntKind.u64.wrap (w64 (p_a + p_b))) 1)) + p_m)) - o29.2)) p_b p_cmp).bind fun r37 =>
            some r37
          else
            some r31
      else
        (bif (decide (p_a < o29.2)) then
            some (decide (o29.2 < (w64 (shiftI .shr .u64 (IntKind.u64.wrap (w64 (p_a + p_b))) 1))))
          else
            some false).bind fun c38 =>
        bif c38 then
          (slices_symMergeCmpFunc_int_again o29.1 p_a o29.2 (w64 (shiftI .shr .u64 (IntKind.u64.wrap (w64 (p_a + p_b))) 1)) p_cmp).bind fun r39 =>
          (bif (decide ((w64 (shiftI .shr .u64 (IntKind.u64.wrap (w64 (p_a + p_b))) 1)) < (w64 ((w64 ((w64 (shiftI .shr .u64 (IntKind.u64.wrap (w64 (p_a + p_b))) 1)) + p_m)) - o29.2)))) then
              some (decide ((w64 ((w64 ((w64 (shiftI .shr .u64 (IntKind.u64.wrap (w64 (p_a + p_b))) 1)) + p_m)) - o29.2)) < p_b))
            else
              some false).bind fun c40 =>
          bif c40 then
            (slices_symMergeCmpFunc_int_again r39 (w64 (shiftI .shr .u64 (IntKind.u64.wrap (w64 (p_a + p_b))) 1)) (w64 ((w64 ((w64 (shiftI .shr .u64 (IntKind.u64.wrap (w64 (p_a + p_b))) 1)) + p_m)) - o29.2)) p_b p_cmp).bind fun r41 =>
            some r41
          else
            some r39
        else
          (bif (decide ((w64 (shiftI .shr .u64 (IntKind.u64.wrap (w64 (p_a + p_b))) 1)) < (w64 ((w64 ((w64 (shiftI .shr .u64 (IntKind.u64.wrap (w64 (p_a + p_b))) 1)) + p_m)) - o29.2)))) then
              some (decide ((w64 ((w64 ((w64 (shiftI .shr .u64 (IntKind.u64.wrap (w64 (p_a + p_b))) 1)) + p_m)) - o29.2)) < p_b))
            else
              some false).bind fun c42 =>
          bif c42 then
            (slices_symMergeCmpFunc_int_again o29.1 (w64 (shiftI .shr .u64 (IntKind.u64.wrap (w64 (p_a + p_b))) 1)) (w64 ((w64 ((w64 (shiftI .shr .u64 (IntKind.u64.wrap (w64 (p_a + p_b))) 1)) + p_m)) - o29.2)) p_b p_cmp).bind fun r43 =>
            some r43
          else
            some o29.1
noncomputable def slices_symMergeCmpFunc_int_68_it : Nat → (List Int) → Int → Int → Int → (GBook × Unit) → Option ((List Int))
  | 0, _, _, _, _, _ => none
  | k + 1, p_data, p_a, p_m, p_b, p_cmp => slices_symMergeCmpFunc_int_68_step (slices_symMergeCmpFunc_int_68_it k) p_data p_a p_m p_b p_cmp
noncomputable def slices_symMergeCmpFunc_int_68 (p_data : List Int) (p_a : Int) (p_m : Int) (p_b : Int) (p_cmp : GBook × Unit) : Option ((List Int)) := limE fun k => slices_symMergeCmpFunc_int_68_it k p_data p_a p_m p_b p_cmp
noncomputable def C134_68 : FnSpec := { ps := [.own (.slice (.int .i64)), .val (.int .i64), .val (.int .i64), .val (.int .i64), .fn 68 [TGBook]], rs := [], fn := fun x => slices_symMergeCmpFunc_int_68 x.1 x.2.1 x.2.2.1 x.2.2.2.1 x.2.2.2.2 }
noncomputable def CR134_68 (again : (List Int) → Int → Int → Int → (GBook × Unit) → Option ((List Int))) : FnSpec := { ps := [.own (.slice (.int .i64)), .val (.int .i64), .val (.int .i64), .val (.int .i64), .fn 68 [TGBook]], rs := [], fn := fun x => again x.1 x.2.1 x.2.2.1 x.2.2.2.1 x.2.2.2.2 }
noncomputable def E134_68 (again : (List Int) → Int → Int → Int → (GBook × Unit) → Option ((List Int))) : Env := { T := [(3, (.int .i64)), (38, (.slice (.int .i64))), (123, (.int .u64))], G := [(68, C68), (134, CR134_68 again), (140, C140_68)], ro := [], loops := [(3, { keep := [1, 4], live := [.own 0 [] 100000 (.int .i64) true, .tv 10 (.int .i64), .tv 11 (.int .i64)], outs := [(.exit 0, [.own 0 [] 100000 (.int .i64) true, .tv 10 (.int .i64)])] }), (9, { keep := [10], live := [.own 0 [] 100000 (.int .i64) true, .tv 13 (.int .i64)], outs := [(.exit 2, [.own 0 [] 100000 (.int .i64) true])] }), (15, { keep := [2, 4], live := [.own 0 [] 100000 (.int .i64) true, .tv 14 (.int .i64), .tv 15 (.int .i64)], outs := [(.exit 4, [.own 0 [] 100000 (.int .i64) true, .tv 14 (.int .i64)])] }), (21, { keep := [14], live := [.own 0 [] 100000 (.int .i64) true, .tv 17 (.int .i64)], outs := [(.exit 6, [.own 0 [] 100000 (.int .i64) true])] }), (33, { keep := [1, 2, 3, 4, 18, 19, 22, 182, 183, 184, 196, 197, 198, 210, 211, 212], live := [.own 0 [] 100000 (.int .i64) true, .tv 20 (.int .i64), .tv 21 (.int .i64)], outs := [(.exit 8, [.own 0 [] 100000 (.int .i64) true, .tv 20 (.int .i64)])] })], joins := [(32, { keep := [1, 2, 3, 4, 18, 19], live := [], outs := [(.normal, [.own 0 [] 100000 (.int .i64) true, .tv 20 (.int .i64), .tv 21 (.int .i64)])] })], hoist := [(11, [2, 3, 4]), (23, [2, 3, 4])] }
theorem E134_68_eq : ∀ (again : (List Int) → Int → Int → Int → (GBook × Unit) → Option ((List Int))) x, afun (E134_68 again) Try.f134 C134_68.ps C134_68.rs x = slices_symMergeCmpFunc_int_68_step again x.1 x.2.1 x.2.2.1 x.2.2.2.1 x.2.2.2.2 := fun again x => by kernel_rfl
theorem S134_68_it : ∀ k, Sound Try.prog 134 (CR134_68 (slices_symMergeCmpFunc_int_68_it k))
  | 0 => fun _ _ _ _ _ _ _ _ _ _ h => nomatch h
  | k + 1 => fun_sound_own (E := E134_68 (slices_symMergeCmpFunc_int_68_it k)) ⟨good_T (by kernel_rfl), (good_cons S68 ⟨_, Try.func68, by kernel_rfl, by kernel_rfl⟩ (good_cons (S134_68_it k) ⟨_, Try.func134, by kernel_rfl, by kernel_rfl⟩ (good_cons S140_68 ⟨_, Try.func140, by kernel_rfl, by kernel_rfl⟩ good_nil))), mixedOk, ins_nil⟩ Try.func134 rfl rfl (E134_68_eq _)
theorem S134_68 : Sound Try.prog 134 C134_68 := sound_lim (P := Try.prog) (f := 134) (ps := C134_68.ps) (rs := C134_68.rs) (g := fun k x => slices_symMergeCmpFunc_int_68_it k x.1 x.2.1 x.2.2.1 x.2.2.2.1 x.2.2.2.2) S134_68_it
/-- slices.stableCmpFunc[int] -/
noncomputable def slices_stableCmpFunc_int_68 (p_data : List Int) (p_n : Int) (p_cmp : GBook × Unit) : Option ((List Int)) :=
  (loopE (fun (st2 : (List Int) × Int × Int) => (
      bif (decide (st2.2.2 ≤ p_n)) then
        (slices_insertionSortCmpFunc_int_68 st2.1 st2.2.1 st2.2.2 p_cmp).bind fun r3 =>
        some (.inl (r3, st2.2.2, (w64 (st2.2.2 + 20))))
      else
        some (.inr (st2.1, st2.2.1)) : Option (((List Int) × Int × Int) ⊕ (((List Int) × Int))))) (p_data, 0, 20)).bind fun o4 =>
  (slices_insertionSortCmpFunc_int_68 o4.1 o4.2 p_n p_cmp).bind fun r5 =>
  (loopE (fun (st7 : (List Int) × Int) => (
      bif (decide (st7.2 < p_n)) then
        (loopE (fun (st9 : (List Int) × Int × Int) => (
            bif (decide (st9.2.2 ≤ p_n)) then
              (slices_symMergeCmpFunc_int_68 st9.1 st9.2.1 (w64 (st9.2.1 + st7.2)) st9.2.2 p_cmp).bind fun r10 =>
              some (.inl (r10, st9.2.2, (w64 (st9.2.2 + (w64 (2 * st7.2))))))
            else
              some (.inr (st9.1, st9.2.1)) : Option (((List Int) × Int × Int) ⊕ (((List Int) × Int))))) (st7.1, 0, (w64 (2 * st7.2)))).bind fun o11 =>
        bif (decide ((w64 (o11.2 + st7.2)) < p_n)) then
          (slices_symMergeCmpFunc_int_68 o11.1 o11.2 (w64 (o11.2 + st7.2)) p_n p_cmp).bind fun r12 =>
          some (.inl (r12, (w64 (st7.2 * 2))))
        else
          some (.inl (o11.1, (w64 (st7.2 * 2))))
      else
        some (.inr st7.1) : Option (((List Int) × Int) ⊕ ((List Int))))) (r5, 20)).bind fun o13 =>
  some o13
noncomputable def C110_68 : FnSpec := { ps := [.own (.slice (.int .i64)), .val (.int .i64), .fn 68 [TGBook]], rs := [], fn := fun x => slices_stableCmpFunc_int_68 x.1 x.2.1 x.2.2 }
noncomputable def E110_68 : Env := { T := [], G := [(133, C133_68), (134, C134_68)], ro := [], loops := [(2, { keep := [1, 2, 6], live := [.own 0 [] 100000 (.int .i64) true, .tv 7 (.int .i64), .tv 8 (.int .i64)], outs := [(.exit 0, [.own 0 [] 100000 (.int .i64) true, .tv 7 (.int .i64)])] }), (7, { keep := [1, 2], live := [.own 0 [] 100000 (.int .i64) true, .tv 6 (.int .i64)], outs := [(.exit 2, [.own 0 [] 100000 (.int .i64) true])] }), (9, { keep := [1, 2, 6], live := [.own 0 [] 100000 (.int .i64) true, .tv 7 (.int .i64), .tv 8 (.int .i64)], outs := [(.exit 4, [.own 0 [] 100000 (.int .i64) true, .tv 7 (.int .i64)])] })], joins := [] }
theorem E110_68_eq : ∀ x, afun E110_68 Try.f110 C110_68.ps C110_68.rs x = C110_68.fn x := fun x => by kernel_rfl
theorem S110_68 : Sound Try.prog 110 C110_68 := fun_sound_own (E := E110_68) ⟨good_T (by kernel_rfl), (good_cons S133_68 ⟨_, Try.func133, by kernel_rfl, by kernel_rfl⟩ (good_cons S134_68 ⟨_, Try.func134, by kernel_rfl, by kernel_rfl⟩ good_nil)), mixedOk, ins_nil⟩ Try.func110 rfl rfl E110_68_eq
/-- slices.SortStableFunc[[]int,int] -/
noncomputable def slices_SortStableFunc_int_68 (p_x : List Int) (p_cmp : GBook × Unit) : Option ((List Int)) :=
  (slices_stableCmpFunc_int_68 p_x (p_x.length : Int) p_cmp).bind fun r1 =>
  some r1
noncomputable def C67_68 : FnSpec := { ps := [.own (.slice (.int .i64)), .fn 68 [TGBook]], rs := [], fn := fun x => slices_SortStableFunc_int_68 x.1 x.2 }
noncomputable def E67_68 : Env := { T := [(38, (.slice (.int .i64)))], G := [(110, C110_68)], ro := [], loops := [], joins := [] }
theorem E67_68_eq : ∀ x, afun E67_68 Try.f67 C67_68.ps C67_68.rs x = C67_68.fn x := fun x => by kernel_rfl
theorem S67_68 : Sound Try.prog 67 C67_68 := fun_sound_own (E := E67_68) ⟨good_T (by kernel_rfl), (good_cons S110_68 ⟨_, Try.func110, by kernel_rfl, by kernel_rfl⟩ good_nil), mixedOk, ins_nil⟩ Try.func67 rfl rfl E67_68_eq
/-- impl.DealAnew$2 -/
noncomputable def i_DealAnew_2 (p_i : Int) (p_k : Int) (p_a2 : List Int) : Option (Int) :=
  (idx p_a2 p_k).bind fun e1 =>
  (idx p_a2 p_i).bind fun e2 =>
  (cmp_Compare_int e1 e2).bind fun r3 =>
  some r3
noncomputable def C70 : FnSpec := { ps := [.val (.int .i64), .val (.int .i64), .rp (.slice (.int .i64))], rs := [.val (.int .i64)], fn := fun x => i_DealAnew_2 x.1 x.2.1 x.2.2 }
noncomputable def E70 : Env := { T := [(3, (.int .i64)), (38, (.slice (.int .i64)))], G := [(69, C69)], ro := [], loops := [], joins := [] }
theorem E70_eq : ∀ x, afun E70 Try.f70 C70.ps C70.rs x = C70.fn x := fun x => by kernel_rfl
theorem S70 : Sound Try.prog 70 C70 := fun_sound (E := E70) ⟨good_T (by kernel_rfl), (good_cons S69 ⟨_, Try.func69, by kernel_rfl, by kernel_rfl⟩ good_nil), mixedOk, ins_nil⟩ Try.func70 rfl E70_eq
/-- slices.insertionSortCmpFunc[int] -/
noncomputable def slices_insertionSortCmpFunc_int_70 (p_data : List Int) (p_a : Int) (p_b : Int) (p_cmp : (List Int) × Unit) : Option ((List Int)) :=
  (loopE (fun (st2 : (List Int) × Int) => (
      bif (decide (st2.2 < p_b)) then
        (loopE (fun (st4 : (List Int) × Int) => (
            (bif (decide (p_a < st4.2)) then
                bif decide (0 ≤ st4.2) && decide (st4.2 < (st4.1.length : Int)) then
                  (st4.1[(Int.toNat st4.2)]?).bind fun e5 =>
                  bif decide (0 ≤ (w64 (st4.2 - 1))) && decide ((w64 (st4.2 - 1)) < (st4.1.length : Int)) then
                    (st4.1[(Int.toNat (w64 (st4.2 - 1)))]?).bind fun e6 =>
                    (i_DealAnew_2 e5 e6 p_cmp.1).bind fun r7 =>
                    some (decide (r7 < 0))
                  else
                    none
                else
                  none
              else
                some false).bind fun c8 =>
            bif c8 then
              bif decide (0 ≤ (w64 (st4.2 - 1))) && decide ((w64 (st4.2 - 1)) < (st4.1.length : Int)) then
                (st4.1[(Int.toNat (w64 (st4.2 - 1)))]?).bind fun e9 =>
                bif decide (0 ≤ st4.2) && decide (st4.2 < (st4.1.length : Int)) then
                  (st4.1[(Int.toNat st4.2)]?).bind fun e10 =>
                  bif decide (0 ≤ st4.2) && decide (st4.2 < (st4.1.length : Int)) then
                    bif decide (0 ≤ (w64 (st4.2 - 1))) && decide ((w64 (st4.2 - 1)) < ((st4.1.set (Int.toNat st4.2) e9).length : Int)) then
                      some (.inl (((st4.1.set (Int.toNat st4.2) e9).set (Int.toNat (w64 (st4.2 - 1))) e10), (w64 (st4.2 - 1))))
                    else
                      none
                  else
                    none
                else
                  none
              else
                none
            else
              some (.inr st4.1) : Option (((List Int) × Int) ⊕ ((List Int))))) (st2.1, st2.2)).bind fun o11 =>
        some (.inl (o11, (w64 (st2.2 + 1))))
      else
        some (.inr st2.1) : Option (((List Int) × Int) ⊕ ((List Int))))) (p_data, (w64 (p_a + 1)))).bind fun o12 =>
  some o12
noncomputable def C133_70 : FnSpec := { ps := [.own (.slice (.int .i64)), .val (.int .i64), .val (.int .i64), .fn 70 [(.slice (.int .i64))]], rs := [], fn := fun x => slices_insertionSortCmpFunc_int_70 x.1 x.2.1 x.2.2.1 x.2.2.2 }
noncomputable def E133_70 : Env := { T := [(3, (.int .i64)), (38, (.slice (.int .i64)))], G := [(70, C70)], ro := [], loops := [(1, { keep := [1, 2, 3], live := [.own 0 [] 100000 (.int .i64) true, .tv 8 (.int .i64)], outs := [(.exit 0, [.own 0 [] 100000 (.int .i64) true])] }), (4, { keep := [1, 2, 3, 8], live := [.own 0 [] 100000 (.int .i64) true, .tv 9 (.int .i64)], outs := [(.exit 2, [.own 0 [] 100000 (.int .i64) true])] })], joins := [], hoist := [(6, [2, 3, 4])] }
theorem E133_70_eq : ∀ x, afun E133_70 Try.f133 C133_70.ps C133_70.rs x = C133_70.fn x := fun x => by kernel_rfl
theorem S133_70 : Sound Try.prog 133 C133_70 := fun_sound_own (E := E133_70) ⟨good_T (by kernel_rfl), (good_cons S70 ⟨_, Try.func70, by kernel_rfl, by kernel_rfl⟩ good_nil), mixedOk, ins_nil⟩ Try.func133 rfl rfl E133_70_eq


/-- slices.swapRangeCmpFunc[int] -/
noncomputable def slices_swapRangeCmpFunc_int_70 (p_data : List Int) (p_a : Int) (p_b : Int) (p_n : Int) (p_cmp : (List Int) × Unit) : Option ((List Int)) :=
  (loopE (fun (st2 : (List Int) × Int) => (
      bif (decide (st2.2 < p_n)) then
        bif decide (0 ≤ (w64 (p_b + st2.2))) && decide ((w64 (p_b + st2.2)) < (st2.1.length : Int)) then
          (st2.1[(Int.toNat (w64 (p_b + st2.2)))]?).bind fun e3 =>
          bif decide (0 ≤ (w64 (p_a + st2.2))) && decide ((w64 (p_a + st2.2)) < (st2.1.length : Int)) then
            (st2.1[(Int.toNat (w64 (p_a + st2.2)))]?).bind fun e4 =>
            bif decide (0 ≤ (w64 (p_a + st2.2))) && decide ((w64 (p_a + st2.2)) < (st2.1.length : Int)) then
              bif decide (0 ≤ (w64 (p_b + st2.2))) && decide ((w64 (p_b + st2.2)) < ((st2.1.set (Int.toNat (w64 (p_a + st2.2))) e3).length : Int)) then
                some (.inl (((st2.1.set (Int.toNat (w64 (p_a + st2.2))) e3).set (Int.toNat (w64 (p_b + st2.2))) e4), (w64 (st2.2 + 1))))
              else
                none
            else
              none
          else
            none
        else
          none
      else
        some (.inr st2.1) : Option (((List Int) × Int) ⊕ ((List Int))))) (p_data, 0)).bind fun o5 =>
  some o5
noncomputable def C142_70 : FnSpec := { ps := [.own (.slice (.int .i64)), .val (.int .i64), .val (.int .i64), .val (.int .i64), .fn 70 [(.slice (.int .i64))]], rs := [], fn := fun x => slices_swapRangeCmpFunc_int_70 x.1 x.2.1 x.2.2.1 x.2.2.2.1 x.2.2.2.2 }
noncomputable def E142_70 : Env := { T := [(3, (.int .i64)), (38, (.slice (.int .i64)))], G := [], ro := [], loops := [(1, { keep := [1, 2, 3], live := [.own 0 [] 100000 (.int .i64) true, .tv 10 (.int .i64)], outs := [(.exit 0, [.own 0 [] 100000 (.int .i64) true])] })], joins := [], hoist := [(3, [4, 5, 6, 7])] }
theorem E142_70_eq : ∀ x, afun E142_70 Try.f142 C142_70.ps C142_70.rs x = C142_70.fn x := fun x => by kernel_rfl
theorem S142_70 : Sound Try.prog 142 C142_70 := fun_sound_own (E := E142_70) ⟨good_T (by kernel_rfl), good_nil, mixedOk, ins_nil⟩ Try.func142 rfl rfl E142_70_eq
/-- slices.rotateCmpFunc[int] -/
noncomputable def slices_rotateCmpFunc_int_70 (p_data : List Int) (p_a : Int) (p_m : Int) (p_b : Int) (p_cmp : (List Int) × Unit) : Option ((List Int)) :=
  (loopE (fun (st2 : (List Int) × Int × Int) => (
      bif (!decide (st2.2.1 = st2.2.2)) then
        bif (decide (st2.2.2 < st2.2.1)) then
          (slices_swapRangeCmpFunc_int_70 st2.1 (w64 (p_m - st2.2.1)) p_m st2.2.2 p_cmp).bind fun r3 =>
          some (.inl (r3, (w64 (st2.2.1 - st2.2.2)), st2.2.2))
        else
          (slices_swapRangeCmpFunc_int_70 st2.1 (w64 (p_m - st2.2.1)) (w64 ((w64 (p_m + st2.2.2)) - st2.2.1)) st2.2.1 p_cmp).bind fun r4 =>
          some (.inl (r4, st2.2.1, (w64 (st2.2.2 - st2.2.1))))
      else
        some (.inr (st2.1, st2.2.1)) : Option (((List Int) × Int × Int) ⊕ (((List Int) × Int))))) (p_data, (w64 (p_m - p_a)), (w64 (p_b - p_m)))).bind fun o5 =>
  (slices_swapRangeCmpFunc_int_70 o5.1 (w64 (p_m - o5.2)) p_m o5.2 p_cmp).bind fun r6 =>
  some r6
noncomputable def C140_70 : FnSpec := { ps := [.own (.slice (.int .i64)), .val (.int .i64), .val (.int .i64), .val (.int .i64), .fn 70 [(.slice (.int .i64))]], rs := [], fn := fun x => slices_rotateCmpFunc_int_70 x.1 x.2.1 x.2.2.1 x.2.2.2.1 x.2.2.2.2 }
noncomputable def E140_70 : Env := { T := [], G := [(142, C142_70)], ro := [], loops := [(2, { keep := [2, 4], live := [.own 0 [] 100000 (.int .i64) true, .tv 10 (.int .i64), .tv 11 (.int .i64)], outs := [(.exit 0, [.own 0 [] 100000 (.int .i64) true, .tv 10 (.int .i64)])] })], joins := [] }
theorem E140_70_eq : ∀ x, afun E140_70 Try.f140 C140_70.ps C140_70.rs x = C140_70.fn x := fun x => by kernel_rfl
theorem S140_70 : Sound Try.prog 140 C140_70 := fun_sound_own (E := E140_70) ⟨good_T (by kernel_rfl), (good_cons S142_70 ⟨_, Try.func142, by kernel_rfl, by kernel_rfl⟩ good_nil), mixedOk, ins_nil⟩ Try.func140 rfl rfl E140_70_eq
/-- slices.symMergeCmpFunc[int] -/
noncomputable def slices_symMergeCmpFunc_int_70_step (slices_symMergeCmpFunc_int_again : (List Int) → Int → Int → Int → ((List Int) × Unit) → Option ((List Int))) (p_data : List Int) (p_a : Int) (p_m : Int) (p_b : Int) (p_cmp : (List Int) × Unit) : Option ((List Int)) :=
  bif (decide ((w64 (p_m - p_a)) = 1)) then
    (loopE (fun (st2 : (List Int) × Int × Int) => (
        bif (decide (st2.2.1 < st2.2.2)) then
          bif decide (0 ≤ (w64 (shiftI .shr .u64 (IntKind.u64.wrap (w64 (st2.2.1 + st2.2.2))) 1))) && decide ((w64 (shiftI .shr .u64 (IntKind.u64.wrap (w64 (st2.2.1 + st2.2.2))) 1)) < (st2.1.length : Int)) then
            (st2.1[(Int.toNat (w64 (shiftI .shr .u64 (IntKind.u64.wrap (w64 (st2.2.1 + st2.2.2))) 1)))]?).bind fun e3 =>
            bif decide (0 ≤ p_a) && decide (p_a < (st2.1.length : Int)) then
              (st2.1[(Int.toNat p_a)]?).bind fun e4 =>
              (i_DealAnew_2 e3 e4 p_cmp.1).bind fun r5 =>
              bif (decide (r5 < 0)) then
                some (.inl (st2.1, (w64 ((w64 (shiftI .shr .u64 (IntKind.u64.wrap (w64 (st2.2.1 + st2.2.2))) 1)) + 1)), st2.2.2))
              else
                some (.inl (st2.1, st2.2.1, (w64 (shiftI .shr .u64 (IntKind.u64.wrap (w64 (st2.2.1 + st2.2.2))) 1))))
            else
              none
          else
            none
        else
          some (.inr (st2.1, st2.2.1)) : Option (((List Int) × Int × Int) ⊕ (((List Int) × Int))))) (p_data, p_m, p_b)).bind fun o6 =>
    (loopE (fun (st8 : (List Int) × Int) => (
        bif (decide (st8.2 < (w64 (o6.2 - 1)))) then
          bif decide (0 ≤ (w64 (st8.2 + 1))) && decide ((w64 (st8.2 + 1)) < (st8.1.length : Int)) then
            (st8.1[(Int.toNat (w64 (st8.2 + 1)))]?).bind fun e9 =>
            bif decide (0 ≤ st8.2) && decide (st8.2 < (st8.1.length : Int)) then
              (st8.1[(Int.toNat st8.2)]?).bind fun e10 =>
              bif decide (0 ≤ st8.2) && decide (st8.2 < (st8.1.length : Int)) then
                bif decide (0 ≤ (w64 (st8.2 + 1))) && decide ((w64 (st8.2 + 1)) < ((st8.1.set (Int.toNat st8.2) e9).length : Int)) then
                  some (.inl (((st8.1.set (Int.toNat st8.2) e9).set (Int.toNat (w64 (st8.2 + 1))) e10), (w64 (st8.2 + 1))))
                else
                  none
              else
                none
            else
              none
          else
            none
        else
          some (.inr st8.1) : Option (((List Int) × Int) ⊕ ((List Int))))) (o6.1, p_a)).bind fun o11 =>
    some o11
  else
    bif (decide ((w64 (p_b - p_m)) = 1)) then
      (loopE (fun (st13 : (List Int) × Int × Int) => (
          bif (decide (st13.2.1 < st13.2.2)) then
            bif decide (0 ≤ p_m) && decide (p_m < (st13.1.length : Int)) then
              (st13.1[(Int.toNat p_m)]?).bind fun e14 =>
              bif decide (0 ≤ (w64 (shiftI .shr .u64 (IntKind.u64.wrap (w64 (st13.2.1 + st13.2.2))) 1))) && decide ((w64 (shiftI .shr .u64 (IntKind.u64.wrap (w64 (st13.2.1 + st13.2.2))) 1)) < (st13.1.length : Int)) then
                (st13.1[(Int.toNat (w64 (shiftI .shr .u64 (IntKind.u64.wrap (w64 (st13.2.1 + st13.2.2))) 1)))]?).bind fun e15 =>
                (i_DealAnew_2 e14 e15 p_cmp.1).bind fun r16 =>
                bif (!(decide (r16 < 0))) then
                  some (.inl (st13.1, (w64 ((w64 (shiftI .shr .u64 (IntKind.u64.wrap (w64 (st13.2.1 + st13.2.2))) 1)) + 1)), st13.2.2))
                else
                  some (.inl (st13.1, st13.2.1, (w64 (shiftI .shr .u64 (IntKind.u64.wrap (w64 (st13.2.1 + st13.2.2))) 1))))
              else
                none
            else
              none
          else
            some (.inr (st13.1, st13.2.1)) : Option (((List Int) × Int × Int) ⊕ (((List Int) × Int))))) (p_data, p_a, p_m)).bind fun o17 =>
      (loopE (fun (st19 : (List Int) × Int) => (
          bif (decide (o17.2 < st19.2)) then
            bif decide (0 ≤ (w64 (st19.2 - 1))) && decide ((w64 (st19.2 - 1)) < (st19.1.length : Int)) then
              (st19.1[(Int.toNat (w64 (st19.2 - 1)))]?).bind fun e20 =>
              bif decide (0 ≤ st19.2) && decide (st19.2 < (st19.1.length : Int)) then
                (st19.1[(Int.toNat st19.2)]?).bind fun e21 =>
                bif decide (0 ≤ st19.2) && decide (st19.2 < (st19.1.length : Int)) then
                  bif decide (0 ≤ (w64 (st19.2 - 1))) && decide ((w64 (st19.2 - 1)) < ((st19.1.set (Int.toNat st19.2) e20).length : Int)) then
                    some (.inl (((st19.1.set (Int.toNat st19.2) e20).set (Int.toNat (w64 (st19.2 - 1))) e21), (w64 (st19.2 - 1))))
                  else
                    none
                else
                  none
              else
                none
            else
              none
          else
            some (.inr st19.1) : Option (((List Int) × Int) ⊕ ((List Int))))) (o17.1, p_m)).bind fun o22 =>
      some o22
    else
      (bif (decide ((w64 (shiftI .shr .u64 (IntKind.u64.wrap (w64 (p_a + p_b))) 1)) < p_m)) then
          some (p_data, (w64 ((w64 ((w64 (shiftI .shr .u64 (IntKind.u64.wrap (w64 (p_a + p_b))) 1)) + p_m)) - p_b)), (w64 (shiftI .shr .u64 (IntKind.u64.wrap (w64 (p_a + p_b))) 1)))
        else
          some (p_data, p_a, p_m)).bind fun j23 =>
      (loopE (fun (st25 : (List Int) × Int × Int) => (
          bif (decide (st25.2.1 < st25.2.2)) then
            bif decide (0 ≤ (w64 ((w64 ((w64 ((w64 (shiftI .shr .u64 (IntKind.u64.wrap (w64 (p_a + p_b))) 1)) + p_m)) - 1)) - (w64 (shiftI .shr .u64 (IntKind.u64.wrap (w64 (st25.2.1 + st25.2.2))) 1))))) && decide ((w64 ((w64 ((w64 ((w64 (shiftI .shr .u64 (IntKind.u64.wrap (w64 (p_a + p_b))) 1)) + p_m)) - 1)) - (w64 (shiftI .shr .u64 (IntKind.u64.wrap (w64 (st25.2.1 + st25.2.2))) 1)))) < (st25.1.length : Int)) then
              (st25.1[(Int.toNat (w64 ((w64 ((w64 ((w64 (shiftI .shr .u64 (IntKind.u64.wrap (w64 (p_a + p_b))) 1)) + p_m)) - 1)) - (w64 (shiftI .shr .u64 (IntKind.u64.wrap (w64 (st25.2.1 + st25.2.2))) 1)))))]?).bind fun e26 =>
              bif decide (0 ≤ (w64 (shiftI .shr .u64 (IntKind.u64.wrap (w64 (st25.2.1 + st25.2.2))) 1))) && decide ((w64 (shiftI .shr .u64 (IntKind.u64.wrap (w64 (st25.2.1 + st25.2.2))) 1)) < (st25.1.length : Int)) then
                (st25.1[(Int.toNat (w64 (shiftI .shr .u64 (IntKind.u64.wrap (w64 (st25.2.1 + st25.2.2))) 1)))]?).bind fun e27 =>
                (i_DealAnew_2 e26 e27 p_cmp.1).bind fun r28 =>
                bif (!(decide (r28 < 0))) then
                  some (.inl (st25.1, (w64 ((w64 (shiftI .shr .u64 (IntKind.u64.wrap (w64 (st25.2.1 + st25.2.2))) 1)) + 1)), st25.2.2))
                else
                  some (.inl (st25.1, st25.2.1, (w64 (shiftI .shr .u64 (IntKind.u64.wrap (w64 (st25.2.1 + st25.2.2))) 1))))
              else
                none
            else
              none
          else
            some (.inr (st25.1, st25.2.1)) : Option (((List Int) × Int × Int) ⊕ (((List Int) × Int))))) (j23.1, j23.2.1, j23.2.2)).bind fun o29 =>
      (bif (decide (o29.2 < p_m)) then
          some (decide (p_m < (w64 ((w64 ((w64 (shiftI .shr .u64 (IntKind.u64.wrap (w64 (p_a + p_b))) 1)) + p_m)) - o29.2))))
        else
          some false).bind fun c30 =>
      bif c30 then
        (slices_rotateCmpFunc_int_70 o29.1 o29.2 p_m (w64 ((w64 ((w64 (shiftI .shr .u64 (IntKind.u64.wrap (w64 (p_a + p_b))) 1)) + p_m)) - o29.2)) p_cmp).bind fun r31 =>
        (bif (decide (p_a < o29.2)) then
            some (decide (o29.2 < (w64 (shiftI .shr .u64 (IntKind.u64.wrap (w64 (p_a + p_b))) 1))))
          else
            some false).bind fun c32 =>
        bif c32 then
          (slices_symMergeCmpFunc_int_again r31 p_a o29.2 (w64 (shiftI .shr .u64 (IntKind.u64.wrap (w64 (p_a + p_b))) 1)) p_cmp).bind fun r33 =>
          (bif (decide ((w64 (shiftI .shr .u64 (IntKind.u64.wrap (w64 (p_a + p_b))) 1)) < (w64 ((w64 ((w64 (shiftI .shr .u64 (IntKind.u64.wrap (w64 (p_a + p_b))) 1)) + p_m)) - o29.2)))) then
              some (decide ((w64 ((w64 ((w64 (shiftI .shr .u64 (IntKind.u64.wrap (w64 (p_a + p_b))) 1)) + p_m)) - o29.2)) < p_b))
            else
              some false).bind fun c34 =>
          bif c34 then
            (slices_symMergeCmpFunc_int_again r33 (w64 (shiftI .shr .u64 (IntKind.u64.wrap (w64 (p_a + p_b))) 1)) (w64 ((w64 ((w64 (shiftI .shr .u64 (IntKind.u64.wrap (w64 (p_a + p_b))) 1)) + p_m)) - o29.2)) p_b p_cmp).bind fun r35 =>
            some r35
          else
            some r33
        else
          (bif (decide ((w64 (shiftI .shr .u64 (IntKind.u64.wrap (w64 (p_a + p_b))) 1)) < (w64 ((w64 ((w64 (shiftI .shr .u64 (IntKind.u64.wrap (w64 (p_a + p_b))) 1)) + p_m)) - o29.2)))) then
              some (decide ((w64 ((w64 ((w64 (shiftI .shr .u64 (IntKind.u64.wrap (w64 (p_a + p_b))) 1)) + p_m)) - o29.2)) < p_b))
            else
              some false).bind fun c36 =>
          bif c36 then
            (slices_symMergeCmpFunc_int_again r31 (w64 (shiftI .shr .u64 (IntKind.u64.wrap (w64 (p_a + p_b))) 1)) (w64 ((w64 ((w64 (shiftI .shr .u64 (IntKind.u64.wrap (w64 (p_a + p_b))) 1)) + p_m)) - o29.2)) p_b p_cmp).bind fun r37 =>
            some r37
          else
            some r31
      else
        (bif (decide (p_a < o29.2)) then
            some (decide (o29.2 < (w64 (shiftI .shr .u64 (IntKind.u64.wrap (w64 (p_a + p_b))) 1))))
          else
            some false).bind fun c38 =>
        bif c38 then
          (slices_symMergeCmpFunc_int_again o29.1 p_a o29.2 (w64 (shiftI .shr .u64 (IntKind.u64.wrap (w64 (p_a + p_b))) 1)) p_cmp).bind fun r39 =>
          (bif (decide ((w64 (shiftI .shr .u64 (IntKind.u64.wrap (w64 (p_a + p_b))) 1)) < (w64 ((w64 ((w64 (shiftI .shr .u64 (IntKind.u64.wrap (w64 (p_a + p_b))) 1)) + p_m)) - o29.2)))) then
              some (decide ((w64 ((w64 ((w64 (shiftI .shr .u64 (IntKind.u64.wrap (w64 (p_a + p_b))) 1)) + p_m)) - o29.2)) < p_b))
            else
              some false).bind fun c40 =>
          bif c40 then
            (slices_symMergeCmpFunc_int_again r39 (w64 (shiftI .shr .u64 (IntKind.u64.wrap (w64 (p_a + p_b))) 1)) (w64 ((w64 ((w64 (shiftI .shr .u64 (IntKind.u64.wrap (w64 (p_a + p_b))) 1)) + p_m)) - o29.2)) p_b p_cmp).bind fun r41 =>
            some r41
          else
            some r39
        else
          (bif (decide ((w64 (shiftI .shr .u64 (IntKind.u64.wrap (w64 (p_a + p_b))) 1)) < (w64 ((w64 ((w64 (shiftI .shr .u64 (IntKind.u64.wrap (w64 (p_a + p_b))) 1)) + p_m)) - o29.2)))) then
              some (decide ((w64 ((w64 ((w64 (shiftI .shr .u64 (IntKind.u64.wrap (w64 (p_a + p_b))) 1)) + p_m)) - o29.2)) < p_b))
            else
              some false).bind fun c42 =>
          bif c42 then
            (slices_symMergeCmpFunc_int_again o29.1 (w64 (shiftI .shr .u64 (IntKind.u64.wrap (w64 (p_a + p_b))) 1)) (w64 ((w64 ((w64 (shiftI .shr .u64 (IntKind.u64.wrap (w64 (p_a + p_b))) 1)) + p_m)) - o29.2)) p_b p_cmp).bind fun r43 =>
            some r43
          else
            some o29.1
noncomputable def slices_symMergeCmpFunc_int_70_it : Nat → (List Int) → Int → Int → Int → ((List Int) × Unit) → Option ((List Int))
  | 0, _, _, _, _, _ => none
  | k + 1, p_data, p_a, p_m, p_b, p_cmp => slices_symMergeCmpFunc_int_70_step (slices_symMergeCmpFunc_int_70_it k) p_data p_a p_m p_b p_cmp
noncomputable def slices_symMergeCmpFunc_int_70 (p_data : List Int) (p_a : Int) (p_m : Int) (p_b : Int) (p_cmp : (List Int) × Unit) : Option ((List Int)) := limE fun k => slices_symMergeCmpFunc_int_70_it k p_data p_a p_m p_b p_cmp
noncomputable def C134_70 : FnSpec := { ps := [.own (.slice (.int .i64)), .val (.int .i64), .val (.int .i64), .val (.int .i64), .fn 70 [(.slice (.int .i64))]], rs := [], fn := fun x => slices_symMergeCmpFunc_int_70 x.1 x.2.1 x.2.2.1 x.2.2.2.1 x.2.2.2.2 }
noncomputable def CR134_70 (again : (List Int) → Int → Int → Int → ((List Int) × Unit) → Option ((List Int))) : FnSpec := { ps := [.own (.slice (.int .i64)), .val (.int .i64), .val (.int .i64), .val (.int .i64), .fn 70 [(.slice (.int .i64))]], rs := [], fn := fun x => again x.1 x.2.1 x.2.2.1 x.2.2.2.1 x.2.2.2.2 }
noncomputable def E134_70 (again : (List Int) → Int → Int → Int → ((List Int) × Unit) → Option ((List Int))) : Env := { T := [(3, (.int .i64)), (38, (.slice (.int .i64))), (123, (.int .u64))], G := [(70, C70), (134, CR134_70 again), (140, C140_70)], ro := [], loops := [(3, { keep := [1, 4], live := [.own 0 [] 100000 (.int .i64) true, .tv 10 (.int .i64), .tv 11 (.int .i64)], outs := [(.exit 0, [.own 0 [] 100000 (.int .i64) true, .tv 10 (.int .i64)])] }), (9, { keep := [10], live := [.own 0 [] 100000 (.int .i64) true, .tv 13 (.int .i64)], outs := [(.exit 2, [.own 0 [] 100000 (.int .i64) true])] }), (15, { keep := [2, 4], live := [.own 0 [] 100000 (.int .i64) true, .tv 14 (.int .i64), .tv 15 (.int .i64)], outs := [(.exit 4, [.own 0 [] 100000 (.int .i64) true, .tv 14 (.int .i64)])] }), (21, { keep := [14], live := [.own 0 [] 100000 (.int .i64) true, .tv 17 (.int .i64)], outs := [(.exit 6, [.own 0 [] 100000 (.int .i64) true])] }), (33, { keep := [1, 2, 3, 4, 18, 19, 22, 182, 183, 184, 196, 197, 198, 210, 211, 212], live := [.own 0 [] 100000 (.int .i64) true, .tv 20 (.int .i64), .tv 21 (.int .i64)], outs := [(.exit 8, [.own 0 [] 100000 (.int .i64) true, .tv 20 (.int .i64)])] })], joins := [(32, { keep := [1, 2, 3, 4, 18, 19], live := [], outs := [(.normal, [.own 0 [] 100000 (.int .i64) true, .tv 20 (.int .i64), .tv 21 (.int .i64)])] })], hoist := [(11, [2, 3, 4]), (23, [2, 3, 4])] }
theorem E134_70_eq : ∀ (again : (List Int) → Int → Int → Int → ((List Int) × Unit) → Option ((List Int))) x, afun (E134_70 again) Try.f134 C134_70.ps C134_70.rs x = slices_symMergeCmpFunc_int_70_step again x.1 x.2.1 x.2.2.1 x.2.2.2.1 x.2.2.2.2 := fun again x => by kernel_rfl
theorem S134_70_it : ∀ k, Sound Try.prog 134 (CR134_70 (slices_symMergeCmpFunc_int_70_it k))
  | 0 => fun _ _ _ _ _ _ _ _ _ _ h => nomatch h
  | k + 1 => fun_sound_own (E := E134_70 (slices_symMergeCmpFunc_int_70_it k)) ⟨good_T (by kernel_rfl), (good_cons S70 ⟨_, Try.func70, by kernel_rfl, by kernel_rfl⟩ (good_cons (S134_70_it k) ⟨_, Try.func134, by kernel_rfl, by kernel_rfl⟩ (good_cons S140_70 ⟨_, Try.func140, by kernel_rfl, by kernel_rfl⟩ good_nil))), mixedOk, ins_nil⟩ Try.func134 rfl rfl (E134_70_eq _)
theorem S134_70 : Sound Try.prog 134 C134_70 := sound_lim (P := Try.prog) (f := 134) (ps := C134_70.ps) (rs := C134_70.rs) (g := fun k x => slices_symMergeCmpFunc_int_70_it k x.1 x.2.1 x.2.2.1 x.2.2.2.1 x.2.2.2.2) S134_70_it
/-- slices.stableCmpFunc[int] -/
noncomputable def slices_stableCmpFunc_int_70 (p_data : List Int) (p_n : Int) (p_cmp : (List Int) × Unit) : Option ((List Int)) :=
  (loopE (fun (st2 : (List Int) × Int × Int) => (
      bif (decide (st2.2.2 ≤ p_n)) then
        (slices_insertionSortCmpFunc_int_70 st2.1 st2.2.1 st2.2.2 p_cmp).bind fun r3 =>
        some (.inl (r3, st2.2.2, (w64 (st2.2.2 + 20))))
      else
        some (.inr (st2.1, st2.2.1)) : Option (((List Int) × Int × Int) ⊕ (((List Int) × Int))))) (p_data, 0, 20)).bind fun o4 =>
  (slices_insertionSortCmpFunc_int_70 o4.1 o4.2 p_n p_cmp).bind fun r5 =>
  (loopE (fun (st7 : (List Int) × Int) => (
      bif (decide (st7.2 < p_n)) then
        (loopE (fun (st9 : (List Int) × Int × Int) => (
            bif (decide (st9.2.2 ≤ p_n)) then
              (slices_symMergeCmpFunc_int_70 st9.1 st9.2.1 (w64 (st9.2.1 + st7.2)) st9.2.2 p_cmp).bind fun r10 =>
              some (.inl (r10, st9.2.2, (w64 (st9.2.2 + (w64 (2 * st7.2))))))
            else
              some (.inr (st9.1, st9.2.1)) : Option (((List Int) × Int × Int) ⊕ (((List Int) × Int))))) (st7.1, 0, (w64 (2 * st7.2)))).bind fun o11 =>
        bif (decide ((w64 (o11.2 + st7.2)) < p_n)) then
          (slices_symMergeCmpFunc_int_70 o11.1 o11.2 (w64 (o11.2 + st7.2)) p_n p_cmp).bind fun r12 =>
          some (.inl (r12, (w64 (st7.2 * 2))))
        else
          some (.inl (o11.1, (w64 (st7.2 * 2))))
      else
        some (.inr st7.1) : Option (((List Int) × Int) ⊕ ((List Int))))) (r5, 20)).bind fun o13 =>
  some o13
noncomputable def C110_70 : FnSpec := { ps := [.own (.slice (.int .i64)), .val (.int .i64), .fn 70 [(.slice (.int .i64))]], rs := [], fn := fun x => slices_stableCmpFunc_int_70 x.1 x.2.1 x.2.2 }
noncomputable def E110_70 : Env := { T := [], G := [(133, C133_70), (134, C134_70)], ro := [], loops := [(2, { keep := [1, 2, 6], live := [.own 0 [] 100000 (.int .i64) true, .tv 7 (.int .i64), .tv 8 (.int .i64)], outs := [(.exit 0, [.own 0 [] 100000 (.int .i64) true, .tv 7 (.int .i64)])] }), (7, { keep := [1, 2], live := [.own 0 [] 100000 (.int .i64) true, .tv 6 (.int .i64)], outs := [(.exit 2, [.own 0 [] 100000 (.int .i64) true])] }), (9, { keep := [1, 2, 6], live := [.own 0 [] 100000 (.int .i64) true, .tv 7 (.int .i64), .tv 8 (.int .i64)], outs := [(.exit 4, [.own 0 [] 100000 (.int .i64) true, .tv 7 (.int .i64)])] })], joins := [] }
theorem E110_70_eq : ∀ x, afun E110_70 Try.f110 C110_70.ps C110_70.rs x = C110_70.fn x := fun x => by kernel_rfl
theorem S110_70 : Sound Try.prog 110 C110_70 := fun_sound_own (E := E110_70) ⟨good_T (by kernel_rfl), (good_cons S133_70 ⟨_, Try.func133, by kernel_rfl, by kernel_rfl⟩ (good_cons S134_70 ⟨_, Try.func134, by kernel_rfl, by kernel_rfl⟩ good_nil)), mixedOk, ins_nil⟩ Try.func110 rfl rfl E110_70_eq
/-- slices.SortStableFunc[[]int,int] -/
noncomputable def slices_SortStableFunc_int_70 (p_x : List Int) (p_cmp : (List Int) × Unit) : Option ((List Int)) :=
  (slices_stableCmpFunc_int_70 p_x (p_x.length : Int) p_cmp).bind fun r1 =>
  some r1
noncomputable def C67_70 : FnSpec := { ps := [.own (.slice (.int .i64)), .fn 70 [(.slice (.int .i64))]], rs := [], fn := fun x => slices_SortStableFunc_int_70 x.1 x.2 }
noncomputable def E67_70 : Env := { T := [(38, (.slice (.int .i64)))], G := [(110, C110_70)], ro := [], loops := [], joins := [] }
theorem E67_70_eq : ∀ x, afun E67_70 Try.f67 C67_70.ps C67_70.rs x = C67_70.fn x := fun x => by kernel_rfl
theorem S67_70 : Sound Try.prog 67 C67_70 := fun_sound_own (E := E67_70) ⟨good_T (by kernel_rfl), (good_cons S110_70 ⟨_, Try.func110, by kernel_rfl, by kernel_rfl⟩ good_nil), mixedOk, ins_nil⟩ Try.func67 rfl rfl E67_70_eq
/-- slices.Clone[[]int,int] -/
noncomputable def slices_Clone_int (p_s : List Int) : Option ((List Int)) :=
  bif List.isEmpty p_s then
    bothSame (
      bif true then
        some []
      else
        bif decide (List.length p_s ≤ lim) then
          some p_s
        else
          none)
    (
      bif false then
        some []
      else
        bif decide (List.length p_s ≤ lim) then
          some p_s
        else
          none)
  else
    bif false then
      some []
    else
      bif decide (List.length p_s ≤ lim) then
        some p_s
      else
        none
noncomputable def C72 : FnSpec := { ps := [.val (.slice (.int .i64))], rs := [.own (.slice (.int .i64))], fn := fun x => slices_Clone_int x }
noncomputable def E72 : Env := { T := [(38, (.slice (.int .i64)))], G := [], ro := [], loops := [], joins := [] }
theorem E72_eq : ∀ x, afun E72 Try.f72 C72.ps C72.rs x = C72.fn x := fun x => by kernel_rfl
theorem S72 : Sound Try.prog 72 C72 := fun_sound (E := E72) ⟨good_T (by kernel_rfl), good_nil, mixedOk, ins_nil⟩ Try.func72 rfl E72_eq
/-- impl.cloneBook -/
noncomputable def i_cloneBook (p_b : GBook) : Option (GBook) :=
  bif decide (0 ≤ (p_b.1.length : Int)) && decide ((p_b.1.length : Int) ≤ (p_b.1.length : Int)) && decide ((p_b.1.length : Int) ≤ lim) then
    (loopE (fun (st2 : (List GPhrase) × (List GPhrase) × Int) => (
        bif (decide (st2.2.2 < (p_b.1.length : Int))) then
          (idx p_b.1 st2.2.2).bind fun e3 =>
          (slices_Clone_int e3.2.1).bind fun r4 =>
          bif decide (0 ≤ st2.2.2) && decide (st2.2.2 < (st2.2.1.length : Int)) then
            some (.inl (st2.1, (st2.2.1.set (Int.toNat st2.2.2) (e3.1, r4, ())), (w64 (st2.2.2 + 1))))
          else
            none
        else
          some (.inr (st2.1, st2.2.1)) : Option (((List GPhrase) × (List GPhrase) × Int) ⊕ (((List GPhrase) × (List GPhrase)))))) ([], (List.replicate (Int.toNat (p_b.1.length : Int)) (([], ([], ())) : GPhrase)), 0)).bind fun o5 =>
    some (o5.2, ())
  else
    none
noncomputable def C71 : FnSpec := { ps := [.val TGBook], rs := [.own TGBook], fn := fun x => i_cloneBook x }
noncomputable def E71 : Env := { T := [(9, .str), (30, (.slice TGPhrase)), (32, TGBook), (38, (.slice (.int .i64))), (61, TGPhrase)], G := [(72, C72)], ro := [1], loops := [(3, { keep := [12, 13], live := [.bx 2 32 [.own 300032 TGPhrase true], .bx 3 48 [.own 144 TGPhrase true], .tv 14 (.int .i64)], outs := [(.exit 0, [.bx 2 32 [.own 300032 TGPhrase true], .bx 3 48 [.own 144 TGPhrase true]])] })], joins := [], mv := true }
theorem E71_eq : ∀ x, afun E71 Try.f71 C71.ps C71.rs x = C71.fn x := fun x => by kernel_rfl
theorem S71 : Sound Try.prog 71 C71 := fun_sound (E := E71) ⟨good_T (by kernel_rfl), (good_cons S72 ⟨_, Try.func72, by kernel_rfl, by kernel_rfl⟩ good_nil), mixedOk, ins_nil⟩ Try.func71 rfl E71_eq
/-- impl.DealAnew -/
noncomputable def i_DealAnew (p_b : GBook) (p_weights : List Int) : Option (GBook × Bool) :=
  (i_IsBook p_b).bind fun r1 =>
  (bif (!r1) then
      some true
    else
      (i_areBookWeights p_b p_weights).bind fun r2 =>
      some (!r2)).bind fun c3 =>
  bif c3 then
    some (([], ()), false)
  else
    (i_firstChoice (p_weights.length : Int)).bind fun r4 =>
    (slices_SortStableFunc_int_68 r4 (p_b, ())).bind fun r5 =>
    (i_firstChoice (p_weights.length : Int)).bind fun r6 =>
    (slices_SortStableFunc_int_70 r6 (p_weights, ())).bind fun r7 =>
    (i_cloneBook p_b).bind fun r8 =>
    (loopE (fun (st10 : (List GPhrase) × (List Int) × (List GPhrase) × (List Int) × Int) => (
        bif (decide (st10.2.2.2.2 < (r7.length : Int))) then
          bif decide (0 ≤ st10.2.2.2.2) && decide (st10.2.2.2.2 < (st10.2.2.2.1.length : Int)) then
            (st10.2.2.2.1[(Int.toNat st10.2.2.2.2)]?).bind fun e11 =>
            bif decide (0 ≤ st10.2.2.2.2) && decide (st10.2.2.2.2 < (st10.2.1.length : Int)) then
              (st10.2.1[(Int.toNat st10.2.2.2.2)]?).bind fun e12 =>
              (idx p_b.1 e12).bind fun e13 =>
              (slices_Clone_int e13.2.1).bind fun r14 =>
              bif decide (0 ≤ e11) && decide (e11 < (st10.2.2.1.length : Int)) then
                (st10.2.2.1[(Int.toNat e11)]?).bind fun e15 =>
                some (.inl (st10.1, st10.2.1, (st10.2.2.1.set (Int.toNat e11) (e15.1, r14, ())), st10.2.2.2.1, (w64 (st10.2.2.2.2 + 1))))
              else
                none
            else
              none
          else
            none
        else
          some (.inr (st10.1, st10.2.2.1)) : Option (((List GPhrase) × (List Int) × (List GPhrase) × (List Int) × Int) ⊕ (((List GPhrase) × (List GPhrase)))))) ([], r5, r8.1, r7, 0)).bind fun o16 =>
    some ((o16.2, ()), true)
noncomputable def C17 : FnSpec := { ps := [.val TGBook, .val (.slice (.int .i64))], rs := [.own TGBook, .val .bool], fn := fun x => i_DealAnew x.1 x.2 }
noncomputable def E17 : Env := { T := [(3, (.int .i64)), (30, (.slice TGPhrase)), (32, TGBook), (38, (.slice (.int .i64))), (61, TGPhrase)], G := [(49, C49), (65, C65), (66, C66), (67, C67_68), (67, C67_70), (71, C71), (72, C72)], ro := [2, 3], loops := [(9, { keep := [2, 36], live := [.bx 4 64 [.own 300064 TGPhrase true], .own 6 [] 368 (.int .i64) true, .bx 8 128 [.own 544 TGPhrase true], .own 35 [] 464 (.int .i64) true, .tv 37 (.int .i64)], outs := [(.exit 0, [.bx 4 64 [.own 300064 TGPhrase true], .bx 8 128 [.own 544 TGPhrase true]])] })], joins := [], mv := true }
theorem E17_eq : ∀ x, afun E17 Try.f17 C17.ps C17.rs x = C17.fn x := fun x => by kernel_rfl
theorem S17 : Sound Try.prog 17 C17 := fun_sound (E := E17) ⟨good_T (by kernel_rfl), (good_cons S49 ⟨_, Try.func49, by kernel_rfl, by kernel_rfl⟩ (good_cons S65 ⟨_, Try.func65, by kernel_rfl, by kernel_rfl⟩ (good_cons S66 ⟨_, Try.func66, by kernel_rfl, by kernel_rfl⟩ (good_cons S67_68 ⟨_, Try.func67, by kernel_rfl, by kernel_rfl⟩ (good_cons S67_70 ⟨_, Try.func67, by kernel_rfl, by kernel_rfl⟩ (good_cons S71 ⟨_, Try.func71, by kernel_rfl, by kernel_rfl⟩ (good_cons S72 ⟨_, Try.func72, by kernel_rfl, by kernel_rfl⟩ good_nil))))))), mixedOk, ins_nil⟩ Try.func17 rfl E17_eq
/-- (*spec.l1Cur).next -/
noncomputable def s_l1Cur_next (p_c : Gl1Cur) : Option (Gl1Cur × Int) :=
  (bif (decide (p_c.2.1 < (p_c.1.length : Int))) then
      (idx p_c.1 p_c.2.1).bind fun e1 =>
      some (p_c.1, p_c.2.1, p_c.2.2.1, (w64 e1))
    else
      some (p_c.1, p_c.2.1, p_c.2.2.1, 0)).bind fun j2 =>
  bif (decide ((w64 (j2.2.1 + 1)) ≤ (j2.1.length : Int))) then
    some ((j2.1, (w64 (j2.2.1 + 1)), (IntKind.u64.wrap ((IntKind.u64.wrap ((IntKind.u64.wrap (j2.2.2.1 * 6364136223846793005)) + (IntKind.u64.wrap j2.2.2.2))) + 1442695040888963407)), ()), j2.2.2.2)
  else
    some ((j2.1, (w64 (j2.2.1 + 1)), (IntKind.u64.wrap ((IntKind.u64.wrap ((IntKind.u64.wrap (j2.2.2.1 * 6364136223846793005)) + (IntKind.u64.wrap j2.2.2.2))) + 1442695040888963407)), ()), (w64 (bitsI .and .u64 (shiftI .shr .u64 (IntKind.u64.wrap ((IntKind.u64.wrap ((IntKind.u64.wrap (j2.2.2.1 * 6364136223846793005)) + (IntKind.u64.wrap j2.2.2.2))) + 1442695040888963407)) 40) 255)))
noncomputable def C114 : FnSpec := { ps := [.mbox TGl1Cur], rs := [.val (.int .i64)], fn := fun x => s_l1Cur_next x }
noncomputable def E114 : Env := { T := [(3, (.int .i64)), (5, (.int .u8)), (46, (.slice (.int .u8))), (87, (.int .u64)), (89, TGl1Cur)], G := [], ro := [], loops := [], joins := [(4, { keep := [], live := [], outs := [(.normal, [.bx 0 100000 [.pv (.slice (.int .u8)), .pv (.int .i64), .pv (.int .u64)], .tv 3 (.int .i64)])] })] }
theorem E114_eq : ∀ x, afun E114 Try.f114 C114.ps C114.rs x = C114.fn x := fun x => by kernel_rfl
theorem S114 : Sound Try.prog 114 C114 := fun_sound_box (E := E114) ⟨good_T (by kernel_rfl), good_nil, mixedOk, ins_nil⟩ Try.func114 rfl E114_eq
/-- (*spec.l1Cur).pick -/
noncomputable def s_l1Cur_pick (p_c : Gl1Cur) (p_n : Int) : Option (Gl1Cur × Int) :=
  bif (decide (p_n ≤ 1)) then
    some (p_c, 0)
  else
    (s_l1Cur_next p_c).bind fun r1 =>
    bif (decide (200 < p_n)) then
      (s_l1Cur_next r1.1).bind fun r2 =>
      bif (!decide (p_n = 0)) then
        some (r2.1, (Int.tmod (w64 ((w64 (r1.2 * 256)) + r2.2)) p_n))
      else
        none
    else
      bif (!decide (p_n = 0)) then
        some (r1.1, (Int.tmod r1.2 p_n))
      else
        none
noncomputable def C75 : FnSpec := { ps := [.mbox TGl1Cur, .val (.int .i64)], rs := [.val (.int .i64)], fn := fun x => s_l1Cur_pick x.1 x.2 }
noncomputable def E75 : Env := { T := [], G := [(114, C114)], ro := [], loops := [], joins := [] }
theorem E75_eq : ∀ x, afun E75 Try.f75 C75.ps C75.rs x = C75.fn x := fun x => by kernel_rfl
theorem S75 : Sound Try.prog 75 C75 := fun_sound_box (E := E75) ⟨good_T (by kernel_rfl), (good_cons S114 ⟨_, Try.func114, by kernel_rfl, by kernel_rfl⟩ good_nil), mixedOk, ins_nil⟩ Try.func75 rfl E75_eq
/-- (*spec.l1Cur).among -/
noncomputable def s_l1Cur_among (p_c : Gl1Cur) (p_list : List Int) : Option (Gl1Cur × Int) :=
  (s_l1Cur_pick p_c (p_list.length : Int)).bind fun r1 =>
  (idx p_list r1.2).bind fun e2 =>
  some (r1.1, e2)
noncomputable def C83 : FnSpec := { ps := [.mbox TGl1Cur, .val (.slice (.int .i64))], rs := [.val (.int .i64)], fn := fun x => s_l1Cur_among x.1 x.2 }
noncomputable def E83 : Env := { T := [(3, (.int .i64)), (38, (.slice (.int .i64)))], G := [(75, C75)], ro := [], loops := [], joins := [] }
theorem E83_eq : ∀ x, afun E83 Try.f83 C83.ps C83.rs x = C83.fn x := fun x => by kernel_rfl
theorem S83 : Sound Try.prog 83 C83 := fun_sound_box (E := E83) ⟨good_T (by kernel_rfl), (good_cons S75 ⟨_, Try.func75, by kernel_rfl, by kernel_rfl⟩ good_nil), mixedOk, ins_nil⟩ Try.func83 rfl E83_eq
/-- (*spec.l1Cur).of -/
noncomputable def s_l1Cur_of (p_c : Gl1Cur) (p_list : List Bytes) : Option (Gl1Cur × Bytes) :=
  (s_l1Cur_pick p_c (p_list.length : Int)).bind fun r1 =>
  (idx p_list r1.2).bind fun e2 =>
  some (r1.1, e2)
noncomputable def C115 : FnSpec := { ps := [.mbox TGl1Cur, .val (.slice .str)], rs := [.val .str], fn := fun x => s_l1Cur_of x.1 x.2 }
noncomputable def E115 : Env := { T := [(9, .str), (25, (.slice .str))], G := [(75, C75)], ro := [], loops := [], joins := [] }
theorem E115_eq : ∀ x, afun E115 Try.f115 C115.ps C115.rs x = C115.fn x := fun x => by kernel_rfl
theorem S115 : Sound Try.prog 115 C115 := fun_sound_box (E := E115) ⟨good_T (by kernel_rfl), (good_cons S75 ⟨_, Try.func75, by kernel_rfl, by kernel_rfl⟩ good_nil), mixedOk, ins_nil⟩ Try.func115 rfl E115_eq
/-- (*spec.l1Cur).one -/
noncomputable def s_l1Cur_one (p_c : Gl1Cur) (p_n : Int) : Option (Gl1Cur × Bool) :=
  (s_l1Cur_pick p_c p_n).bind fun r1 =>
  some (r1.1, (decide (r1.2 = 0)))
noncomputable def C76 : FnSpec := { ps := [.mbox TGl1Cur, .val (.int .i64)], rs := [.val .bool], fn := fun x => s_l1Cur_one x.1 x.2 }
noncomputable def E76 : Env := { T := [], G := [(75, C75)], ro := [], loops := [], joins := [] }
theorem E76_eq : ∀ x, afun E76 Try.f76 C76.ps C76.rs x = C76.fn x := fun x => by kernel_rfl
theorem S76 : Sound Try.prog 76 C76 := fun_sound_box (E := E76) ⟨good_T (by kernel_rfl), (good_cons S75 ⟨_, Try.func75, by kernel_rfl, by kernel_rfl⟩ good_nil), mixedOk, ins_nil⟩ Try.func76 rfl E76_eq
/-- spec.phraseTexts -/
noncomputable def s_phraseTexts : Option ((List Bytes)) :=
  some [([97] : Bytes), ([97, 98, 98, 101, 121] : Bytes), ([97, 114, 114, 105, 118, 101] : Bytes), ([98] : Bytes), ([98, 111, 97, 116] : Bytes), ([98, 111, 97, 116, 115] : Bytes), ([99, 108, 101, 97, 114] : Bytes), ([101] : Bytes), ([101, 110, 101, 109, 121] : Bytes), ([102, 108, 101, 101, 116] : Bytes), ([102, 111, 103] : Bytes), ([102, 114, 111, 109] : Bytes), ([104, 97, 114, 98, 111, 117, 114] : Bytes), ([105, 110] : Bytes), ([110, 111, 114, 116, 104] : Bytes), ([112, 111, 114, 116] : Bytes), ([113, 117, 97, 114, 97, 110, 116, 105, 110, 101, 100] : Bytes), ([115, 97, 105, 108, 115] : Bytes), ([115, 104, 105, 112] : Bytes), ([115, 104, 105, 112, 115] : Bytes), ([115, 111, 117, 116, 104] : Bytes), ([115, 116, 111, 114, 109] : Bytes), ([116, 104, 101] : Bytes), ([116, 111] : Bytes), ([116, 111, 110, 105, 103, 104, 116] : Bytes), ([122] : Bytes)]
noncomputable def C135 : FnSpec := { ps := [], rs := [.own (.slice .str)], fn := fun x => s_phraseTexts }
noncomputable def E135 : Env := { T := [(25, (.slice .str))], G := [], ro := [], loops := [], joins := [] }
theorem E135_eq : ∀ x, afun E135 Try.f135 C135.ps C135.rs x = C135.fn x := fun x => by kernel_rfl
theorem S135 : Sound Try.prog 135 C135 := fun_sound (E := E135) ⟨good_T (by kernel_rfl), good_nil, mixedOk, ins_nil⟩ Try.func135 rfl E135_eq
/-- (*spec.l1Cur).book -/
noncomputable def s_l1Cur_book (p_c : Gl1Cur) : Option (Gl1Cur × GBook) :=
  (s_phraseTexts).bind fun r1 =>
  (loopE (fun (st3 : (List Int) × Int × Int × (List GPhrase) × (List GPhrase) × (List Bytes) × Int) => (
      bif (decide (st3.2.2.2.2.2.2 < (r1.length : Int))) then
        bif decide (0 ≤ st3.2.2.2.2.2.2) && decide (st3.2.2.2.2.2.2 < (st3.2.2.2.2.2.1.length : Int)) then
          (st3.2.2.2.2.2.1[(Int.toNat st3.2.2.2.2.2.2)]?).bind fun e4 =>
          (s_l1Cur_one (st3.1, st3.2.1, st3.2.2.1, ()) 2).bind fun r5 =>
          (bif (!r5.2) then
              some (decide (0 < (st3.2.2.2.2.1.length : Int)))
            else
              some false).bind fun c6 =>
          bif c6 then
            some (.inl (r5.1.1, r5.1.2.1, r5.1.2.2.1, st3.2.2.2.1, st3.2.2.2.2.1, st3.2.2.2.2.2.1, (w64 (st3.2.2.2.2.2.2 + 1))))
          else
            (s_l1Cur_among r5.1 [2, 4, 60]).bind fun r7 =>
            (loopE (fun (st9 : (List Int) × Int × Int × (List GPhrase) × (List GPhrase) × Int × (List Bytes)) => (
                bif (decide (st9.2.2.2.2.2.1 < 9)) then
                  (s_l1Cur_among (st9.1, st9.2.1, st9.2.2.1, ()) [1, 1, 2, 2, 3]).bind fun r10 =>
                  (loopE (fun (st12 : (List Int) × Int × Int × (List GPhrase) × (List GPhrase) × Bytes × (List Int) × Int × (List Bytes)) => (
                      bif (decide (0 < st12.2.2.2.2.2.2.2.1)) then
                        (s_l1Cur_pick (st12.1, st12.2.1, st12.2.2.1, ()) r7.2).bind fun r13 =>
                        bif decide (List.length st12.2.2.2.2.2.2.1 + List.length [(w64 (1 + r13.2))] ≤ lim) then
                          some (.inl (r13.1.1, r13.1.2.1, r13.1.2.2.1, st12.2.2.2.1, st12.2.2.2.2.1, st12.2.2.2.2.2.1, (st12.2.2.2.2.2.2.1 ++ [(w64 (1 + r13.2))]), (w64 (st12.2.2.2.2.2.2.2.1 - 1)), st12.2.2.2.2.2.2.2.2))
                        else
                          none
                      else
                        some (.inr (st12.1, st12.2.1, st12.2.2.1, st12.2.2.2.1, st12.2.2.2.2.1, st12.2.2.2.2.2.1, st12.2.2.2.2.2.2.1, st12.2.2.2.2.2.2.2.2)) : Option (((List Int) × Int × Int × (List GPhrase) × (List GPhrase) × Bytes × (List Int) × Int × (List Bytes)) ⊕ (((List Int) × Int × Int × (List GPhrase) × (List GPhrase) × Bytes × (List Int) × (List Bytes)))))) (r10.1.1, r10.1.2.1, r10.1.2.2.1, st9.2.2.2.1, st9.2.2.2.2.1, e4, [], r10.2, st9.2.2.2.2.2.2)).bind fun o14 =>
                  (s_bkOf (o14.2.2.2.2.1, ()) o14.2.2.2.2.2.2.1).bind fun r15 =>
                  bif (decide (r15 < 0)) then
                    bif decide (List.length o14.2.2.2.2.1 + List.length [(o14.2.2.2.2.2.1, o14.2.2.2.2.2.2.1, ())] ≤ lim) then
                      some (.inr (o14.1, o14.2.1, o14.2.2.1, o14.2.2.2.1, (o14.2.2.2.2.1 ++ [(o14.2.2.2.2.2.1, o14.2.2.2.2.2.2.1, ())]), o14.2.2.2.2.2.2.2))
                    else
                      none
                  else
                    some (.inl (o14.1, o14.2.1, o14.2.2.1, o14.2.2.2.1, o14.2.2.2.2.1, (w64 (st9.2.2.2.2.2.1 + 1)), o14.2.2.2.2.2.2.2))
                else
                  some (.inr (st9.1, st9.2.1, st9.2.2.1, st9.2.2.2.1, st9.2.2.2.2.1, st9.2.2.2.2.2.2)) : Option (((List Int) × Int × Int × (List GPhrase) × (List GPhrase) × Int × (List Bytes)) ⊕ (((List Int) × Int × Int × (List GPhrase) × (List GPhrase) × (List Bytes)))))) (r7.1.1, r7.1.2.1, r7.1.2.2.1, st3.2.2.2.1, st3.2.2.2.2.1, 0, st3.2.2.2.2.2.1)).bind fun o16 =>
            some (.inl (o16.1, o16.2.1, o16.2.2.1, o16.2.2.2.1, o16.2.2.2.2.1, o16.2.2.2.2.2, (w64 (st3.2.2.2.2.2.2 + 1))))
        else
          none
      else
        some (.inr (st3.1, st3.2.1, st3.2.2.1, st3.2.2.2.1, st3.2.2.2.2.1)) : Option (((List Int) × Int × Int × (List GPhrase) × (List GPhrase) × (List Bytes) × Int) ⊕ (((List Int) × Int × Int × (List GPhrase) × (List GPhrase)))))) (p_c.1, p_c.2.1, p_c.2.2.1, [], [], r1, 0)).bind fun o17 =>
  (s_l1Cur_one (o17.1, o17.2.1, o17.2.2.1, ()) 2).bind fun r18 =>
  bif r18.2 then
    (loopE (fun (st20 : (List Int) × Int × Int × (List GPhrase) × (List GPhrase) × Int) => (
        bif (decide (st20.2.2.2.2.2 < (o17.2.2.2.2.length : Int))) then
          bif decide (0 ≤ st20.2.2.2.2.2) && decide (st20.2.2.2.2.2 < (st20.2.2.2.2.1.length : Int)) then
            (st20.2.2.2.2.1[(Int.toNat st20.2.2.2.2.2)]?).bind fun e21 =>
            some (.inl (st20.1, st20.2.1, st20.2.2.1, st20.2.2.2.1, (st20.2.2.2.2.1.set (Int.toNat st20.2.2.2.2.2) (e21.1, [(w64 (1 + st20.2.2.2.2.2))], ())), (w64 (st20.2.2.2.2.2 + 1))))
          else
            none
        else
          some (.inr (st20.1, st20.2.1, st20.2.2.1, st20.2.2.2.1, st20.2.2.2.2.1)) : Option (((List Int) × Int × Int × (List GPhrase) × (List GPhrase) × Int) ⊕ (((List Int) × Int × Int × (List GPhrase) × (List GPhrase)))))) (r18.1.1, r18.1.2.1, r18.1.2.2.1, o17.2.2.2.1, o17.2.2.2.2, 0)).bind fun o22 =>
    some ((o22.1, o22.2.1, o22.2.2.1, ()), (o22.2.2.2.2, ()))
  else
    some (r18.1, (o17.2.2.2.2, ()))
noncomputable def C116 : FnSpec := { ps := [.mbox TGl1Cur], rs := [.own TGBook], fn := fun x => s_l1Cur_book x }
noncomputable def E116 : Env := { T := [(9, .str), (25, (.slice .str)), (30, (.slice TGPhrase)), (32, TGBook), (38, (.slice (.int .i64))), (61, TGPhrase)], G := [(75, C75), (76, C76), (83, C83), (102, C102), (135, C135)], ro := [], loops := [(3, { keep := [13], live := [.bx 0 100000 [.pv (.slice (.int .u8)), .pv (.int .i64), .pv (.int .u64)], .bx 2 32 [.own 300032 TGPhrase true], .bx 3 48 [.own 300048 TGPhrase true], .own 12 [] 192 .str true, .tv 14 (.int .i64)], outs := [(.exit 0, [.bx 0 100000 [.pv (.slice (.int .u8)), .pv (.int .i64), .pv (.int .u64)], .bx 2 32 [.own 300032 TGPhrase true], .bx 3 48 [.own 300048 TGPhrase true]])] }), (8, { keep := [5, 6, 13, 14, 22, 23, 24, 25], live := [.bx 0 100000 [.pv (.slice (.int .u8)), .pv (.int .i64), .pv (.int .u64)], .bx 2 32 [.own 300032 TGPhrase true], .bx 3 48 [.own 300048 TGPhrase true], .tv 7 (.int .i64), .own 12 [] 192 .str true], outs := [(.exit 2, [.bx 0 100000 [.pv (.slice (.int .u8)), .pv (.int .i64), .pv (.int .u64)], .bx 2 32 [.own 300032 TGPhrase true], .bx 3 48 [.own 300048 TGPhrase true], .own 12 [] 192 .str true])] }), (12, { keep := [5, 6, 7, 13, 14, 22, 23, 24, 25], live := [.bx 0 100000 [.pv (.slice (.int .u8)), .pv (.int .i64), .pv (.int .u64)], .bx 2 32 [.own 300032 TGPhrase true], .bx 3 48 [.own 300048 TGPhrase true], .bx 8 128 [.pv .str, .own 300129 (.int .i64) true], .tv 9 (.int .i64), .own 12 [] 192 .str true], outs := [(.exit 4, [.bx 0 100000 [.pv (.slice (.int .u8)), .pv (.int .i64), .pv (.int .u64)], .bx 2 32 [.own 300032 TGPhrase true], .bx 3 48 [.own 300048 TGPhrase true], .bx 8 128 [.pv .str, .own 300129 (.int .i64) true], .own 12 [] 192 .str true])] }), (20, { keep := [68], live := [.bx 0 100000 [.pv (.slice (.int .u8)), .pv (.int .i64), .pv (.int .u64)], .bx 2 32 [.own 300032 TGPhrase true], .bx 3 48 [.own 300048 TGPhrase true], .tv 69 (.int .i64)], outs := [(.exit 6, [.bx 0 100000 [.pv (.slice (.int .u8)), .pv (.int .i64), .pv (.int .u64)], .bx 2 32 [.own 300032 TGPhrase true], .bx 3 48 [.own 300048 TGPhrase true]])] })], joins := [], mv := true, hoist := [(14, [0])], aside := [(47, 100000)] }
theorem E116_eq : ∀ x, afun E116 Try.f116 C116.ps C116.rs x = C116.fn x := fun x => by kernel_rfl
theorem S116 : Sound Try.prog 116 C116 := fun_sound_box (E := E116) ⟨good_T (by kernel_rfl), (good_cons S75 ⟨_, Try.func75, by kernel_rfl, by kernel_rfl⟩ (good_cons S76 ⟨_, Try.func76, by kernel_rfl, by kernel_rfl⟩ (good_cons S83 ⟨_, Try.func83, by kernel_rfl, by kernel_rfl⟩ (good_cons S102 ⟨_, Try.func102, by kernel_rfl, by kernel_rfl⟩ (good_cons S135 ⟨_, Try.func135, by kernel_rfl, by kernel_rfl⟩ good_nil))))), mixedOk, ins_nil⟩ Try.func116 rfl E116_eq
/-- spec.manyPhrases -/
noncomputable def s_manyPhrases (p_n : Int) : Option (GBook) :=
  (loopE (fun (st2 : (List GPhrase) × (List GPhrase) × Int) => (
      bif (decide (st2.2.2 < p_n)) then
        bif decide (List.length st2.2.1 + List.length [((toStr [(IntKind.u8.wrap (w64 (97 + (w64 (Int.tdiv st2.2.2 20))))), (IntKind.u8.wrap (w64 (97 + (Int.tmod st2.2.2 20))))]), [(w64 (1 + (Int.tmod st2.2.2 30))), (w64 (1 + (w64 (Int.tdiv st2.2.2 30))))], ())] ≤ lim) then
          some (.inl (st2.1, (st2.2.1 ++ [((toStr [(IntKind.u8.wrap (w64 (97 + (w64 (Int.tdiv st2.2.2 20))))), (IntKind.u8.wrap (w64 (97 + (Int.tmod st2.2.2 20))))]), [(w64 (1 + (Int.tmod st2.2.2 30))), (w64 (1 + (w64 (Int.tdiv st2.2.2 30))))], ())]), (w64 (st2.2.2 + 1))))
        else
          none
      else
        some (.inr (st2.1, st2.2.1)) : Option (((List GPhrase) × (List GPhrase) × Int) ⊕ (((List GPhrase) × (List GPhrase)))))) ([], [], 0)).bind fun o3 =>
  some (o3.2, ())
noncomputable def C117 : FnSpec := { ps := [.val (.int .i64)], rs := [.own TGBook], fn := fun x => s_manyPhrases x }
noncomputable def E117 : Env := { T := [(3, (.int .i64)), (5, (.int .u8)), (9, .str), (30, (.slice TGPhrase)), (32, TGBook), (38, (.slice (.int .i64))), (46, (.slice (.int .u8))), (61, TGPhrase)], G := [], ro := [], loops := [(3, { keep := [0], live := [.bx 2 32 [.own 300032 TGPhrase true], .bx 3 48 [.own 300048 TGPhrase true], .tv 4 (.int .i64)], outs := [(.exit 0, [.bx 2 32 [.own 300032 TGPhrase true], .bx 3 48 [.own 300048 TGPhrase true]])] })], joins := [], mv := true }
theorem E117_eq : ∀ x, afun E117 Try.f117 C117.ps C117.rs x = C117.fn x := fun x => by kernel_rfl
theorem S117 : Sound Try.prog 117 C117 := fun_sound (E := E117) ⟨good_T (by kernel_rfl), good_nil, mixedOk, ins_nil⟩ Try.func117 rfl E117_eq
/-- (*spec.l1Cur).anyBook -/
noncomputable def s_l1Cur_anyBook (p_c : Gl1Cur) : Option (Gl1Cur × GBook) :=
  (s_l1Cur_book p_c).bind fun r1 =>
  (s_l1Cur_pick r1.1 (r1.2.1.length : Int)).bind fun r2 =>
  bif decide (0 ≤ r2.2) && decide (r2.2 < (r1.2.1.length : Int)) then
    (s_l1Cur_pick r2.1 30).bind fun r3 =>
    bif (decide (r3.2 = 0)) then
      (s_l1Cur_of r3.1 ([[], ([65] : Bytes), ([97, 98, 99, 100, 101, 102, 103, 104, 105, 106, 107, 108] : Bytes), ([97, 98, 99, 100, 101, 102, 103, 104, 105, 106, 107, 108, 109] : Bytes), ([122] : Bytes), ([97, 32, 98] : Bytes)] : List Bytes)).bind fun r4 =>
      (r1.2.1[(Int.toNat r2.2)]?).bind fun e5 =>
      some (r4.1, ((r1.2.1.set (Int.toNat r2.2) (r4.2, e5.2)), ()))
    else
      bif (decide (r3.2 = 1)) then
        (r1.2.1[(Int.toNat r2.2)]?).bind fun e6 =>
        (s_l1Cur_among r3.1 [(-1), 0, 60, 61]).bind fun r7 =>
        bif decide (0 ≤ 0) && decide (0 < (List.length e6.2.1 : Int)) then
          some (r7.1, ((r1.2.1.set (Int.toNat r2.2) (e6.1, (List.set e6.2.1 (Int.toNat 0) r7.2), ())), ()))
        else
          none
      else
        bif (decide (r3.2 = 2)) then
          (r1.2.1[(Int.toNat r2.2)]?).bind fun e8 =>
          some (r3.1, ((r1.2.1.set (Int.toNat r2.2) (e8.1, [], ())), ()))
        else
          bif (decide (r3.2 = 3)) then
            (r1.2.1[(Int.toNat r2.2)]?).bind fun e9 =>
            some (r3.1, ((r1.2.1.set (Int.toNat r2.2) (e9.1, [1, 2, 3, 4], ())), ()))
          else
            bif (decide (r3.2 = 4)) then
              (s_l1Cur_among r3.1 [40, 41]).bind fun r10 =>
              (s_manyPhrases r10.2).bind fun r11 =>
              some (r10.1, (r11.1, ()))
            else
              bif (decide (r3.2 = 5)) then
                bif decide (0 ≤ 0) && decide (0 < (r1.2.1.length : Int)) then
                  (r1.2.1[(Int.toNat 0)]?).bind fun e12 =>
                  (s_l1Own e12.2.1).bind fun r13 =>
                  (r1.2.1[(Int.toNat r2.2)]?).bind fun e14 =>
                  some (r3.1, ((r1.2.1.set (Int.toNat r2.2) (e14.1, r13, ())), ()))
                else
                  none
              else
                bif (decide (r3.2 = 6)) then
                  some (r3.1, ([], ()))
                else
                  some (r3.1, r1.2)
  else
    none
noncomputable def C78 : FnSpec := { ps := [.mbox TGl1Cur], rs := [.own TGBook], fn := fun x => s_l1Cur_anyBook x }
noncomputable def E78 : Env := { T := [(3, (.int .i64)), (9, .str), (25, (.slice .str)), (30, (.slice TGPhrase)), (32, TGBook), (38, (.slice (.int .i64))), (61, TGPhrase)], G := [(64, C64), (75, C75), (83, C83), (115, C115), (116, C116), (117, C117)], ro := [32], loops := [], joins := [], mv := true, hoist := [(2, [0]), (7, [0, 1, 2])], aside := [(13, 100000), (33, 100000)] }
theorem E78_eq : ∀ x, afun E78 Try.f78 C78.ps C78.rs x = C78.fn x := fun x => by kernel_rfl
theorem S78 : Sound Try.prog 78 C78 := fun_sound_box (E := E78) ⟨good_T (by kernel_rfl), (good_cons S64 ⟨_, Try.func64, by kernel_rfl, by kernel_rfl⟩ (good_cons S75 ⟨_, Try.func75, by kernel_rfl, by kernel_rfl⟩ (good_cons S83 ⟨_, Try.func83, by kernel_rfl, by kernel_rfl⟩ (good_cons S115 ⟨_, Try.func115, by kernel_rfl, by kernel_rfl⟩ (good_cons S116 ⟨_, Try.func116, by kernel_rfl, by kernel_rfl⟩ (good_cons S117 ⟨_, Try.func117, by kernel_rfl, by kernel_rfl⟩ good_nil)))))), mixedOk, ins_nil⟩ Try.func78 rfl E78_eq
/-- spec.DrawIsBook -/
noncomputable def s_DrawIsBook (p_code : List Int) : Option (GBook) :=
  (s_l1Cur_anyBook (p_code, 0, 0, ())).bind fun r1 =>
  some r1.2
noncomputable def C79 : FnSpec := { ps := [.val (.slice (.int .u8))], rs := [.own TGBook], fn := fun x => s_DrawIsBook x }
noncomputable def E79 : Env := { T := [(32, TGBook), (89, TGl1Cur)], G := [(78, C78)], ro := [], loops := [], joins := [] }
theorem E79_eq : ∀ x, afun E79 Try.f79 C79.ps C79.rs x = C79.fn x := fun x => by kernel_rfl
theorem S79 : Sound Try.prog 79 C79 := fun_sound (E := E79) ⟨good_T (by kernel_rfl), (good_cons S78 ⟨_, Try.func78, by kernel_rfl, by kernel_rfl⟩ good_nil), mixedOk, ins_nil⟩ Try.func79 rfl E79_eq
/-- spec.DrawSignalUses -/
noncomputable def s_DrawSignalUses (p_code : List Int) : Option (GBook) :=
  (s_DrawIsBook p_code).bind fun r1 =>
  some (r1.1, ())
noncomputable def C37 : FnSpec := { ps := [.val (.slice (.int .u8))], rs := [.own TGBook], fn := fun x => s_DrawSignalUses x }
noncomputable def E37 : Env := { T := [(32, TGBook)], G := [(79, C79)], ro := [], loops := [], joins := [] }
theorem E37_eq : ∀ x, afun E37 Try.f37 C37.ps C37.rs x = C37.fn x := fun x => by kernel_rfl
theorem S37 : Sound Try.prog 37 C37 := fun_sound (E := E37) ⟨good_T (by kernel_rfl), (good_cons S79 ⟨_, Try.func79, by kernel_rfl, by kernel_rfl⟩ good_nil), mixedOk, ins_nil⟩ Try.func37 rfl E37_eq
/-- impl.signalUses -/
noncomputable def i_signalUses (p_b : GBook) : Option ((List Int)) :=
  bif decide (0 ≤ 60) && decide (60 ≤ 60) && decide (60 ≤ lim) then
    (loopE (fun (st2 : (List Int) × Int) => (
        bif (decide (st2.2 < (p_b.1.length : Int))) then
          (idx p_b.1 st2.2).bind fun e3 =>
          (loopE (fun (st5 : (List Int) × Int) => (
              bif (decide (st5.2 < (e3.2.1.length : Int))) then
                (idx e3.2.1 st5.2).bind fun e6 =>
                bif decide (0 ≤ (w64 (e6 - 1))) && decide ((w64 (e6 - 1)) < (st5.1.length : Int)) then
                  (st5.1[(Int.toNat (w64 (e6 - 1)))]?).bind fun e7 =>
                  bif decide (0 ≤ (w64 (e6 - 1))) && decide ((w64 (e6 - 1)) < (st5.1.length : Int)) then
                    some (.inl ((st5.1.set (Int.toNat (w64 (e6 - 1))) (w64 (e7 + 1))), (w64 (st5.2 + 1))))
                  else
                    none
                else
                  none
              else
                some (.inr st5.1) : Option (((List Int) × Int) ⊕ ((List Int))))) (st2.1, 0)).bind fun o8 =>
          some (.inl (o8, (w64 (st2.2 + 1))))
        else
          some (.inr st2.1) : Option (((List Int) × Int) ⊕ ((List Int))))) ((List.replicate (Int.toNat 60) (0 : Int)), 0)).bind fun o9 =>
    some o9
  else
    none
noncomputable def C92 : FnSpec := { ps := [.val TGBook], rs := [.own (.slice (.int .i64))], fn := fun x => i_signalUses x }
noncomputable def E92 : Env := { T := [(3, (.int .i64)), (30, (.slice TGPhrase)), (32, TGBook), (38, (.slice (.int .i64))), (61, TGPhrase)], G := [], ro := [1], loops := [(3, { keep := [10, 11], live := [.own 3 [] 128 (.int .i64) true, .tv 12 (.int .i64)], outs := [(.exit 0, [.own 3 [] 128 (.int .i64) true])] }), (6, { keep := [10, 11, 12, 17, 18], live := [.own 3 [] 128 (.int .i64) true, .tv 19 (.int .i64)], outs := [(.exit 2, [.own 3 [] 128 (.int .i64) true])] })], joins := [] }
theorem E92_eq : ∀ x, afun E92 Try.f92 C92.ps C92.rs x = C92.fn x := fun x => by kernel_rfl
theorem S92 : Sound Try.prog 92 C92 := fun_sound (E := E92) ⟨good_T (by kernel_rfl), good_nil, mixedOk, ins_nil⟩ Try.func92 rfl E92_eq
/-- impl.SignalUses -/
noncomputable def i_SignalUses (p_b : GBook) : Option ((List Int) × Bool) :=
  (i_IsBook p_b).bind fun r1 =>
  bif (!r1) then
    some ([], false)
  else
    (i_signalUses p_b).bind fun r2 =>
    some (r2, true)
noncomputable def C38 : FnSpec := { ps := [.val TGBook], rs := [.own (.slice (.int .i64)), .val .bool], fn := fun x => i_SignalUses x }
noncomputable def E38 : Env := { T := [(32, TGBook)], G := [(49, C49), (92, C92)], ro := [1], loops := [], joins := [] }
theorem E38_eq : ∀ x, afun E38 Try.f38 C38.ps C38.rs x = C38.fn x := fun x => by kernel_rfl
theorem S38 : Sound Try.prog 38 C38 := fun_sound (E := E38) ⟨good_T (by kernel_rfl), (good_cons S49 ⟨_, Try.func49, by kernel_rfl, by kernel_rfl⟩ (good_cons S92 ⟨_, Try.func92, by kernel_rfl, by kernel_rfl⟩ good_nil)), mixedOk, ins_nil⟩ Try.func38 rfl E38_eq
/-- spec.msUses -/
noncomputable def s_msUses (p_b : GBook) : Option ((List Int)) :=
  bif decide (0 ≤ 60) && decide (60 ≤ 60) && decide (60 ≤ lim) then
    (loopE (fun (st2 : (List Int) × Int) => (
        bif (decide (st2.2 < (p_b.1.length : Int))) then
          (idx p_b.1 st2.2).bind fun e3 =>
          (loopE (fun (st5 : (List Int) × Int) => (
              bif (decide (st5.2 < (e3.2.1.length : Int))) then
                (idx e3.2.1 st5.2).bind fun e6 =>
                bif decide (0 ≤ (w64 (e6 - 1))) && decide ((w64 (e6 - 1)) < (st5.1.length : Int)) then
                  (st5.1[(Int.toNat (w64 (e6 - 1)))]?).bind fun e7 =>
                  bif decide (0 ≤ (w64 (e6 - 1))) && decide ((w64 (e6 - 1)) < (st5.1.length : Int)) then
                    some (.inl ((st5.1.set (Int.toNat (w64 (e6 - 1))) (w64 (e7 + 1))), (w64 (st5.2 + 1))))
                  else
                    none
                else
                  none
              else
                some (.inr st5.1) : Option (((List Int) × Int) ⊕ ((List Int))))) (st2.1, 0)).bind fun o8 =>
          some (.inl (o8, (w64 (st2.2 + 1))))
        else
          some (.inr st2.1) : Option (((List Int) × Int) ⊕ ((List Int))))) ((List.replicate (Int.toNat 60) (0 : Int)), 0)).bind fun o9 =>
    some o9
  else
    none
noncomputable def C93 : FnSpec := { ps := [.val TGBook], rs := [.own (.slice (.int .i64))], fn := fun x => s_msUses x }
noncomputable def E93 : Env := { T := [(3, (.int .i64)), (30, (.slice TGPhrase)), (32, TGBook), (38, (.slice (.int .i64))), (61, TGPhrase)], G := [], ro := [1], loops := [(3, { keep := [10, 11], live := [.own 3 [] 128 (.int .i64) true, .tv 12 (.int .i64)], outs := [(.exit 0, [.own 3 [] 128 (.int .i64) true])] }), (6, { keep := [10, 11, 12, 17, 18], live := [.own 3 [] 128 (.int .i64) true, .tv 19 (.int .i64)], outs := [(.exit 2, [.own 3 [] 128 (.int .i64) true])] })], joins := [] }
theorem E93_eq : ∀ x, afun E93 Try.f93 C93.ps C93.rs x = C93.fn x := fun x => by kernel_rfl
theorem S93 : Sound Try.prog 93 C93 := fun_sound (E := E93) ⟨good_T (by kernel_rfl), good_nil, mixedOk, ins_nil⟩ Try.func93 rfl E93_eq
/-- spec.SignalUses -/
noncomputable def s_SignalUses (p_b : GBook) : Option ((List Int) × Bool) :=
  (s_bkGood p_b).bind fun r1 =>
  bif (!r1) then
    some ([], false)
  else
    (s_msUses p_b).bind fun r2 =>
    some (r2, true)
noncomputable def C39 : FnSpec := { ps := [.val TGBook], rs := [.own (.slice (.int .i64)), .val .bool], fn := fun x => s_SignalUses x }
noncomputable def E39 : Env := { T := [(32, TGBook)], G := [(53, C53), (93, C93)], ro := [1], loops := [], joins := [] }
theorem E39_eq : ∀ x, afun E39 Try.f39 C39.ps C39.rs x = C39.fn x := fun x => by kernel_rfl
theorem S39 : Sound Try.prog 39 C39 := fun_sound (E := E39) ⟨good_T (by kernel_rfl), (good_cons S53 ⟨_, Try.func53, by kernel_rfl, by kernel_rfl⟩ (good_cons S93 ⟨_, Try.func93, by kernel_rfl, by kernel_rfl⟩ good_nil)), mixedOk, ins_nil⟩ Try.func39 rfl E39_eq
/-- impl.gcdOf -/
noncomputable def i_gcdOf (p_a : Int) (p_b : Int) : Option (Int) :=
  (loopE (fun (st2 : Int × Int) => (
      bif (decide (0 < st2.2)) then
        bif (!decide (st2.2 = 0)) then
          some (.inl (st2.2, (Int.tmod st2.1 st2.2)))
        else
          none
      else
        some (.inr st2.1) : Option ((Int × Int) ⊕ (Int)))) (p_a, p_b)).bind fun o3 =>
  some o3
noncomputable def C94 : FnSpec := { ps := [.val (.int .i64), .val (.int .i64)], rs := [.val (.int .i64)], fn := fun x => i_gcdOf x.1 x.2 }
noncomputable def E94 : Env := { T := [], G := [], ro := [], loops := [(1, { keep := [], live := [.tv 0 (.int .i64), .tv 1 (.int .i64)], outs := [(.exit 0, [.tv 0 (.int .i64)])] })], joins := [] }
theorem E94_eq : ∀ x, afun E94 Try.f94 C94.ps C94.rs x = C94.fn x := fun x => by kernel_rfl
theorem S94 : Sound Try.prog 94 C94 := fun_sound (E := E94) ⟨good_T (by kernel_rfl), good_nil, mixedOk, ins_nil⟩ Try.func94 rfl E94_eq
/-- impl.MeanSignals -/
noncomputable def i_MeanSignals (p_b : GBook) : Option (Int × Int × Bool) :=
  (i_IsBook p_b).bind fun r1 =>
  bif (!r1) then
    some (0, 0, false)
  else
    (loopE (fun (st3 : Int × Int) => (
        bif (decide (st3.2 < (p_b.1.length : Int))) then
          (idx p_b.1 st3.2).bind fun e4 =>
          some (.inl ((w64 (st3.1 + (e4.2.1.length : Int))), (w64 (st3.2 + 1))))
        else
          some (.inr st3.1) : Option ((Int × Int) ⊕ (Int)))) (0, 0)).bind fun o5 =>
    (i_gcdOf o5 (p_b.1.length : Int)).bind fun r6 =>
    bif (!decide (r6 = 0)) then
      bif (!decide (r6 = 0)) then
        some ((w64 (Int.tdiv o5 r6)), (w64 (Int.tdiv (p_b.1.length : Int) r6)), true)
      else
        none
    else
      none
noncomputable def C40 : FnSpec := { ps := [.val TGBook], rs := [.val (.int .i64), .val (.int .i64), .val .bool], fn := fun x => i_MeanSignals x }
noncomputable def E40 : Env := { T := [(30, (.slice TGPhrase)), (32, TGBook), (38, (.slice (.int .i64))), (61, TGPhrase)], G := [(49, C49), (94, C94)], ro := [1], loops := [(5, { keep := [1, 13, 14], live := [.tv 5 (.int .i64), .tv 15 (.int .i64)], outs := [(.exit 0, [.tv 5 (.int .i64)])] })], joins := [] }
theorem E40_eq : ∀ x, afun E40 Try.f40 C40.ps C40.rs x = C40.fn x := fun x => by kernel_rfl
theorem S40 : Sound Try.prog 40 C40 := fun_sound (E := E40) ⟨good_T (by kernel_rfl), (good_cons S49 ⟨_, Try.func49, by kernel_rfl, by kernel_rfl⟩ (good_cons S94 ⟨_, Try.func94, by kernel_rfl, by kernel_rfl⟩ good_nil)), mixedOk, ins_nil⟩ Try.func40 rfl E40_eq
/-- spec.l1Most -/
noncomputable def s_l1Most (p_a : Int) (p_b : Int) : Option (Int) :=
  bif (decide (p_b < p_a)) then
    some p_a
  else
    some p_b
noncomputable def C139 : FnSpec := { ps := [.val (.int .i64), .val (.int .i64)], rs := [.val (.int .i64)], fn := fun x => s_l1Most x.1 x.2 }
noncomputable def E139 : Env := { T := [], G := [], ro := [], loops := [], joins := [] }
theorem E139_eq : ∀ x, afun E139 Try.f139 C139.ps C139.rs x = C139.fn x := fun x => by kernel_rfl
theorem S139 : Sound Try.prog 139 C139 := fun_sound (E := E139) ⟨good_T (by kernel_rfl), good_nil, mixedOk, ins_nil⟩ Try.func139 rfl E139_eq
/-- spec.l1Abs -/
noncomputable def s_l1Abs (p_n : Int) : Option (Int) :=
  (s_l1Most p_n (w64 (0 - p_n))).bind fun r1 =>
  some r1
noncomputable def C124 : FnSpec := { ps := [.val (.int .i64)], rs := [.val (.int .i64)], fn := fun x => s_l1Abs x }
noncomputable def E124 : Env := { T := [], G := [(139, C139)], ro := [], loops := [], joins := [] }
theorem E124_eq : ∀ x, afun E124 Try.f124 C124.ps C124.rs x = C124.fn x := fun x => by kernel_rfl
theorem S124 : Sound Try.prog 124 C124 := fun_sound (E := E124) ⟨good_T (by kernel_rfl), (good_cons S139 ⟨_, Try.func139, by kernel_rfl, by kernel_rfl⟩ good_nil), mixedOk, ins_nil⟩ Try.func124 rfl E124_eq
/-- spec.siPart -/
noncomputable def s_siPart (p_a : Int) (p_b : Int) : Option (Int × Int) :=
  (s_l1Abs p_a).bind fun r1 =>
  (loopE (fun (st3 : Int × Int) => (
      bif (decide (0 < st3.2)) then
        bif (!decide (st3.2 = 0)) then
          some (.inl (st3.2, (Int.tmod st3.1 st3.2)))
        else
          none
      else
        some (.inr st3.1) : Option ((Int × Int) ⊕ (Int)))) (r1, p_b)).bind fun o4 =>
  bif (!decide (o4 = 0)) then
    bif (!decide (o4 = 0)) then
      some ((w64 (Int.tdiv p_a o4)), (w64 (Int.tdiv p_b o4)))
    else
      none
  else
    none
noncomputable def C95 : FnSpec := { ps := [.val (.int .i64), .val (.int .i64)], rs := [.val (.int .i64), .val (.int .i64)], fn := fun x => s_siPart x.1 x.2 }
noncomputable def E95 : Env := { T := [], G := [(124, C124)], ro := [], loops := [(2, { keep := [0, 1], live := [.tv 6 (.int .i64), .tv 7 (.int .i64)], outs := [(.exit 0, [.tv 6 (.int .i64)])] })], joins := [] }
theorem E95_eq : ∀ x, afun E95 Try.f95 C95.ps C95.rs x = C95.fn x := fun x => by kernel_rfl
theorem S95 : Sound Try.prog 95 C95 := fun_sound (E := E95) ⟨good_T (by kernel_rfl), (good_cons S124 ⟨_, Try.func124, by kernel_rfl, by kernel_rfl⟩ good_nil), mixedOk, ins_nil⟩ Try.func95 rfl E95_eq
/-- spec.MeanSignals -/
noncomputable def s_MeanSignals (p_b : GBook) : Option (Int × Int × Bool) :=
  (s_bkGood p_b).bind fun r1 =>
  bif (!r1) then
    some (0, 0, false)
  else
    (loopE (fun (st3 : Int × Int) => (
        bif (decide (st3.2 < (p_b.1.length : Int))) then
          (idx p_b.1 st3.2).bind fun e4 =>
          some (.inl ((w64 (st3.1 + (e4.2.1.length : Int))), (w64 (st3.2 + 1))))
        else
          some (.inr st3.1) : Option ((Int × Int) ⊕ (Int)))) (0, 0)).bind fun o5 =>
    (s_siPart o5 (p_b.1.length : Int)).bind fun r6 =>
    some (r6.1, r6.2, true)
noncomputable def C41 : FnSpec := { ps := [.val TGBook], rs := [.val (.int .i64), .val (.int .i64), .val .bool], fn := fun x => s_MeanSignals x }
noncomputable def E41 : Env := { T := [(30, (.slice TGPhrase)), (32, TGBook), (38, (.slice (.int .i64))), (61, TGPhrase)], G := [(53, C53), (95, C95)], ro := [1], loops := [(5, { keep := [1, 14, 15], live := [.tv 5 (.int .i64), .tv 16 (.int .i64)], outs := [(.exit 0, [.tv 5 (.int .i64)])] })], joins := [] }
theorem E41_eq : ∀ x, afun E41 Try.f41 C41.ps C41.rs x = C41.fn x := fun x => by kernel_rfl
theorem S41 : Sound Try.prog 41 C41 := fun_sound (E := E41) ⟨good_T (by kernel_rfl), (good_cons S53 ⟨_, Try.func53, by kernel_rfl, by kernel_rfl⟩ (good_cons S95 ⟨_, Try.func95, by kernel_rfl, by kernel_rfl⟩ good_nil)), mixedOk, ins_nil⟩ Try.func41 rfl E41_eq
/-- impl.UnusedSignals -/
noncomputable def i_UnusedSignals (p_b : GBook) : Option ((List Int) × Bool) :=
  (i_IsBook p_b).bind fun r1 =>
  bif (!r1) then
    some ([], false)
  else
    (i_signalUses p_b).bind fun r2 =>
    (loopE (fun (st4 : (List Int) × (List Int) × Int) => (
        bif (decide (st4.2.2 < (r2.length : Int))) then
          bif decide (0 ≤ st4.2.2) && decide (st4.2.2 < (st4.2.1.length : Int)) then
            (st4.2.1[(Int.toNat st4.2.2)]?).bind fun e5 =>
            bif (decide (e5 = 0)) then
              bif decide (List.length st4.1 + List.length [(w64 (st4.2.2 + 1))] ≤ lim) then
                some (.inl ((st4.1 ++ [(w64 (st4.2.2 + 1))]), st4.2.1, (w64 (st4.2.2 + 1))))
              else
                none
            else
              some (.inl (st4.1, st4.2.1, (w64 (st4.2.2 + 1))))
          else
            none
        else
          some (.inr st4.1) : Option (((List Int) × (List Int) × Int) ⊕ ((List Int))))) ([], r2, 0)).bind fun o6 =>
    some (o6, true)
noncomputable def C42 : FnSpec := { ps := [.val TGBook], rs := [.own (.slice (.int .i64)), .val .bool], fn := fun x => i_UnusedSignals x }
noncomputable def E42 : Env := { T := [(3, (.int .i64)), (32, TGBook), (38, (.slice (.int .i64)))], G := [(49, C49), (92, C92)], ro := [1], loops := [(5, { keep := [12], live := [.own 4 [] 200004 (.int .i64) true, .own 11 [] 176 (.int .i64) true, .tv 13 (.int .i64)], outs := [(.exit 0, [.own 4 [] 200004 (.int .i64) true])] })], joins := [] }
theorem E42_eq : ∀ x, afun E42 Try.f42 C42.ps C42.rs x = C42.fn x := fun x => by kernel_rfl
theorem S42 : Sound Try.prog 42 C42 := fun_sound (E := E42) ⟨good_T (by kernel_rfl), (good_cons S49 ⟨_, Try.func49, by kernel_rfl, by kernel_rfl⟩ (good_cons S92 ⟨_, Try.func92, by kernel_rfl, by kernel_rfl⟩ good_nil)), mixedOk, ins_nil⟩ Try.func42 rfl E42_eq
/-- spec.UnusedSignals -/
noncomputable def s_UnusedSignals (p_b : GBook) : Option ((List Int) × Bool) :=
  (s_bkGood p_b).bind fun r1 =>
  bif (!r1) then
    some ([], false)
  else
    (s_msUses p_b).bind fun r2 =>
    (loopE (fun (st4 : (List Int) × (List Int) × Int) => (
        bif (decide (st4.2.2 < (r2.length : Int))) then
          bif decide (0 ≤ st4.2.2) && decide (st4.2.2 < (st4.2.1.length : Int)) then
            (st4.2.1[(Int.toNat st4.2.2)]?).bind fun e5 =>
            bif (decide (e5 = 0)) then
              bif decide (List.length st4.1 + List.length [(w64 (st4.2.2 + 1))] ≤ lim) then
                some (.inl ((st4.1 ++ [(w64 (st4.2.2 + 1))]), st4.2.1, (w64 (st4.2.2 + 1))))
              else
                none
            else
              some (.inl (st4.1, st4.2.1, (w64 (st4.2.2 + 1))))
          else
            none
        else
          some (.inr st4.1) : Option (((List Int) × (List Int) × Int) ⊕ ((List Int))))) ([], r2, 0)).bind fun o6 =>
    some (o6, true)
noncomputable def C43 : FnSpec := { ps := [.val TGBook], rs := [.own (.slice (.int .i64)), .val .bool], fn := fun x => s_UnusedSignals x }
noncomputable def E43 : Env := { T := [(3, (.int .i64)), (32, TGBook), (38, (.slice (.int .i64)))], G := [(53, C53), (93, C93)], ro := [1], loops := [(5, { keep := [12], live := [.own 4 [] 200004 (.int .i64) true, .own 11 [] 176 (.int .i64) true, .tv 13 (.int .i64)], outs := [(.exit 0, [.own 4 [] 200004 (.int .i64) true])] })], joins := [] }
theorem E43_eq : ∀ x, afun E43 Try.f43 C43.ps C43.rs x = C43.fn x := fun x => by kernel_rfl
theorem S43 : Sound Try.prog 43 C43 := fun_sound (E := E43) ⟨good_T (by kernel_rfl), (good_cons S53 ⟨_, Try.func53, by kernel_rfl, by kernel_rfl⟩ (good_cons S93 ⟨_, Try.func93, by kernel_rfl, by kernel_rfl⟩ good_nil)), mixedOk, ins_nil⟩ Try.func43 rfl E43_eq
/-- (*spec.l1Cur).weightsFor -/
noncomputable def s_l1Cur_weightsFor (p_c : Gl1Cur) (p_b : GBook) : Option (Gl1Cur × (List Int)) :=
  (loopE (fun (st2 : (List Int) × Int × Int × (List Int) × Int) => (
      bif (decide (st2.2.2.2.2 < (p_b.1.length : Int))) then
        (s_l1Cur_pick (st2.1, st2.2.1, st2.2.2.1, ()) 900).bind fun r3 =>
        (s_l1Cur_among r3.1 [0, 1, 1, 5, 10, 10000, r3.2]).bind fun r4 =>
        bif decide (List.length st2.2.2.2.1 + List.length [r4.2] ≤ lim) then
          some (.inl (r4.1.1, r4.1.2.1, r4.1.2.2.1, (st2.2.2.2.1 ++ [r4.2]), (w64 (st2.2.2.2.2 + 1))))
        else
          none
      else
        some (.inr (st2.1, st2.2.1, st2.2.2.1, st2.2.2.2.1)) : Option (((List Int) × Int × Int × (List Int) × Int) ⊕ (((List Int) × Int × Int × (List Int)))))) (p_c.1, p_c.2.1, p_c.2.2.1, [], 0)).bind fun o5 =>
  bif (decide (0 < (o5.2.2.2.length : Int))) then
    (s_l1Cur_pick (o5.1, o5.2.1, o5.2.2.1, ()) 24).bind fun r6 =>
    bif (decide (r6.2 = 0)) then
      (s_l1Cur_among r6.1 [(-1), 10001]).bind fun r7 =>
      bif decide (0 ≤ 0) && decide (0 < (o5.2.2.2.length : Int)) then
        some (r7.1, (o5.2.2.2.set (Int.toNat 0) r7.2))
      else
        none
    else
      bif (decide (r6.2 = 1)) then
        (sub o5.2.2.2 1 (o5.2.2.2.length : Int)).bind fun l8 =>
        some (r6.1, l8)
      else
        some (r6.1, o5.2.2.2)
  else
    some ((o5.1, o5.2.1, o5.2.2.1, ()), o5.2.2.2)
noncomputable def C125 : FnSpec := { ps := [.mbox TGl1Cur, .val TGBook], rs := [.val (.slice (.int .i64))], fn := fun x => s_l1Cur_weightsFor x.1 x.2 }
noncomputable def E125 : Env := { T := [(3, (.int .i64)), (30, (.slice TGPhrase)), (32, TGBook), (38, (.slice (.int .i64)))], G := [(75, C75), (83, C83)], ro := [3], loops := [(3, { keep := [8], live := [.bx 0 100000 [.pv (.slice (.int .u8)), .pv (.int .i64), .pv (.int .u64)], .own 5 [] 200005 (.int .i64) true, .tv 9 (.int .i64)], outs := [(.exit 0, [.bx 0 100000 [.pv (.slice (.int .u8)), .pv (.int .i64), .pv (.int .u64)], .own 5 [] 200005 (.int .i64) true])] })], joins := [], pre := [(11, [200005])] }
theorem E125_eq : ∀ x, afun E125 Try.f125 C125.ps C125.rs x = C125.fn x := fun x => by kernel_rfl
theorem S125 : Sound Try.prog 125 C125 := fun_sound_box (E := E125) ⟨good_T (by kernel_rfl), (good_cons S75 ⟨_, Try.func75, by kernel_rfl, by kernel_rfl⟩ (good_cons S83 ⟨_, Try.func83, by kernel_rfl, by kernel_rfl⟩ good_nil)), mixedOk, ins_nil⟩ Try.func125 rfl E125_eq
/-- spec.DrawBookCost -/
noncomputable def s_DrawBookCost (p_code : List Int) : Option (GBook × (List Int)) :=
  (s_l1Cur_anyBook (p_code, 0, 0, ())).bind fun r1 =>
  (s_l1Cur_weightsFor r1.1 r1.2).bind fun r2 =>
  some (r1.2, r2.2)
noncomputable def C96 : FnSpec := { ps := [.val (.slice (.int .u8))], rs := [.val TGBook, .val (.slice (.int .i64))], fn := fun x => s_DrawBookCost x }
noncomputable def E96 : Env := { T := [(32, TGBook), (89, TGl1Cur)], G := [(78, C78), (125, C125)], ro := [], loops := [], joins := [], pre := [(3, [160])], aside := [(14, 128)] }
theorem E96_eq : ∀ x, afun E96 Try.f96 C96.ps C96.rs x = C96.fn x := fun x => by kernel_rfl
theorem S96 : Sound Try.prog 96 C96 := fun_sound (E := E96) ⟨good_T (by kernel_rfl), (good_cons S78 ⟨_, Try.func78, by kernel_rfl, by kernel_rfl⟩ (good_cons S125 ⟨_, Try.func125, by kernel_rfl, by kernel_rfl⟩ good_nil)), mixedOk, ins_nil⟩ Try.func96 rfl E96_eq
/-- spec.DrawDealAnew -/
noncomputable def s_DrawDealAnew (p_code : List Int) : Option (GBook × (List Int)) :=
  (s_DrawBookCost p_code).bind fun r1 =>
  some (r1.1, r1.2)
noncomputable def C44 : FnSpec := { ps := [.val (.slice (.int .u8))], rs := [.val TGBook, .val (.slice (.int .i64))], fn := fun x => s_DrawDealAnew x }
noncomputable def E44 : Env := { T := [(32, TGBook)], G := [(96, C96)], ro := [], loops := [], joins := [] }
theorem E44_eq : ∀ x, afun E44 Try.f44 C44.ps C44.rs x = C44.fn x := fun x => by kernel_rfl
theorem S44 : Sound Try.prog 44 C44 := fun_sound (E := E44) ⟨good_T (by kernel_rfl), (good_cons S96 ⟨_, Try.func96, by kernel_rfl, by kernel_rfl⟩ good_nil), mixedOk, ins_nil⟩ Try.func44 rfl E44_eq
/-- impl.BookCost -/
noncomputable def i_BookCost (p_b : GBook) (p_weights : List Int) : Option (Int × Bool) :=
  (i_IsBook p_b).bind fun r1 =>
  (bif (!r1) then
      some true
    else
      (i_areBookWeights p_b p_weights).bind fun r2 =>
      some (!r2)).bind fun c3 =>
  bif c3 then
    some (0, false)
  else
    (loopE (fun (st5 : Int × Int) => (
        bif (decide (st5.2 < (p_b.1.length : Int))) then
          (idx p_b.1 st5.2).bind fun e6 =>
          (idx p_weights st5.2).bind fun e7 =>
          some (.inl ((w64 (st5.1 + (w64 (e7 * (e6.2.1.length : Int))))), (w64 (st5.2 + 1))))
        else
          some (.inr st5.1) : Option ((Int × Int) ⊕ (Int)))) (0, 0)).bind fun o8 =>
    some (o8, true)
noncomputable def C45 : FnSpec := { ps := [.val TGBook, .val (.slice (.int .i64))], rs := [.val (.int .i64), .val .bool], fn := fun x => i_BookCost x.1 x.2 }
noncomputable def E45 : Env := { T := [(3, (.int .i64)), (30, (.slice TGPhrase)), (32, TGBook), (38, (.slice (.int .i64))), (61, TGPhrase)], G := [(49, C49), (65, C65)], ro := [2], loops := [(5, { keep := [1, 19, 20], live := [.tv 6 (.int .i64), .tv 21 (.int .i64)], outs := [(.exit 0, [.tv 6 (.int .i64)])] })], joins := [] }
theorem E45_eq : ∀ x, afun E45 Try.f45 C45.ps C45.rs x = C45.fn x := fun x => by kernel_rfl
theorem S45 : Sound Try.prog 45 C45 := fun_sound (E := E45) ⟨good_T (by kernel_rfl), (good_cons S49 ⟨_, Try.func49, by kernel_rfl, by kernel_rfl⟩ (good_cons S65 ⟨_, Try.func65, by kernel_rfl, by kernel_rfl⟩ good_nil)), mixedOk, ins_nil⟩ Try.func45 rfl E45_eq
/-- spec.BookCost -/
noncomputable def s_BookCost (p_b : GBook) (p_weights : List Int) : Option (Int × Bool) :=
  (s_msAsked p_b p_weights).bind fun r1 =>
  bif (!r1) then
    some (0, false)
  else
    (loopE (fun (st3 : Int × Int) => (
        bif (decide (st3.2 < (p_b.1.length : Int))) then
          (idx p_b.1 st3.2).bind fun e4 =>
          (idx p_weights st3.2).bind fun e5 =>
          some (.inl ((w64 (st3.1 + (w64 (e5 * (e4.2.1.length : Int))))), (w64 (st3.2 + 1))))
        else
          some (.inr st3.1) : Option ((Int × Int) ⊕ (Int)))) (0, 0)).bind fun o6 =>
    some (o6, true)
noncomputable def C46 : FnSpec := { ps := [.val TGBook, .val (.slice (.int .i64))], rs := [.val (.int .i64), .val .bool], fn := fun x => s_BookCost x.1 x.2 }
noncomputable def E46 : Env := { T := [(3, (.int .i64)), (30, (.slice TGPhrase)), (32, TGBook), (38, (.slice (.int .i64))), (61, TGPhrase)], G := [(61, C61)], ro := [2], loops := [(5, { keep := [1, 14, 15], live := [.tv 6 (.int .i64), .tv 16 (.int .i64)], outs := [(.exit 0, [.tv 6 (.int .i64)])] })], joins := [] }
theorem E46_eq : ∀ x, afun E46 Try.f46 C46.ps C46.rs x = C46.fn x := fun x => by kernel_rfl
theorem S46 : Sound Try.prog 46 C46 := fun_sound (E := E46) ⟨good_T (by kernel_rfl), (good_cons S61 ⟨_, Try.func61, by kernel_rfl, by kernel_rfl⟩ good_nil), mixedOk, ins_nil⟩ Try.func46 rfl E46_eq
/-- laws.qInts -/
noncomputable def l_qInts (p_a : List Int) (p_b : List Int) : Option (Bool) :=
  bif (!decide ((p_a.length : Int) = (p_b.length : Int))) then
    some false
  else
    (loopE (fun (st2 : Int) => (
        bif (decide (st2 < (p_a.length : Int))) then
          (idx p_a st2).bind fun e3 =>
          (idx p_b st2).bind fun e4 =>
          bif (!decide (e3 = e4)) then
            some (.inr (.inr false))
          else
            some (.inl (w64 (st2 + 1)))
        else
          some (.inr (.inl ())) : Option ((Int) ⊕ (Unit ⊕ Bool)))) 0).bind fun o5 =>
    match o5 with
    | .inl _ =>
      some true
    | .inr y7 =>
      some y7
noncomputable def C47 : FnSpec := { ps := [.val (.slice (.int .i64)), .val (.slice (.int .i64))], rs := [.val .bool], fn := fun x => l_qInts x.1 x.2 }
noncomputable def E47 : Env := { T := [(3, (.int .i64)), (38, (.slice (.int .i64)))], G := [], ro := [], loops := [(4, { keep := [0, 1, 12], live := [.tv 13 (.int .i64)], outs := [(.exit 0, []), (.ret, [.tv 4 .bool])] })], joins := [] }
theorem E47_eq : ∀ x, afun E47 Try.f47 C47.ps C47.rs x = C47.fn x := fun x => by kernel_rfl
theorem S47 : Sound Try.prog 47 C47 := fun_sound (E := E47) ⟨good_T (by kernel_rfl), good_nil, mixedOk, ins_nil⟩ Try.func47 rfl E47_eq
/-- laws.qBook -/
noncomputable def l_qBook (p_a : GBook) (p_b : GBook) : Option (Bool) :=
  bif (!decide ((p_a.1.length : Int) = (p_b.1.length : Int))) then
    some false
  else
    (loopE (fun (st2 : Int) => (
        bif (decide (st2 < (p_a.1.length : Int))) then
          (idx p_a.1 st2).bind fun e3 =>
          (idx p_b.1 st2).bind fun e4 =>
          (bif (!decide (e3.1 = e4.1)) then
              some true
            else
              (idx p_b.1 st2).bind fun e5 =>
              (l_qInts e3.2.1 e5.2.1).bind fun r6 =>
              some (!r6)).bind fun c7 =>
          bif c7 then
            some (.inr (.inr false))
          else
            some (.inl (w64 (st2 + 1)))
        else
          some (.inr (.inl ())) : Option ((Int) ⊕ (Unit ⊕ Bool)))) 0).bind fun o8 =>
    match o8 with
    | .inl _ =>
      some true
    | .inr y10 =>
      some y10
noncomputable def C48 : FnSpec := { ps := [.val TGBook, .val TGBook], rs := [.val .bool], fn := fun x => l_qBook x.1 x.2 }
noncomputable def E48 : Env := { T := [(9, .str), (30, (.slice TGPhrase)), (32, TGBook), (38, (.slice (.int .i64))), (61, TGPhrase)], G := [(47, C47)], ro := [2, 3], loops := [(4, { keep := [3, 15, 16], live := [.tv 17 (.int .i64)], outs := [(.exit 0, []), (.ret, [.tv 4 .bool])] })], joins := [] }
theorem E48_eq : ∀ x, afun E48 Try.f48 C48.ps C48.rs x = C48.fn x := fun x => by kernel_rfl
theorem S48 : Sound Try.prog 48 C48 := fun_sound (E := E48) ⟨good_T (by kernel_rfl), (good_cons S47 ⟨_, Try.func47, by kernel_rfl, by kernel_rfl⟩ good_nil), mixedOk, ins_nil⟩ Try.func48 rfl E48_eq
/-- laws.qHas -/
noncomputable def l_qHas (p_l : List Int) (p_n : Int) : Option (Bool) :=
  (loopE (fun (st2 : Int) => (
      bif (decide (st2 < (p_l.length : Int))) then
        (idx p_l st2).bind fun e3 =>
        bif (decide (e3 = p_n)) then
          some (.inr (.inr true))
        else
          some (.inl (w64 (st2 + 1)))
      else
        some (.inr (.inl ())) : Option ((Int) ⊕ (Unit ⊕ Bool)))) 0).bind fun o4 =>
  match o4 with
  | .inl _ =>
    some false
  | .inr y6 =>
    some y6
noncomputable def C50 : FnSpec := { ps := [.val (.slice (.int .i64)), .val (.int .i64)], rs := [.val .bool], fn := fun x => l_qHas x.1 x.2 }
noncomputable def E50 : Env := { T := [(3, (.int .i64)), (38, (.slice (.int .i64)))], G := [], ro := [], loops := [(2, { keep := [1, 7, 8], live := [.tv 9 (.int .i64)], outs := [(.exit 0, []), (.ret, [.tv 4 .bool])] })], joins := [] }
theorem E50_eq : ∀ x, afun E50 Try.f50 C50.ps C50.rs x = C50.fn x := fun x => by kernel_rfl
theorem S50 : Sound Try.prog 50 C50 := fun_sound (E := E50) ⟨good_T (by kernel_rfl), good_nil, mixedOk, ins_nil⟩ Try.func50 rfl E50_eq
/-- laws.qSum -/
noncomputable def l_qSum (p_l : List Int) : Option (Int) :=
  (loopE (fun (st2 : Int × Int) => (
      bif (decide (st2.2 < (p_l.length : Int))) then
        (idx p_l st2.2).bind fun e3 =>
        some (.inl ((w64 (st2.1 + e3)), (w64 (st2.2 + 1))))
      else
        some (.inr st2.1) : Option ((Int × Int) ⊕ (Int)))) (0, 0)).bind fun o4 =>
  some o4
noncomputable def C51 : FnSpec := { ps := [.val (.slice (.int .i64))], rs := [.val (.int .i64)], fn := fun x => l_qSum x }
noncomputable def E51 : Env := { T := [(3, (.int .i64)), (38, (.slice (.int .i64)))], G := [], ro := [], loops := [(3, { keep := [6, 7], live := [.tv 3 (.int .i64), .tv 8 (.int .i64)], outs := [(.exit 0, [.tv 3 (.int .i64)])] })], joins := [] }
theorem E51_eq : ∀ x, afun E51 Try.f51 C51.ps C51.rs x = C51.fn x := fun x => by kernel_rfl
theorem S51 : Sound Try.prog 51 C51 := fun_sound (E := E51) ⟨good_T (by kernel_rfl), good_nil, mixedOk, ins_nil⟩ Try.func51 rfl E51_eq
/-- laws.FnBookUses -/
noncomputable def l_FnBookUses (p_code : List Int) (p_more : List Int) : Option (Bool) :=
  bif (decide (1048576 < (w64 ((p_code.length : Int) + (p_more.length : Int))))) then
    some true
  else
    (s_DrawSignalUses p_code).bind fun r1 =>
    (i_SignalUses (r1.1, ())).bind fun r2 =>
    (s_SignalUses (r1.1, ())).bind fun r3 =>
    (i_MeanSignals (r1.1, ())).bind fun r4 =>
    (s_MeanSignals (r1.1, ())).bind fun r5 =>
    (i_UnusedSignals (r1.1, ())).bind fun r6 =>
    (s_UnusedSignals (r1.1, ())).bind fun r7 =>
    (s_DrawDealAnew p_more).bind fun r8 =>
    (i_DealAnew r8.1 r8.2).bind fun r9 =>
    (s_DealAnew r8.1 r8.2).bind fun r10 =>
    (i_BookCost r8.1 r8.2).bind fun r11 =>
    (s_BookCost r8.1 r8.2).bind fun r12 =>
    (bif (r2.2 != r3.2) then
        some true
      else
        (l_qInts r2.1 r3.1).bind fun r13 =>
        some (!r13)).bind fun c14 =>
    (bif c14 then
        some true
      else
        some (r4.2.2 != r5.2.2)).bind fun c15 =>
    (bif c15 then
        some true
      else
        some (!decide (r4.1 = r5.1))).bind fun c16 =>
    (bif c16 then
        some true
      else
        some (!decide (r4.2.1 = r5.2.1))).bind fun c17 =>
    (bif c17 then
        some true
      else
        some (r6.2 != r7.2)).bind fun c18 =>
    (bif c18 then
        some true
      else
        (l_qInts r6.1 r7.1).bind fun r19 =>
        some (!r19)).bind fun c20 =>
    (bif c20 then
        some true
      else
        some (r9.2 != r10.2)).bind fun c21 =>
    (bif c21 then
        some true
      else
        (l_qBook r9.1 r10.1).bind fun r22 =>
        some (!r22)).bind fun c23 =>
    (bif c23 then
        some true
      else
        some (r11.2 != r12.2)).bind fun c24 =>
    (bif c24 then
        some true
      else
        some (!decide (r11.1 = r12.1))).bind fun c25 =>
    (bif c25 then
        some true
      else
        some (r4.2.2 != r2.2)).bind fun c26 =>
    (bif c26 then
        some true
      else
        some (r6.2 != r2.2)).bind fun c27 =>
    (bif c27 then
        some true
      else
        some (r11.2 != r9.2)).bind fun c28 =>
    bif c28 then
      some false
    else
      ((bif r9.2 then
            (i_BookCost r9.1 r8.2).bind fun r29 =>
            (s_BookCost r10.1 r8.2).bind fun r30 =>
            (i_SignalUses r9.1).bind fun r31 =>
            (i_SignalUses r8.1).bind fun r32 =>
            (s_SignalUses r8.1).bind fun r33 =>
            (bif (!r29.2) then
                some true
              else
                some (!r30.2)).bind fun c34 =>
            (bif c34 then
                some true
              else
                some (!decide (r29.1 = r30.1))).bind fun c35 =>
            (bif c35 then
                some true
              else
                some (decide (r12.1 < r30.1))).bind fun c36 =>
            (bif c36 then
                some true
              else
                some (!r31.2)).bind fun c37 =>
            (bif c37 then
                some true
              else
                some (!r32.2)).bind fun c38 =>
            (bif c38 then
                some true
              else
                some (!r33.2)).bind fun c39 =>
            (bif c39 then
                some true
              else
                (l_qInts r31.1 r33.1).bind fun r40 =>
                some (!r40)).bind fun c41 =>
            (bif c41 then
                some true
              else
                (l_qInts r32.1 r33.1).bind fun r42 =>
                some (!r42)).bind fun c43 =>
            (bif c43 then
                some true
              else
                (i_IsBook r9.1).bind fun r44 =>
                some (!r44)).bind fun c45 =>
            bif c45 then
              some (.inr false)
            else
              (loopE (fun (st48 : (List GPhrase) × (List Int) × (List Int) × (List GPhrase) × (List GPhrase) × Int) => (
                  bif (decide (st48.2.2.2.2.2 < (r10.1.1.length : Int))) then
                    (idx st48.2.2.2.2.1 st48.2.2.2.2.2).bind fun e49 =>
                    (idx st48.2.2.2.1 st48.2.2.2.2.2).bind fun e50 =>
                    bif (!decide (e49.1 = e50.1)) then
                      some (.inr (.inr false))
                    else
                      some (.inl (st48.1, st48.2.1, st48.2.2.1, st48.2.2.2.1, st48.2.2.2.2.1, (w64 (st48.2.2.2.2.2 + 1))))
                  else
                    some (.inr (.inl (st48.1, st48.2.1, st48.2.2.1))) : Option (((List GPhrase) × (List Int) × (List Int) × (List GPhrase) × (List GPhrase) × Int) ⊕ (((List GPhrase) × (List Int) × (List Int)) ⊕ Bool)))) (r1.1, r3.1, r7.1, r8.1.1, r10.1.1, 0)).bind fun o51 =>
              match o51 with
              | .inl x52 =>
                some (.inl (x52.1, x52.2.1, x52.2.2))
              | .inr y53 =>
                some (.inr y53)
          else
            some (.inl (r1.1, r3.1, r7.1)) : Option (((List GPhrase) × (List Int) × (List Int)) ⊕ Bool))).bind fun j54 =>
      match j54 with
      | .inl x55 =>
        bif (!r2.2) then
          some true
        else
          (loopE (fun (st58 : (List GPhrase) × (List Int) × (List Int) × Int × Int) => (
              bif (decide (st58.2.2.2.2 < (x55.1.length : Int))) then
                (idx x55.1 st58.2.2.2.2).bind fun e59 =>
                some (.inl (st58.1, st58.2.1, st58.2.2.1, (w64 (st58.2.2.2.1 + (e59.2.1.length : Int))), (w64 (st58.2.2.2.2 + 1))))
              else
                some (.inr (st58.1, st58.2.1, st58.2.2.1, st58.2.2.2.1)) : Option (((List GPhrase) × (List Int) × (List Int) × Int × Int) ⊕ (((List GPhrase) × (List Int) × (List Int) × Int))))) (x55.1, x55.2.1, x55.2.2, 0, 0)).bind fun o60 =>
          (loopE (fun (st62 : (List GPhrase) × (List Int) × (List Int) × Int) => (
              bif (decide (st62.2.2.2 < (o60.2.1.length : Int))) then
                bif decide (0 ≤ st62.2.2.2) && decide (st62.2.2.2 < (st62.2.1.length : Int)) then
                  (st62.2.1[(Int.toNat st62.2.2.2)]?).bind fun e63 =>
                  (l_qHas st62.2.2.1 (w64 (st62.2.2.2 + 1))).bind fun r64 =>
                  bif (r64 != (decide (e63 = 0))) then
                    some (.inr (.inr false))
                  else
                    some (.inl (st62.1, st62.2.1, st62.2.2.1, (w64 (st62.2.2.2 + 1))))
                else
                  none
              else
                some (.inr (.inl (st62.1, st62.2.1))) : Option (((List GPhrase) × (List Int) × (List Int) × Int) ⊕ (((List GPhrase) × (List Int)) ⊕ Bool)))) (o60.1, o60.2.1, o60.2.2.1, 0)).bind fun o65 =>
          match o65 with
          | .inl x66 =>
            (bif (decide ((x66.2.length : Int) = 60)) then
                (l_qSum x66.2).bind fun r68 =>
                some (decide (r68 = o60.2.2.2))
              else
                some false).bind fun c69 =>
            (bif c69 then
                some (decide ((w64 (r5.1 * (x66.1.length : Int))) = (w64 (o60.2.2.2 * r5.2.1))))
              else
                some false).bind fun c70 =>
            (bif c70 then
                some (decide (1 ≤ r5.2.1))
              else
                some false).bind fun c71 =>
            some c71
          | .inr y67 =>
            some y67
      | .inr y56 =>
        some y56
noncomputable def C6 : FnSpec := { ps := [.val (.slice (.int .u8)), .val (.slice (.int .u8))], rs := [.val .bool], fn := fun x => l_FnBookUses x.1 x.2 }
noncomputable def E6 : Env := { T := [(3, (.int .i64)), (4, .bool), (9, .str), (30, (.slice TGPhrase)), (32, TGBook), (38, (.slice (.int .i64))), (46, (.slice (.int .u8))), (61, TGPhrase)], G := [(15, C15), (17, C17), (37, C37), (38, C38), (39, C39), (40, C40), (41, C41), (42, C42), (43, C43), (44, C44), (45, C45), (46, C46), (47, C47), (48, C48), (49, C49), (50, C50), (51, C51)], ro := [], loops := [(26, { keep := [7, 13, 14, 262, 312, 313, 314, 315, 318, 319, 320, 321, 322, 323, 324, 325, 326, 329, 330], live := [.bx 5 80 [.own 864 TGPhrase true], .own 8 [] 992 (.int .i64) true, .own 18 [] 1344 (.int .i64) true, .bx 20 320 [.pv (.slice TGPhrase)], .tv 261 (.slice TGPhrase), .tv 263 (.int .i64)], outs := [(.exit 0, [.bx 5 80 [.own 864 TGPhrase true], .own 8 [] 992 (.int .i64) true, .own 18 [] 1344 (.int .i64) true]), (.ret, [.tv 4 .bool])] }), (35, { keep := [13, 14, 281, 282, 312, 313, 314, 315, 318, 319, 320, 321, 322, 323, 324, 325, 326, 329, 330], live := [.bx 5 80 [.pv (.slice TGPhrase)], .own 8 [] 992 (.int .i64) true, .own 18 [] 1344 (.int .i64) true, .tv 42 (.int .i64), .tv 283 (.int .i64)], outs := [(.exit 2, [.bx 5 80 [.pv (.slice TGPhrase)], .own 8 [] 992 (.int .i64) true, .own 18 [] 1344 (.int .i64) true, .tv 42 (.int .i64)])] }), (40, { keep := [13, 14, 42, 294, 312, 313, 314, 315, 318, 319, 320, 321, 322, 323, 324, 325, 326, 329, 330], live := [.bx 5 80 [.pv (.slice TGPhrase)], .own 8 [293] 992 (.int .i64) true, .own 18 [] 1344 (.int .i64) true, .tv 295 (.int .i64)], outs := [(.exit 4, [.bx 5 80 [.pv (.slice TGPhrase)], .own 8 [] 992 (.int .i64) true]), (.ret, [.tv 4 .bool])] })], joins := [(31, { keep := [7, 13, 14], live := [], outs := [(.normal, [.bx 5 80 [.own 864 TGPhrase true], .own 8 [] 992 (.int .i64) true, .own 18 [] 1344 (.int .i64) true]), (.ret, [.tv 4 .bool])] })], fz := [266], pre := [(34, [864])] }
theorem E6_eq : ∀ x, afun E6 Try.f6 C6.ps C6.rs x = C6.fn x := fun x => by kernel_rfl
theorem S6 : Sound Try.prog 6 C6 := fun_sound (E := E6) ⟨good_T (by kernel_rfl), (good_cons S15 ⟨_, Try.func15, by kernel_rfl, by kernel_rfl⟩ (good_cons S17 ⟨_, Try.func17, by kernel_rfl, by kernel_rfl⟩ (good_cons S37 ⟨_, Try.func37, by kernel_rfl, by kernel_rfl⟩ (good_cons S38 ⟨_, Try.func38, by kernel_rfl, by kernel_rfl⟩ (good_cons S39 ⟨_, Try.func39, by kernel_rfl, by kernel_rfl⟩ (good_cons S40 ⟨_, Try.func40, by kernel_rfl, by kernel_rfl⟩ (good_cons S41 ⟨_, Try.func41, by kernel_rfl, by kernel_rfl⟩ (good_cons S42 ⟨_, Try.func42, by kernel_rfl, by kernel_rfl⟩ (good_cons S43 ⟨_, Try.func43, by kernel_rfl, by kernel_rfl⟩ (good_cons S44 ⟨_, Try.func44, by kernel_rfl, by kernel_rfl⟩ (good_cons S45 ⟨_, Try.func45, by kernel_rfl, by kernel_rfl⟩ (good_cons S46 ⟨_, Try.func46, by kernel_rfl, by kernel_rfl⟩ (good_cons S47 ⟨_, Try.func47, by kernel_rfl, by kernel_rfl⟩ (good_cons S48 ⟨_, Try.func48, by kernel_rfl, by kernel_rfl⟩ (good_cons S49 ⟨_, Try.func49, by kernel_rfl, by kernel_rfl⟩ (good_cons S50 ⟨_, Try.func50, by kernel_rfl, by kernel_rfl⟩ (good_cons S51 ⟨_, Try.func51, by kernel_rfl, by kernel_rfl⟩ good_nil))))))))))))))))), mixedOk, ins_nil⟩ Try.func6 rfl E6_eq
/-- laws.szIntS -/
noncomputable def l_szIntS (p_a : List Int) (p_left : Int) : Option (Int) :=
  bif (decide ((w64 (p_left - (p_a.length : Int))) < 0)) then
    some (-1)
  else
    some (w64 (p_left - (p_a.length : Int)))
noncomputable def C130 : FnSpec := { ps := [.val (.slice (.int .i64)), .val (.int .i64)], rs := [.val (.int .i64)], fn := fun x => l_szIntS x.1 x.2 }
noncomputable def E130 : Env := { T := [(38, (.slice (.int .i64)))], G := [], ro := [], loops := [], joins := [] }
theorem E130_eq : ∀ x, afun E130 Try.f130 C130.ps C130.rs x = C130.fn x := fun x => by kernel_rfl
theorem S130 : Sound Try.prog 130 C130 := fun_sound (E := E130) ⟨good_T (by kernel_rfl), good_nil, mixedOk, ins_nil⟩ Try.func130 rfl E130_eq
/-- laws.szPhrase -/
noncomputable def l_szPhrase (p_a : GPhrase) (p_left : Int) : Option (Int) :=
  bif (decide ((w64 (p_left - (p_a.1.length : Int))) < 0)) then
    some (-1)
  else
    (l_szIntS p_a.2.1 (w64 (p_left - (p_a.1.length : Int)))).bind fun r1 =>
    bif (decide (r1 < 0)) then
      some (-1)
    else
      some r1
noncomputable def C99 : FnSpec := { ps := [.val TGPhrase, .val (.int .i64)], rs := [.val (.int .i64)], fn := fun x => l_szPhrase x.1 x.2 }
noncomputable def E99 : Env := { T := [(9, .str), (38, (.slice (.int .i64))), (105, TGPhrase)], G := [(130, C130)], ro := [2], loops := [], joins := [] }
theorem E99_eq : ∀ x, afun E99 Try.f99 C99.ps C99.rs x = C99.fn x := fun x => by kernel_rfl
theorem S99 : Sound Try.prog 99 C99 := fun_sound (E := E99) ⟨good_T (by kernel_rfl), (good_cons S130 ⟨_, Try.func130, by kernel_rfl, by kernel_rfl⟩ good_nil), mixedOk, ins_nil⟩ Try.func99 rfl E99_eq
/-- laws.szPhraseS -/
noncomputable def l_szPhraseS (p_a : List GPhrase) (p_left : Int) : Option (Int) :=
  bif (decide ((w64 (p_left - (p_a.length : Int))) < 0)) then
    some (-1)
  else
    (loopE (fun (st2 : Int × Int) => (
        bif (decide (st2.2 < (p_a.length : Int))) then
          (idx p_a st2.2).bind fun e3 =>
          (l_szPhrase e3 st2.1).bind fun r4 =>
          bif (decide (r4 < 0)) then
            some (.inr (.inr (-1)))
          else
            some (.inl (r4, (w64 (st2.2 + 1))))
        else
          some (.inr (.inl st2.1)) : Option ((Int × Int) ⊕ (Int ⊕ Int)))) ((w64 (p_left - (p_a.length : Int))), 0)).bind fun o5 =>
    match o5 with
    | .inl x6 =>
      some x6
    | .inr y7 =>
      some y7
noncomputable def C52 : FnSpec := { ps := [.val (.slice TGPhrase), .val (.int .i64)], rs := [.val (.int .i64)], fn := fun x => l_szPhraseS x.1 x.2 }
noncomputable def E52 : Env := { T := [(22, (.slice TGPhrase)), (105, TGPhrase)], G := [(99, C99)], ro := [], loops := [(5, { keep := [0], live := [.tv 1 (.int .i64), .tv 5 (.int .i64)], outs := [(.exit 0, [.tv 1 (.int .i64)]), (.ret, [.tv 4 (.int .i64)])] })], joins := [] }
theorem E52_eq : ∀ x, afun E52 Try.f52 C52.ps C52.rs x = C52.fn x := fun x => by kernel_rfl
theorem S52 : Sound Try.prog 52 C52 := fun_sound (E := E52) ⟨good_T (by kernel_rfl), (good_cons S99 ⟨_, Try.func99, by kernel_rfl, by kernel_rfl⟩ good_nil), mixedOk, ins_nil⟩ Try.func52 rfl E52_eq
/-- laws.szBook -/
noncomputable def l_szBook (p_a : GBook) (p_left : Int) : Option (Int) :=
  (l_szPhraseS p_a.1 p_left).bind fun r1 =>
  bif (decide (r1 < 0)) then
    some (-1)
  else
    some r1
noncomputable def C7 : FnSpec := { ps := [.val TGBook, .val (.int .i64)], rs := [.val (.int .i64)], fn := fun x => l_szBook x.1 x.2 }
noncomputable def E7 : Env := { T := [(22, (.slice TGPhrase)), (24, TGBook)], G := [(52, C52)], ro := [2], loops := [], joins := [] }
theorem E7_eq : ∀ x, afun E7 Try.f7 C7.ps C7.rs x = C7.fn x := fun x => by kernel_rfl
theorem S7 : Sound Try.prog 7 C7 := fun_sound (E := E7) ⟨good_T (by kernel_rfl), (good_cons S52 ⟨_, Try.func52, by kernel_rfl, by kernel_rfl⟩ good_nil), mixedOk, ins_nil⟩ Try.func7 rfl E7_eq
/-- laws.toIntS -/
noncomputable def l_toIntS (p_a : List Int) : Option ((List Int)) :=
  bif decide (0 ≤ (p_a.length : Int)) && decide ((p_a.length : Int) ≤ (p_a.length : Int)) && decide ((p_a.length : Int) ≤ lim) then
    (loopE (fun (st2 : (List Int) × Int) => (
        bif (decide (st2.2 < (p_a.length : Int))) then
          (idx p_a st2.2).bind fun e3 =>
          bif decide (0 ≤ st2.2) && decide (st2.2 < (st2.1.length : Int)) then
            some (.inl ((st2.1.set (Int.toNat st2.2) e3), (w64 (st2.2 + 1))))
          else
            none
        else
          some (.inr st2.1) : Option (((List Int) × Int) ⊕ ((List Int))))) ((List.replicate (Int.toNat (p_a.length : Int)) (0 : Int)), 0)).bind fun o4 =>
    some o4
  else
    none
noncomputable def C16 : FnSpec := { ps := [.val (.slice (.int .i64))], rs := [.own (.slice (.int .i64))], fn := fun x => l_toIntS x }
noncomputable def E16 : Env := { T := [(3, (.int .i64)), (38, (.slice (.int .i64)))], G := [], ro := [], loops := [(3, { keep := [0], live := [.own 3 [] 112 (.int .i64) true, .tv 4 (.int .i64)], outs := [(.exit 0, [.own 3 [] 112 (.int .i64) true])] })], joins := [] }
theorem E16_eq : ∀ x, afun E16 Try.f16 C16.ps C16.rs x = C16.fn x := fun x => by kernel_rfl
theorem S16 : Sound Try.prog 16 C16 := fun_sound (E := E16) ⟨good_T (by kernel_rfl), good_nil, mixedOk, ins_nil⟩ Try.func16 rfl E16_eq
/-- laws.toPhrase -/
noncomputable def l_toPhrase (p_a : GPhrase) : Option (GPhrase) :=
  (l_toIntS p_a.2.1).bind fun r1 =>
  some (p_a.1, r1, ())
noncomputable def C104 : FnSpec := { ps := [.val TGPhrase], rs := [.own TGPhrase], fn := fun x => l_toPhrase x }
noncomputable def E104 : Env := { T := [(9, .str), (38, (.slice (.int .i64))), (61, TGPhrase), (105, TGPhrase)], G := [(16, C16)], ro := [1], loops := [], joins := [] }
theorem E104_eq : ∀ x, afun E104 Try.f104 C104.ps C104.rs x = C104.fn x := fun x => by kernel_rfl
theorem S104 : Sound Try.prog 104 C104 := fun_sound (E := E104) ⟨good_T (by kernel_rfl), (good_cons S16 ⟨_, Try.func16, by kernel_rfl, by kernel_rfl⟩ good_nil), mixedOk, ins_nil⟩ Try.func104 rfl E104_eq
/-- laws.toPhraseS -/
noncomputable def l_toPhraseS (p_a : List GPhrase) : Option ((List GPhrase)) :=
  bif decide (0 ≤ (p_a.length : Int)) && decide ((p_a.length : Int) ≤ (p_a.length : Int)) && decide ((p_a.length : Int) ≤ lim) then
    (loopE (fun (st2 : (List GPhrase) × Int) => (
        bif (decide (st2.2 < (p_a.length : Int))) then
          (idx p_a st2.2).bind fun e3 =>
          (l_toPhrase e3).bind fun r4 =>
          bif decide (0 ≤ st2.2) && decide (st2.2 < (st2.1.length : Int)) then
            some (.inl ((st2.1.set (Int.toNat st2.2) (r4.1, r4.2.1, ())), (w64 (st2.2 + 1))))
          else
            none
        else
          some (.inr st2.1) : Option (((List GPhrase) × Int) ⊕ ((List GPhrase))))) ((List.replicate (Int.toNat (p_a.length : Int)) (([], ([], ())) : GPhrase)), 0)).bind fun o5 =>
    some o5
  else
    none
noncomputable def C56 : FnSpec := { ps := [.val (.slice TGPhrase)], rs := [.own (.slice TGPhrase)], fn := fun x => l_toPhraseS x }
noncomputable def E56 : Env := { T := [(22, (.slice TGPhrase)), (30, (.slice TGPhrase)), (61, TGPhrase), (105, TGPhrase)], G := [(104, C104)], ro := [], loops := [(3, { keep := [0], live := [.own 3 [] 112 TGPhrase true, .tv 4 (.int .i64)], outs := [(.exit 0, [.own 3 [] 112 TGPhrase true])] })], joins := [], mv := true }
theorem E56_eq : ∀ x, afun E56 Try.f56 C56.ps C56.rs x = C56.fn x := fun x => by kernel_rfl
theorem S56 : Sound Try.prog 56 C56 := fun_sound (E := E56) ⟨good_T (by kernel_rfl), (good_cons S104 ⟨_, Try.func104, by kernel_rfl, by kernel_rfl⟩ good_nil), mixedOk, ins_nil⟩ Try.func56 rfl E56_eq
/-- laws.toBook -/
noncomputable def l_toBook (p_a : GBook) : Option (GBook) :=
  (l_toPhraseS p_a.1).bind fun r1 =>
  some (r1, ())
noncomputable def C10 : FnSpec := { ps := [.val TGBook], rs := [.own TGBook], fn := fun x => l_toBook x }
noncomputable def E10 : Env := { T := [(22, (.slice TGPhrase)), (24, TGBook), (30, (.slice TGPhrase)), (32, TGBook)], G := [(56, C56)], ro := [1], loops := [], joins := [] }
theorem E10_eq : ∀ x, afun E10 Try.f10 C10.ps C10.rs x = C10.fn x := fun x => by kernel_rfl
theorem S10 : Sound Try.prog 10 C10 := fun_sound (E := E10) ⟨good_T (by kernel_rfl), (good_cons S56 ⟨_, Try.func56, by kernel_rfl, by kernel_rfl⟩ good_nil), mixedOk, ins_nil⟩ Try.func10 rfl E10_eq
/-- laws.eqIntS -/
noncomputable def l_eqIntS (p_a : List Int) (p_b : List Int) : Option (Bool) :=
  bif (!decide ((p_a.length : Int) = (p_b.length : Int))) then
    some false
  else
    (loopE (fun (st2 : Int) => (
        bif (decide (st2 < (p_a.length : Int))) then
          (idx p_a st2).bind fun e3 =>
          (idx p_b st2).bind fun e4 =>
          bif (!decide (e3 = e4)) then
            some (.inr (.inr false))
          else
            some (.inl (w64 (st2 + 1)))
        else
          some (.inr (.inl ())) : Option ((Int) ⊕ (Unit ⊕ Bool)))) 0).bind fun o5 =>
    match o5 with
    | .inl _ =>
      some true
    | .inr y7 =>
      some y7
noncomputable def C18 : FnSpec := { ps := [.val (.slice (.int .i64)), .val (.slice (.int .i64))], rs := [.val .bool], fn := fun x => l_eqIntS x.1 x.2 }
noncomputable def E18 : Env := { T := [(3, (.int .i64)), (38, (.slice (.int .i64)))], G := [], ro := [], loops := [(4, { keep := [0, 1], live := [.tv 5 (.int .i64)], outs := [(.exit 0, []), (.ret, [.tv 4 .bool])] })], joins := [] }
theorem E18_eq : ∀ x, afun E18 Try.f18 C18.ps C18.rs x = C18.fn x := fun x => by kernel_rfl
theorem S18 : Sound Try.prog 18 C18 := fun_sound (E := E18) ⟨good_T (by kernel_rfl), good_nil, mixedOk, ins_nil⟩ Try.func18 rfl E18_eq
/-- laws.eqPhrase -/
noncomputable def l_eqPhrase (p_a : GPhrase) (p_b : GPhrase) : Option (Bool) :=
  bif (!decide (p_a.1 = p_b.1)) then
    some false
  else
    (l_eqIntS p_a.2.1 p_b.2.1).bind fun r1 =>
    bif (!r1) then
      some false
    else
      some true
noncomputable def C107 : FnSpec := { ps := [.val TGPhrase, .val TGPhrase], rs := [.val .bool], fn := fun x => l_eqPhrase x.1 x.2 }
noncomputable def E107 : Env := { T := [(9, .str), (38, (.slice (.int .i64))), (61, TGPhrase)], G := [(18, C18)], ro := [2, 3], loops := [], joins := [] }
theorem E107_eq : ∀ x, afun E107 Try.f107 C107.ps C107.rs x = C107.fn x := fun x => by kernel_rfl
theorem S107 : Sound Try.prog 107 C107 := fun_sound (E := E107) ⟨good_T (by kernel_rfl), (good_cons S18 ⟨_, Try.func18, by kernel_rfl, by kernel_rfl⟩ good_nil), mixedOk, ins_nil⟩ Try.func107 rfl E107_eq
/-- laws.eqPhraseS -/
noncomputable def l_eqPhraseS (p_a : List GPhrase) (p_b : List GPhrase) : Option (Bool) :=
  bif (!decide ((p_a.length : Int) = (p_b.length : Int))) then
    some false
  else
    (loopE (fun (st2 : Int) => (
        bif (decide (st2 < (p_a.length : Int))) then
          (idx p_a st2).bind fun e3 =>
          (idx p_b st2).bind fun e4 =>
          (l_eqPhrase e3 e4).bind fun r5 =>
          bif (!r5) then
            some (.inr (.inr false))
          else
            some (.inl (w64 (st2 + 1)))
        else
          some (.inr (.inl ())) : Option ((Int) ⊕ (Unit ⊕ Bool)))) 0).bind fun o6 =>
    match o6 with
    | .inl _ =>
      some true
    | .inr y8 =>
      some y8
noncomputable def C60 : FnSpec := { ps := [.val (.slice TGPhrase), .val (.slice TGPhrase)], rs := [.val .bool], fn := fun x => l_eqPhraseS x.1 x.2 }
noncomputable def E60 : Env := { T := [(30, (.slice TGPhrase)), (61, TGPhrase)], G := [(107, C107)], ro := [], loops := [(4, { keep := [0, 1], live := [.tv 5 (.int .i64)], outs := [(.exit 0, []), (.ret, [.tv 4 .bool])] })], joins := [] }
theorem E60_eq : ∀ x, afun E60 Try.f60 C60.ps C60.rs x = C60.fn x := fun x => by kernel_rfl
theorem S60 : Sound Try.prog 60 C60 := fun_sound (E := E60) ⟨good_T (by kernel_rfl), (good_cons S107 ⟨_, Try.func107, by kernel_rfl, by kernel_rfl⟩ good_nil), mixedOk, ins_nil⟩ Try.func60 rfl E60_eq
/-- laws.eqBook -/
noncomputable def l_eqBook (p_a : GBook) (p_b : GBook) : Option (Bool) :=
  (l_eqPhraseS p_a.1 p_b.1).bind fun r1 =>
  bif (!r1) then
    some false
  else
    some true
noncomputable def C13 : FnSpec := { ps := [.val TGBook, .val TGBook], rs := [.val .bool], fn := fun x => l_eqBook x.1 x.2 }
noncomputable def E13 : Env := { T := [(30, (.slice TGPhrase)), (32, TGBook)], G := [(60, C60)], ro := [2, 3], loops := [], joins := [] }
theorem E13_eq : ∀ x, afun E13 Try.f13 C13.ps C13.rs x = C13.fn x := fun x => by kernel_rfl
theorem S13 : Sound Try.prog 13 C13 := fun_sound (E := E13) ⟨good_T (by kernel_rfl), (good_cons S60 ⟨_, Try.func60, by kernel_rfl, by kernel_rfl⟩ good_nil), mixedOk, ins_nil⟩ Try.func13 rfl E13_eq
/-- laws.markIntS -/
noncomputable def l_markIntS (p_a : List Int) (p_k : Int) : Option ((List Int) × Int) :=
  (loopE (fun (st2 : (List Int) × Int × Int) => (
      bif (decide (st2.2.2 < (st2.1.length : Int))) then
        bif decide (0 ≤ st2.2.2) && decide (st2.2.2 < (st2.1.length : Int)) then
          some (.inl ((st2.1.set (Int.toNat st2.2.2) st2.2.1), (w64 (st2.2.1 + 1)), (w64 (st2.2.2 + 1))))
        else
          none
      else
        some (.inr (st2.1, st2.2.1)) : Option (((List Int) × Int × Int) ⊕ (((List Int) × Int))))) (p_a, p_k, 0)).bind fun o3 =>
  some (o3.1, o3.2)
noncomputable def C20 : FnSpec := { ps := [.own (.slice (.int .i64)), .val (.int .i64)], rs := [.val (.int .i64)], fn := fun x => l_markIntS x.1 x.2 }
noncomputable def E20 : Env := { T := [(3, (.int .i64)), (38, (.slice (.int .i64)))], G := [], ro := [], loops := [(2, { keep := [], live := [.own 0 [] 100000 (.int .i64) true, .tv 1 (.int .i64), .tv 5 (.int .i64)], outs := [(.exit 0, [.own 0 [] 100000 (.int .i64) true, .tv 1 (.int .i64)])] })], joins := [] }
theorem E20_eq : ∀ x, afun E20 Try.f20 C20.ps C20.rs x = C20.fn x := fun x => by kernel_rfl
theorem S20 : Sound Try.prog 20 C20 := fun_sound_own (E := E20) ⟨good_T (by kernel_rfl), good_nil, mixedOk, ins_nil⟩ Try.func20 rfl rfl E20_eq
/-- laws.markText -/
noncomputable def l_markText (p_k : Int) : Option (Bytes) :=
  bif (decide (p_k ≤ 0)) then
    some ([109, 48] : Bytes)
  else
    (loopE (fun (st2 : Int × Bytes) => (
        bif (decide (0 < st2.1)) then
          bif decide (List.length (toStr [(IntKind.u8.wrap (w64 (48 + (Int.tmod st2.1 10))))]) + List.length st2.2 ≤ lim) then
            some (.inl ((w64 (Int.tdiv st2.1 10)), ((toStr [(IntKind.u8.wrap (w64 (48 + (Int.tmod st2.1 10))))]) ++ st2.2)))
          else
            none
        else
          some (.inr st2.2) : Option ((Int × Bytes) ⊕ (Bytes)))) (p_k, [])).bind fun o3 =>
    bif decide (List.length ([109] : Bytes) + List.length o3 ≤ lim) then
      some (([109] : Bytes) ++ o3)
    else
      none
noncomputable def C112 : FnSpec := { ps := [.val (.int .i64)], rs := [.val .str], fn := fun x => l_markText x }
noncomputable def E112 : Env := { T := [(3, (.int .i64)), (5, (.int .u8)), (9, .str), (46, (.slice (.int .u8)))], G := [], ro := [], loops := [(4, { keep := [], live := [.tv 0 (.int .i64), .tv 3 .str], outs := [(.exit 0, [.tv 3 .str])] })], joins := [] }
theorem E112_eq : ∀ x, afun E112 Try.f112 C112.ps C112.rs x = C112.fn x := fun x => by kernel_rfl
theorem S112 : Sound Try.prog 112 C112 := fun_sound (E := E112) ⟨good_T (by kernel_rfl), good_nil, mixedOk, ins_nil⟩ Try.func112 rfl E112_eq
/-- laws.markPhraseS -/
noncomputable def l_markPhraseS (p_a : List GPhrase) (p_k : Int) : Option ((List GPhrase) × Int) :=
  (loopE (fun (st2 : (List GPhrase) × Int × Int) => (
      bif (decide (st2.2.2 < (st2.1.length : Int))) then
        (l_markText st2.2.1).bind fun r3 =>
        bif decide (0 ≤ st2.2.2) && decide (st2.2.2 < (st2.1.length : Int)) then
          (st2.1[(Int.toNat st2.2.2)]?).bind fun e4 =>
          bif decide (0 ≤ st2.2.2) && decide (st2.2.2 < ((st2.1.set (Int.toNat st2.2.2) (r3, e4.2)).length : Int)) then
            ((st2.1.set (Int.toNat st2.2.2) (r3, e4.2))[(Int.toNat st2.2.2)]?).bind fun e5 =>
            (l_markIntS e5.2.1 (w64 (st2.2.1 + 1))).bind fun r6 =>
            some (.inl (((st2.1.set (Int.toNat st2.2.2) (r3, e4.2)).set (Int.toNat st2.2.2) (e5.1, r6.1, ())), r6.2, (w64 (st2.2.2 + 1))))
          else
            none
        else
          none
      else
        some (.inr (st2.1, st2.2.1)) : Option (((List GPhrase) × Int × Int) ⊕ (((List GPhrase) × Int))))) (p_a, p_k, 0)).bind fun o7 =>
  some (o7.1, o7.2)
noncomputable def C73 : FnSpec := { ps := [.own (.slice TGPhrase), .val (.int .i64)], rs := [.val (.int .i64)], fn := fun x => l_markPhraseS x.1 x.2 }
noncomputable def E73 : Env := { T := [(9, .str), (30, (.slice TGPhrase)), (38, (.slice (.int .i64))), (61, TGPhrase)], G := [(20, C20), (112, C112)], ro := [], loops := [(2, { keep := [], live := [.own 0 [] 100000 TGPhrase true, .tv 1 (.int .i64), .tv 5 (.int .i64)], outs := [(.exit 0, [.own 0 [] 100000 TGPhrase true, .tv 1 (.int .i64)])] })], joins := [] }
theorem E73_eq : ∀ x, afun E73 Try.f73 C73.ps C73.rs x = C73.fn x := fun x => by kernel_rfl
theorem S73 : Sound Try.prog 73 C73 := fun_sound_own (E := E73) ⟨good_T (by kernel_rfl), (good_cons S20 ⟨_, Try.func20, by kernel_rfl, by kernel_rfl⟩ (good_cons S112 ⟨_, Try.func112, by kernel_rfl, by kernel_rfl⟩ good_nil)), mixedOk, ins_nil⟩ Try.func73 rfl rfl E73_eq
/-- laws.markBook -/
noncomputable def l_markBook (p_a : GBook) (p_k : Int) : Option (GBook × Int) :=
  (l_markPhraseS p_a.1 p_k).bind fun r1 =>
  some ((r1.1, ()), r1.2)
noncomputable def C19 : FnSpec := { ps := [.own TGBook, .val (.int .i64)], rs := [.val (.int .i64)], fn := fun x => l_markBook x.1 x.2 }
noncomputable def E19 : Env := { T := [(30, (.slice TGPhrase)), (32, TGBook)], G := [(73, C73)], ro := [], loops := [], joins := [] }
theorem E19_eq : ∀ x, afun E19 Try.f19 C19.ps C19.rs x = C19.fn x := fun x => by kernel_rfl
theorem S19 : Sound Try.prog 19 C19 := fun_sound_own (E := E19) ⟨good_T (by kernel_rfl), (good_cons S73 ⟨_, Try.func73, by kernel_rfl, by kernel_rfl⟩ good_nil), mixedOk, ins_nil⟩ Try.func19 rfl rfl E19_eq
/-- laws.heldIntS -/
noncomputable def l_heldIntS (p_a : List Int) (p_k : Int) : Option (Int) :=
  (loopE (fun (st2 : Int × Int) => (
      bif (decide (st2.2 < (p_a.length : Int))) then
        (idx p_a st2.2).bind fun e3 =>
        bif (!decide (e3 = st2.1)) then
          some (.inr (.inr (-1)))
        else
          some (.inl ((w64 (st2.1 + 1)), (w64 (st2.2 + 1))))
      else
        some (.inr (.inl st2.1)) : Option ((Int × Int) ⊕ (Int ⊕ Int)))) (p_k, 0)).bind fun o4 =>
  match o4 with
  | .inl x5 =>
    some x5
  | .inr y6 =>
    some y6
noncomputable def C113 : FnSpec := { ps := [.val (.slice (.int .i64)), .val (.int .i64)], rs := [.val (.int .i64)], fn := fun x => l_heldIntS x.1 x.2 }
noncomputable def E113 : Env := { T := [(3, (.int .i64)), (38, (.slice (.int .i64)))], G := [], ro := [], loops := [(2, { keep := [0], live := [.tv 1 (.int .i64), .tv 5 (.int .i64)], outs := [(.exit 0, [.tv 1 (.int .i64)]), (.ret, [.tv 4 (.int .i64)])] })], joins := [] }
theorem E113_eq : ∀ x, afun E113 Try.f113 C113.ps C113.rs x = C113.fn x := fun x => by kernel_rfl
theorem S113 : Sound Try.prog 113 C113 := fun_sound (E := E113) ⟨good_T (by kernel_rfl), good_nil, mixedOk, ins_nil⟩ Try.func113 rfl E113_eq
/-- laws.heldPhraseS -/
noncomputable def l_heldPhraseS (p_a : List GPhrase) (p_k : Int) : Option (Int) :=
  (loopE (fun (st2 : Int × Int) => (
      bif (decide (st2.2 < (p_a.length : Int))) then
        (idx p_a st2.2).bind fun e3 =>
        (l_markText st2.1).bind fun r4 =>
        bif (!decide (e3.1 = r4)) then
          some (.inr (.inr (-1)))
        else
          (idx p_a st2.2).bind fun e5 =>
          (l_heldIntS e5.2.1 (w64 (st2.1 + 1))).bind fun r6 =>
          bif (decide (r6 < 0)) then
            some (.inr (.inr (-1)))
          else
            some (.inl (r6, (w64 (st2.2 + 1))))
      else
        some (.inr (.inl st2.1)) : Option ((Int × Int) ⊕ (Int ⊕ Int)))) (p_k, 0)).bind fun o7 =>
  match o7 with
  | .inl x8 =>
    some x8
  | .inr y9 =>
    some y9
noncomputable def C74 : FnSpec := { ps := [.val (.slice TGPhrase), .val (.int .i64)], rs := [.val (.int .i64)], fn := fun x => l_heldPhraseS x.1 x.2 }
noncomputable def E74 : Env := { T := [(9, .str), (30, (.slice TGPhrase)), (38, (.slice (.int .i64))), (61, TGPhrase)], G := [(112, C112), (113, C113)], ro := [], loops := [(2, { keep := [0], live := [.tv 1 (.int .i64), .tv 5 (.int .i64)], outs := [(.exit 0, [.tv 1 (.int .i64)]), (.ret, [.tv 4 (.int .i64)])] })], joins := [] }
theorem E74_eq : ∀ x, afun E74 Try.f74 C74.ps C74.rs x = C74.fn x := fun x => by kernel_rfl
theorem S74 : Sound Try.prog 74 C74 := fun_sound (E := E74) ⟨good_T (by kernel_rfl), (good_cons S112 ⟨_, Try.func112, by kernel_rfl, by kernel_rfl⟩ (good_cons S113 ⟨_, Try.func113, by kernel_rfl, by kernel_rfl⟩ good_nil)), mixedOk, ins_nil⟩ Try.func74 rfl E74_eq
/-- laws.heldBook -/
noncomputable def l_heldBook (p_a : GBook) (p_k : Int) : Option (Int) :=
  (l_heldPhraseS p_a.1 p_k).bind fun r1 =>
  bif (decide (r1 < 0)) then
    some (-1)
  else
    some r1
noncomputable def C21 : FnSpec := { ps := [.val TGBook, .val (.int .i64)], rs := [.val (.int .i64)], fn := fun x => l_heldBook x.1 x.2 }
noncomputable def E21 : Env := { T := [(30, (.slice TGPhrase)), (32, TGBook)], G := [(74, C74)], ro := [2], loops := [], joins := [] }
theorem E21_eq : ∀ x, afun E21 Try.f21 C21.ps C21.rs x = C21.fn x := fun x => by kernel_rfl
theorem S21 : Sound Try.prog 21 C21 := fun_sound (E := E21) ⟨good_T (by kernel_rfl), (good_cons S74 ⟨_, Try.func74, by kernel_rfl, by kernel_rfl⟩ good_nil), mixedOk, ins_nil⟩ Try.func21 rfl E21_eq
/-- laws.FnExactDealAnew -/
noncomputable def l_FnExactDealAnew (p_aB : GBook) (p_aWeights : List Int) : Option (Bool) :=
  bif (decide (1048576 < (p_aWeights.length : Int))) then
    some true
  else
    (l_szBook p_aB 1048576).bind fun r1 =>
    bif (decide (r1 < 0)) then
      some true
    else
      (l_toBook p_aB).bind fun r2 =>
      (l_toIntS p_aWeights).bind fun r3 =>
      (s_DealAnew (r2.1, ()) r3).bind fun r4 =>
      (l_toBook p_aB).bind fun r5 =>
      (l_toIntS p_aWeights).bind fun r6 =>
      (i_DealAnew (r5.1, ()) r6).bind fun r7 =>
      (l_eqBook r7.1 r4.1).bind fun r8 =>
      (bif (!r8) then
          some true
        else
          some (r7.2 != r4.2)).bind fun c9 =>
      bif c9 then
        some false
      else
        (l_toBook p_aB).bind fun r10 =>
        (l_eqBook (r5.1, ()) (r10.1, ())).bind fun r11 =>
        bif (!r11) then
          some false
        else
          (l_toIntS p_aWeights).bind fun r12 =>
          (l_eqIntS r6 r12).bind fun r13 =>
          bif (!r13) then
            some false
          else
            (l_markBook (r5.1, ()) 1).bind fun r14 =>
            (l_markIntS r6 r14.2).bind fun r15 =>
            (bif (decide (r15.2 < 0)) then
                some true
              else
                (l_eqBook r7.1 r4.1).bind fun r16 =>
                some (!r16)).bind fun c17 =>
            (bif c17 then
                some true
              else
                some (r7.2 != r4.2)).bind fun c18 =>
            bif c18 then
              some false
            else
              (l_markBook r7.1 1).bind fun r19 =>
              (l_heldBook r19.1 1).bind fun r20 =>
              bif (decide (r20 < 0)) then
                some false
              else
                bif (!decide (r20 = r19.2)) then
                  some false
                else
                  (l_toBook p_aB).bind fun r21 =>
                  (l_toIntS p_aWeights).bind fun r22 =>
                  (i_DealAnew r21 r22).bind fun r23 =>
                  (l_eqBook r23.1 r4.1).bind fun r24 =>
                  (bif (!r24) then
                      some true
                    else
                      some (r23.2 != r4.2)).bind fun c25 =>
                  bif c25 then
                    some false
                  else
                    (l_heldBook r19.1 1).bind fun r26 =>
                    bif (decide (r26 < 0)) then
                      some false
                    else
                      bif (!decide (r26 = r19.2)) then
                        some false
                      else
                        some true
noncomputable def C4 : FnSpec := { ps := [.val TGBook, .val (.slice (.int .i64))], rs := [.val .bool], fn := fun x => l_FnExactDealAnew x.1 x.2 }
noncomputable def E4 : Env := { T := [(4, .bool), (24, TGBook), (32, TGBook), (38, (.slice (.int .i64)))], G := [(7, C7), (10, C10), (13, C13), (15, C15), (16, C16), (17, C17), (18, C18), (19, C19), (20, C20), (21, C21)], ro := [2], loops := [], joins := [] }
theorem E4_eq : ∀ x, afun E4 Try.f4 C4.ps C4.rs x = C4.fn x := fun x => by kernel_rfl
theorem S4 : Sound Try.prog 4 C4 := fun_sound (E := E4) ⟨good_T (by kernel_rfl), (good_cons S7 ⟨_, Try.func7, by kernel_rfl, by kernel_rfl⟩ (good_cons S10 ⟨_, Try.func10, by kernel_rfl, by kernel_rfl⟩ (good_cons S13 ⟨_, Try.func13, by kernel_rfl, by kernel_rfl⟩ (good_cons S15 ⟨_, Try.func15, by kernel_rfl, by kernel_rfl⟩ (good_cons S16 ⟨_, Try.func16, by kernel_rfl, by kernel_rfl⟩ (good_cons S17 ⟨_, Try.func17, by kernel_rfl, by kernel_rfl⟩ (good_cons S18 ⟨_, Try.func18, by kernel_rfl, by kernel_rfl⟩ (good_cons S19 ⟨_, Try.func19, by kernel_rfl, by kernel_rfl⟩ (good_cons S20 ⟨_, Try.func20, by kernel_rfl, by kernel_rfl⟩ (good_cons S21 ⟨_, Try.func21, by kernel_rfl, by kernel_rfl⟩ good_nil)))))))))), mixedOk, ins_nil⟩ Try.func4 rfl E4_eq
end Go.Proofs.Ytlhplhjibadplaa.Sh
