/-
  Sorting by a comparison, equals kept in order: what slices.SortStableFunc's own text computes, in plain Lean, at 40 elements at most.
-/
import Derived.Test.YtlhplhjibadplaaXLift
import Derived.Test.YtlhplhjibadplaaXLaw
namespace Go.Ab
open Go

noncomputable def g_insertionSort (p_data : List Int) (p_a : Int) (p_b : Int) (cm : Int → Int → Option Int) : Option ((List Int)) :=
  (loopE (fun (st2 : (List Int) × Int) => (
      bif (decide (st2.2 < p_b)) then
        (loopE (fun (st4 : (List Int) × Int) => (
            (bif (decide (p_a < st4.2)) then
                bif decide (0 ≤ st4.2) && decide (st4.2 < (st4.1.length : Int)) then
                  (st4.1[(Int.toNat st4.2)]?).bind fun e5 =>
                  bif decide (0 ≤ (w64 (st4.2 - 1))) && decide ((w64 (st4.2 - 1)) < (st4.1.length : Int)) then
                    (st4.1[(Int.toNat (w64 (st4.2 - 1)))]?).bind fun e6 =>
                    (cm e5 e6).bind fun r7 =>
                    some (decide (r7 < 0))
                  else
                    none
                else
                  none
              else
                some false).bind fun c8 =>
            bif c8 then
              bif decide (0 ≤ (w64 (st4.2 - 1))) && decide ((w64 (st4.2 - 1)) < (st4.1.length : Int)) then
                (st4.1[(Int.toNat (w64 (st4.2 - 1)))]?).bind fun e9 =>
                bif decide (0 ≤ st4.2) && decide (st4.2 < (st4.1.length : Int)) then
                  (st4.1[(Int.toNat st4.2)]?).bind fun e10 =>
                  bif decide (0 ≤ st4.2) && decide (st4.2 < (st4.1.length : Int)) then
                    bif decide (0 ≤ (w64 (st4.2 - 1))) && decide ((w64 (st4.2 - 1)) < ((st4.1.set (Int.toNat st4.2) e9).length : Int)) then
                      some (.inl (((st4.1.set (Int.toNat st4.2) e9).set (Int.toNat (w64 (st4.2 - 1))) e10), (w64 (st4.2 - 1))))
                    else
                      none
                  else
                    none
                else
                  none
              else
                none
            else
              some (.inr st4.1) : Option (((List Int) × Int) ⊕ ((List Int))))) (st2.1, st2.2)).bind fun o11 =>
        some (.inl (o11, (w64 (st2.2 + 1))))
      else
        some (.inr st2.1) : Option (((List Int) × Int) ⊕ ((List Int))))) (p_data, (w64 (p_a + 1)))).bind fun o12 =>
  some o12

noncomputable def g_swapRange (p_data : List Int) (p_a : Int) (p_b : Int) (p_n : Int) (cm : Int → Int → Option Int) : Option ((List Int)) :=
  (loopE (fun (st2 : (List Int) × Int) => (
      bif (decide (st2.2 < p_n)) then
        bif decide (0 ≤ (w64 (p_b + st2.2))) && decide ((w64 (p_b + st2.2)) < (st2.1.length : Int)) then
          (st2.1[(Int.toNat (w64 (p_b + st2.2)))]?).bind fun e3 =>
          bif decide (0 ≤ (w64 (p_a + st2.2))) && decide ((w64 (p_a + st2.2)) < (st2.1.length : Int)) then
            (st2.1[(Int.toNat (w64 (p_a + st2.2)))]?).bind fun e4 =>
            bif decide (0 ≤ (w64 (p_a + st2.2))) && decide ((w64 (p_a + st2.2)) < (st2.1.length : Int)) then
              bif decide (0 ≤ (w64 (p_b + st2.2))) && decide ((w64 (p_b + st2.2)) < ((st2.1.set (Int.toNat (w64 (p_a + st2.2))) e3).length : Int)) then
                some (.inl (((st2.1.set (Int.toNat (w64 (p_a + st2.2))) e3).set (Int.toNat (w64 (p_b + st2.2))) e4), (w64 (st2.2 + 1))))
              else
                none
            else
              none
          else
            none
        else
          none
      else
        some (.inr st2.1) : Option (((List Int) × Int) ⊕ ((List Int))))) (p_data, 0)).bind fun o5 =>
  some o5

noncomputable def g_rotate (p_data : List Int) (p_a : Int) (p_m : Int) (p_b : Int) (cm : Int → Int → Option Int) : Option ((List Int)) :=
  (loopE (fun (st2 : (List Int) × Int × Int) => (
      bif (!decide (st2.2.1 = st2.2.2)) then
        bif (decide (st2.2.2 < st2.2.1)) then
          (g_swapRange st2.1 (w64 (p_m - st2.2.1)) p_m st2.2.2 cm).bind fun r3 =>
          some (.inl (r3, (w64 (st2.2.1 - st2.2.2)), st2.2.2))
        else
          (g_swapRange st2.1 (w64 (p_m - st2.2.1)) (w64 ((w64 (p_m + st2.2.2)) - st2.2.1)) st2.2.1 cm).bind fun r4 =>
          some (.inl (r4, st2.2.1, (w64 (st2.2.2 - st2.2.1))))
      else
        some (.inr (st2.1, st2.2.1)) : Option (((List Int) × Int × Int) ⊕ (((List Int) × Int))))) (p_data, (w64 (p_m - p_a)), (w64 (p_b - p_m)))).bind fun o5 =>
  (g_swapRange o5.1 (w64 (p_m - o5.2)) p_m o5.2 cm).bind fun r6 =>
  some r6

noncomputable def g_symMerge_step (again : (List Int) → Int → Int → Int → (Int → Int → Option Int) → Option ((List Int))) (p_data : List Int) (p_a : Int) (p_m : Int) (p_b : Int) (cm : Int → Int → Option Int) : Option ((List Int)) :=
  bif (decide ((w64 (p_m - p_a)) = 1)) then
    (loopE (fun (st2 : (List Int) × Int × Int) => (
        bif (decide (st2.2.1 < st2.2.2)) then
          bif decide (0 ≤ (w64 (shiftI .shr .u64 (IntKind.u64.wrap (w64 (st2.2.1 + st2.2.2))) 1))) && decide ((w64 (shiftI .shr .u64 (IntKind.u64.wrap (w64 (st2.2.1 + st2.2.2))) 1)) < (st2.1.length : Int)) then
            (st2.1[(Int.toNat (w64 (shiftI .shr .u64 (IntKind.u64.wrap (w64 (st2.2.1 + st2.2.2))) 1)))]?).bind fun e3 =>
            bif decide (0 ≤ p_a) && decide (p_a < (st2.1.length : Int)) then
              (st2.1[(Int.toNat p_a)]?).bind fun e4 =>
              (cm e3 e4).bind fun r5 =>
              bif (decide (r5 < 0)) then
                some (.inl (st2.1, (w64 ((w64 (shiftI .shr .u64 (IntKind.u64.wrap (w64 (st2.2.1 + st2.2.2))) 1)) + 1)), st2.2.2))
              else
                some (.inl (st2.1, st2.2.1, (w64 (shiftI .shr .u64 (IntKind.u64.wrap (w64 (st2.2.1 + st2.2.2))) 1))))
            else
              none
          else
            none
        else
          some (.inr (st2.1, st2.2.1)) : Option (((List Int) × Int × Int) ⊕ (((List Int) × Int))))) (p_data, p_m, p_b)).bind fun o6 =>
    (loopE (fun (st8 : (List Int) × Int) => (
        bif (decide (st8.2 < (w64 (o6.2 - 1)))) then
          bif decide (0 ≤ (w64 (st8.2 + 1))) && decide ((w64 (st8.2 + 1)) < (st8.1.length : Int)) then
            (st8.1[(Int.toNat (w64 (st8.2 + 1)))]?).bind fun e9 =>
            bif decide (0 ≤ st8.2) && decide (st8.2 < (st8.1.length : Int)) then
              (st8.1[(Int.toNat st8.2)]?).bind fun e10 =>
              bif decide (0 ≤ st8.2) && decide (st8.2 < (st8.1.length : Int)) then
                bif decide (0 ≤ (w64 (st8.2 + 1))) && decide ((w64 (st8.2 + 1)) < ((st8.1.set (Int.toNat st8.2) e9).length : Int)) then
                  some (.inl (((st8.1.set (Int.toNat st8.2) e9).set (Int.toNat (w64 (st8.2 + 1))) e10), (w64 (st8.2 + 1))))
                else
                  none
              else
                none
            else
              none
          else
            none
        else
          some (.inr st8.1) : Option (((List Int) × Int) ⊕ ((List Int))))) (o6.1, p_a)).bind fun o11 =>
    some o11
  else
    bif (decide ((w64 (p_b - p_m)) = 1)) then
      (loopE (fun (st13 : (List Int) × Int × Int) => (
          bif (decide (st13.2.1 < st13.2.2)) then
            bif decide (0 ≤ p_m) && decide (p_m < (st13.1.length : Int)) then
              (st13.1[(Int.toNat p_m)]?).bind fun e14 =>
              bif decide (0 ≤ (w64 (shiftI .shr .u64 (IntKind.u64.wrap (w64 (st13.2.1 + st13.2.2))) 1))) && decide ((w64 (shiftI .shr .u64 (IntKind.u64.wrap (w64 (st13.2.1 + st13.2.2))) 1)) < (st13.1.length : Int)) then
                (st13.1[(Int.toNat (w64 (shiftI .shr .u64 (IntKind.u64.wrap (w64 (st13.2.1 + st13.2.2))) 1)))]?).bind fun e15 =>
                (cm e14 e15).bind fun r16 =>
                bif (!(decide (r16 < 0))) then
                  some (.inl (st13.1, (w64 ((w64 (shiftI .shr .u64 (IntKind.u64.wrap (w64 (st13.2.1 + st13.2.2))) 1)) + 1)), st13.2.2))
                else
                  some (.inl (st13.1, st13.2.1, (w64 (shiftI .shr .u64 (IntKind.u64.wrap (w64 (st13.2.1 + st13.2.2))) 1))))
              else
                none
            else
              none
          else
            some (.inr (st13.1, st13.2.1)) : Option (((List Int) × Int × Int) ⊕ (((List Int) × Int))))) (p_data, p_a, p_m)).bind fun o17 =>
      (loopE (fun (st19 : (List Int) × Int) => (
          bif (decide (o17.2 < st19.2)) then
            bif decide (0 ≤ (w64 (st19.2 - 1))) && decide ((w64 (st19.2 - 1)) < (st19.1.length : Int)) then
              (st19.1[(Int.toNat (w64 (st19.2 - 1)))]?).bind fun e20 =>
              bif decide (0 ≤ st19.2) && decide (st19.2 < (st19.1.length : Int)) then
                (st19.1[(Int.toNat st19.2)]?).bind fun e21 =>
                bif decide (0 ≤ st19.2) && decide (st19.2 < (st19.1.length : Int)) then
                  bif decide (0 ≤ (w64 (st19.2 - 1))) && decide ((w64 (st19.2 - 1)) < ((st19.1.set (Int.toNat st19.2) e20).length : Int)) then
                    some (.inl (((st19.1.set (Int.toNat st19.2) e20).set (Int.toNat (w64 (st19.2 - 1))) e21), (w64 (st19.2 - 1))))
                  else
                    none
                else
                  none
              else
                none
            else
              none
          else
            some (.inr st19.1) : Option (((List Int) × Int) ⊕ ((List Int))))) (o17.1, p_m)).bind fun o22 =>
      some o22
    else
      (bif (decide ((w64 (shiftI .shr .u64 (IntKind.u64.wrap (w64 (p_a + p_b))) 1)) < p_m)) then
          some (p_data, (w64 ((w64 ((w64 (shiftI .shr .u64 (IntKind.u64.wrap (w64 (p_a + p_b))) 1)) + p_m)) - p_b)), (w64 (shiftI .shr .u64 (IntKind.u64.wrap (w64 (p_a + p_b))) 1)))
        else
          some (p_data, p_a, p_m)).bind fun j23 =>
      (loopE (fun (st25 : (List Int) × Int × Int) => (
          bif (decide (st25.2.1 < st25.2.2)) then
            bif decide (0 ≤ (w64 ((w64 ((w64 ((w64 (shiftI .shr .u64 (IntKind.u64.wrap (w64 (p_a + p_b))) 1)) + p_m)) - 1)) - (w64 (shiftI .shr .u64 (IntKind.u64.wrap (w64 (st25.2.1 + st25.2.2))) 1))))) && decide ((w64 ((w64 ((w64 ((w64 (shiftI .shr .u64 (IntKind.u64.wrap (w64 (p_a + p_b))) 1)) + p_m)) - 1)) - (w64 (shiftI .shr .u64 (IntKind.u64.wrap (w64 (st25.2.1 + st25.2.2))) 1)))) < (st25.1.length : Int)) then
              (st25.1[(Int.toNat (w64 ((w64 ((w64 ((w64 (shiftI .shr .u64 (IntKind.u64.wrap (w64 (p_a + p_b))) 1)) + p_m)) - 1)) - (w64 (shiftI .shr .u64 (IntKind.u64.wrap (w64 (st25.2.1 + st25.2.2))) 1)))))]?).bind fun e26 =>
              bif decide (0 ≤ (w64 (shiftI .shr .u64 (IntKind.u64.wrap (w64 (st25.2.1 + st25.2.2))) 1))) && decide ((w64 (shiftI .shr .u64 (IntKind.u64.wrap (w64 (st25.2.1 + st25.2.2))) 1)) < (st25.1.length : Int)) then
                (st25.1[(Int.toNat (w64 (shiftI .shr .u64 (IntKind.u64.wrap (w64 (st25.2.1 + st25.2.2))) 1)))]?).bind fun e27 =>
                (cm e26 e27).bind fun r28 =>
                bif (!(decide (r28 < 0))) then
                  some (.inl (st25.1, (w64 ((w64 (shiftI .shr .u64 (IntKind.u64.wrap (w64 (st25.2.1 + st25.2.2))) 1)) + 1)), st25.2.2))
                else
                  some (.inl (st25.1, st25.2.1, (w64 (shiftI .shr .u64 (IntKind.u64.wrap (w64 (st25.2.1 + st25.2.2))) 1))))
              else
                none
            else
              none
          else
            some (.inr (st25.1, st25.2.1)) : Option (((List Int) × Int × Int) ⊕ (((List Int) × Int))))) (j23.1, j23.2.1, j23.2.2)).bind fun o29 =>
      (bif (decide (o29.2 < p_m)) then
          some (decide (p_m < (w64 ((w64 ((w64 (shiftI .shr .u64 (IntKind.u64.wrap (w64 (p_a + p_b))) 1)) + p_m)) - o29.2))))
        else
          some false).bind fun c30 =>
      bif c30 then
        (g_rotate o29.1 o29.2 p_m (w64 ((w64 ((w64 (shiftI .shr .u64 (IntKind.u64.wrap (w64 (p_a + p_b))) 1)) + p_m)) - o29.2)) cm).bind fun r31 =>
        (bif (decide (p_a < o29.2)) then
            some (decide (o29.2 < (w64 (shiftI .shr .u64 (IntKind.u64.wrap (w64 (p_a + p_b))) 1))))
          else
            some false).bind fun c32 =>
        bif c32 then
          (again r31 p_a o29.2 (w64 (shiftI .shr .u64 (IntKind.u64.wrap (w64 (p_a + p_b))) 1)) cm).bind fun r33 =>
          (bif (decide ((w64 (shiftI .shr .u64 (IntKind.u64.wrap (w64 (p_a + p_b))) 1)) < (w64 ((w64 ((w64 (shiftI .shr .u64 (IntKind.u64.wrap (w64 (p_a + p_b))) 1)) + p_m)) - o29.2)))) then
              some (decide ((w64 ((w64 ((w64 (shiftI .shr .u64 (IntKind.u64.wrap (w64 (p_a + p_b))) 1)) + p_m)) - o29.2)) < p_b))
            else
              some false).bind fun c34 =>
          bif c34 then
            (again r33 (w64 (shiftI .shr .u64 (IntKind.u64.wrap (w64 (p_a + p_b))) 1)) (w64 ((w64 ((w64 (shiftI .shr .u64 (IntKind.u64.wrap (w64 (p_a + p_b))) 1)) + p_m)) - o29.2)) p_b cm).bind fun r35 =>
            some r35
          else
            some r33
        else
          (bif (decide ((w64 (shiftI .shr .u64 (IntKind.u64.wrap (w64 (p_a + p_b))) 1)) < (w64 ((w64 ((w64 (shiftI .shr .u64 (IntKind.u64.wrap (w64 (p_a + p_b))) 1)) + p_m)) - o29.2)))) then
              some (decide ((w64 ((w64 ((w64 (shiftI .shr .u64 (IntKind.u64.wrap (w64 (p_a + p_b))) 1)) + p_m)) - o29.2)) < p_b))
            else
              some false).bind fun c36 =>
          bif c36 then
            (again r31 (w64 (shiftI .shr .u64 (IntKind.u64.wrap (w64 (p_a + p_b))) 1)) (w64 ((w64 ((w64 (shiftI .shr .u64 (IntKind.u64.wrap (w64 (p_a + p_b))) 1)) + p_m)) - o29.2)) p_b cm).bind fun r37 =>
            some r37
          else
            some r31
      else
        (bif (decide (p_a < o29.2)) then
            some (decide (o29.2 < (w64 (shiftI .shr .u64 (IntKind.u64.wrap (w64 (p_a + p_b))) 1))))
          else
            some false).bind fun c38 =>
        bif c38 then
          (again o29.1 p_a o29.2 (w64 (shiftI .shr .u64 (IntKind.u64.wrap (w64 (p_a + p_b))) 1)) cm).bind fun r39 =>
          (bif (decide ((w64 (shiftI .shr .u64 (IntKind.u64.wrap (w64 (p_a + p_b))) 1)) < (w64 ((w64 ((w64 (shiftI .shr .u64 (IntKind.u64.wrap (w64 (p_a + p_b))) 1)) + p_m)) - o29.2)))) then
              some (decide ((w64 ((w64 ((w64 (shiftI .shr .u64 (IntKind.u64.wrap (w64 (p_a + p_b))) 1)) + p_m)) - o29.2)) < p_b))
            else
              some false).bind fun c40 =>
          bif c40 then
            (again r39 (w64 (shiftI .shr .u64 (IntKind.u64.wrap (w64 (p_a + p_b))) 1)) (w64 ((w64 ((w64 (shiftI .shr .u64 (IntKind.u64.wrap (w64 (p_a + p_b))) 1)) + p_m)) - o29.2)) p_b cm).bind fun r41 =>
            some r41
          else
            some r39
        else
          (bif (decide ((w64 (shiftI .shr .u64 (IntKind.u64.wrap (w64 (p_a + p_b))) 1)) < (w64 ((w64 ((w64 (shiftI .shr .u64 (IntKind.u64.wrap (w64 (p_a + p_b))) 1)) + p_m)) - o29.2)))) then
              some (decide ((w64 ((w64 ((w64 (shiftI .shr .u64 (IntKind.u64.wrap (w64 (p_a + p_b))) 1)) + p_m)) - o29.2)) < p_b))
            else
              some false).bind fun c42 =>
          bif c42 then
            (again o29.1 (w64 (shiftI .shr .u64 (IntKind.u64.wrap (w64 (p_a + p_b))) 1)) (w64 ((w64 ((w64 (shiftI .shr .u64 (IntKind.u64.wrap (w64 (p_a + p_b))) 1)) + p_m)) - o29.2)) p_b cm).bind fun r43 =>
            some r43
          else
            some o29.1
noncomputable def g_symMerge_it : Nat → (List Int) → Int → Int → Int → (Int → Int → Option Int) → Option ((List Int))
  | 0, _, _, _, _, _ => none
  | k + 1, p_data, p_a, p_m, p_b, cm => g_symMerge_step (g_symMerge_it k) p_data p_a p_m p_b cm
noncomputable def g_symMerge (p_data : List Int) (p_a : Int) (p_m : Int) (p_b : Int) (cm : Int → Int → Option Int) : Option ((List Int)) := limE fun k => g_symMerge_it k p_data p_a p_m p_b cm

noncomputable def g_stable (p_data : List Int) (p_n : Int) (cm : Int → Int → Option Int) : Option ((List Int)) :=
  (loopE (fun (st2 : (List Int) × Int × Int) => (
      bif (decide (st2.2.2 ≤ p_n)) then
        (g_insertionSort st2.1 st2.2.1 st2.2.2 cm).bind fun r3 =>
        some (.inl (r3, st2.2.2, (w64 (st2.2.2 + 20))))
      else
        some (.inr (st2.1, st2.2.1)) : Option (((List Int) × Int × Int) ⊕ (((List Int) × Int))))) (p_data, 0, 20)).bind fun o4 =>
  (g_insertionSort o4.1 o4.2 p_n cm).bind fun r5 =>
  (loopE (fun (st7 : (List Int) × Int) => (
      bif (decide (st7.2 < p_n)) then
        (loopE (fun (st9 : (List Int) × Int × Int) => (
            bif (decide (st9.2.2 ≤ p_n)) then
              (g_symMerge st9.1 st9.2.1 (w64 (st9.2.1 + st7.2)) st9.2.2 cm).bind fun r10 =>
              some (.inl (r10, st9.2.2, (w64 (st9.2.2 + (w64 (2 * st7.2))))))
            else
              some (.inr (st9.1, st9.2.1)) : Option (((List Int) × Int × Int) ⊕ (((List Int) × Int))))) (st7.1, 0, (w64 (2 * st7.2)))).bind fun o11 =>
        bif (decide ((w64 (o11.2 + st7.2)) < p_n)) then
          (g_symMerge o11.1 o11.2 (w64 (o11.2 + st7.2)) p_n cm).bind fun r12 =>
          some (.inl (r12, (w64 (st7.2 * 2))))
        else
          some (.inl (o11.1, (w64 (st7.2 * 2))))
      else
        some (.inr st7.1) : Option (((List Int) × Int) ⊕ ((List Int))))) (r5, 20)).bind fun o13 =>
  some o13

noncomputable def g_SortStable (p_x : List Int) (cm : Int → Int → Option Int) : Option ((List Int)) :=
  (g_stable p_x (p_x.length : Int) cm).bind fun r1 =>
  some r1

section
variable {cm : Int → Int → Option Int} {lt : Int → Int → Prop}

/-- how an earlier element stands to a later one -/
def Rq (cm : Int → Int → Option Int) (lt : Int → Int → Prop) (a x : Int) : Prop := (∃ c, cm x a = some c ∧ (c < 0 ↔ lt x a)) ∧ (¬ lt x a → lt a x)
structure Ordr (lt : Int → Int → Prop) : Prop where
  trans : ∀ {x y z}, lt x y → lt y z → lt x z
  irr : ∀ x, ¬ lt x x

theorem cmp_of {a x : Int} (h : Rq cm lt a x) : ∃ c, cm x a = some c ∧ ((decide (c < 0) = true ∧ lt x a) ∨ (decide (c < 0) = false ∧ lt a x)) := by
  obtain ⟨⟨c, h1, h2⟩, h3⟩ := h
  refine ⟨c, h1, ?_⟩
  by_cases hc : c < 0
  · exact .inl ⟨decide_eq_true hc, h2.1 hc⟩
  · exact .inr ⟨decide_eq_false hc, h3 fun h => hc (h2.2 h)⟩

theorem get_at {A B : List Int} {x i : Int} (h : i = (A.length : Int)) : (A ++ x :: B)[Int.toNat i]? = some x := by
  subst h
  rw [Int.toNat_natCast, List.getElem?_append_right (Nat.le_refl _)]
  simp
theorem set_at {A B : List Int} {x y i : Int} (h : i = (A.length : Int)) : (A ++ x :: B).set (Int.toNat i) y = A ++ y :: B := by
  subst h
  rw [Int.toNat_natCast, List.set_append_right _ _ (Nat.le_refl _)]
  simp
theorem in_rng {i n : Int} (h : 0 ≤ i) (k : i < n) : (decide (0 ≤ i) && decide (i < n)) = true := by
  rw [decide_eq_true h, decide_eq_true k]; rfl

/-! a number moves left to its place -/

theorem ins_inner (O : Ordr lt) (P T : List Int) (x : Int) : ∀ (n : Nat) (A : List Int), A.length = n → A.Pairwise lt → (∀ a ∈ A, Rq cm lt a x) → (P ++ A ++ x :: T).length ≤ 1000000 →
    ∃ A1 A2, A = A1 ++ A2 ∧ (∀ a ∈ A1, lt a x) ∧ (∀ a ∈ A2, lt x a) ∧ loopE (fun (st4 : (List Int) × Int) => (
            (bif (decide ((P.length : Int) < st4.2)) then
                bif decide (0 ≤ st4.2) && decide (st4.2 < (st4.1.length : Int)) then
                  (st4.1[(Int.toNat st4.2)]?).bind fun e5 =>
                  bif decide (0 ≤ (w64 (st4.2 - 1))) && decide ((w64 (st4.2 - 1)) < (st4.1.length : Int)) then
                    (st4.1[(Int.toNat (w64 (st4.2 - 1)))]?).bind fun e6 =>
                    (cm e5 e6).bind fun r7 =>
                    some (decide (r7 < 0))
                  else
                    none
                else
                  none
              else
                some false).bind fun c8 =>
            bif c8 then
              bif decide (0 ≤ (w64 (st4.2 - 1))) && decide ((w64 (st4.2 - 1)) < (st4.1.length : Int)) then
                (st4.1[(Int.toNat (w64 (st4.2 - 1)))]?).bind fun e9 =>
                bif decide (0 ≤ st4.2) && decide (st4.2 < (st4.1.length : Int)) then
                  (st4.1[(Int.toNat st4.2)]?).bind fun e10 =>
                  bif decide (0 ≤ st4.2) && decide (st4.2 < (st4.1.length : Int)) then
                    bif decide (0 ≤ (w64 (st4.2 - 1))) && decide ((w64 (st4.2 - 1)) < ((st4.1.set (Int.toNat st4.2) e9).length : Int)) then
                      some (.inl (((st4.1.set (Int.toNat st4.2) e9).set (Int.toNat (w64 (st4.2 - 1))) e10), (w64 (st4.2 - 1))))
                    else
                      none
                  else
                    none
                else
                  none
              else
                none
            else
              some (.inr st4.1) : Option (((List Int) × Int) ⊕ ((List Int))))) (P ++ A ++ x :: T, ((P.length + A.length : Nat) : Int)) = some (P ++ (A1 ++ x :: A2) ++ T)
  | 0, A, hn, _, _, _ => by
    obtain rfl := List.eq_nil_of_length_eq_zero hn
    refine ⟨[], [], rfl, (fun _ h => by cases h), (fun _ h => by cases h), loopE_done ?_⟩
    simp only [List.length_nil, Nat.add_zero]
    rw [decide_eq_false (Int.lt_irrefl _)]
    simp
  | n + 1, A, hn, hs, hr, hl => by
    rcases List.eq_nil_or_concat A with rfl | ⟨A', y, rfl⟩
    · cases hn
    rw [List.concat_eq_append] at *
    have hn' : A'.length = n := by simpa using hn
    rw [List.pairwise_append] at hs
    have hl' : P.length + (A'.length + 1 + (T.length + 1)) ≤ 1000000 := by simp only [List.length_append, List.length_cons, List.length_nil] at hl; omega
    obtain ⟨c, hc, hcase⟩ := cmp_of (hr y (by simp))
    have e1 : P ++ (A' ++ [y]) ++ x :: T = (P ++ A') ++ y :: x :: T := by simp
    have e1' : P ++ (A' ++ [y]) ++ x :: T = (P ++ A' ++ [y]) ++ x :: T := by simp
    have ej : ((P.length + (A' ++ [y]).length : Nat) : Int) = ((P ++ A' ++ [y]).length : Int) := by simp
    have ej1 : w64 (((P.length + (A' ++ [y]).length : Nat) : Int) - 1) = ((P ++ A').length : Int) := by
      rw [w64_of] <;> simp <;> omega
    have r1 : (decide (0 ≤ (((P.length + (A' ++ [y]).length : Nat)) : Int)) && decide ((((P.length + (A' ++ [y]).length : Nat)) : Int) < ((P ++ (A' ++ [y]) ++ x :: T).length : Int))) = true := in_rng (by omega) (by simp; omega)
    have r2 : (decide (0 ≤ ((P ++ A').length : Int)) && decide (((P ++ A').length : Int) < ((P ++ (A' ++ [y]) ++ x :: T).length : Int))) = true := in_rng (by omega) (by simp; omega)
    have g1 : (P ++ (A' ++ [y]) ++ x :: T)[Int.toNat ((P.length + (A' ++ [y]).length : Nat) : Int)]? = some x := by rw [e1']; exact get_at ej
    have g2 : (P ++ (A' ++ [y]) ++ x :: T)[Int.toNat ((P ++ A').length : Int)]? = some y := by rw [e1]; exact get_at rfl
    have hlt : decide ((P.length : Int) < ((P.length + (A' ++ [y]).length : Nat) : Int)) = true := decide_eq_true (by simp; omega)
    rcases hcase with ⟨hd, hxy⟩ | ⟨hd, hyx⟩
    · obtain ⟨A1, A2, e, h1, h2, h3⟩ := ins_inner O P (y :: T) x n A' hn' hs.1 (fun a ha => hr a (by simp [ha])) (by simp; omega)
      refine ⟨A1, A2 ++ [y], by rw [e]; simp, h1, fun a ha => ?_, ?_⟩
      · rcases List.mem_append.1 ha with ha | ha
        · exact h2 a ha
        · simp at ha; subst ha; exact hxy
      · rw [loopE_step (a' := (P ++ A' ++ x :: y :: T, ((P.length + A'.length : Nat) : Int)))]
        · rw [h3]; simp
        · simp only [hlt, cond_true, r1, g1, Option.bind_some, ej1, r2, g2, hc, hd, List.length_set]
          rw [e1', set_at ej, show (P ++ A' ++ [y]) ++ y :: T = (P ++ A') ++ y :: y :: T by simp, set_at rfl]
          simp
    · refine ⟨A' ++ [y], [], by simp, fun a ha => ?_, (fun _ h => by cases h), loopE_done ?_⟩
      · rcases List.mem_append.1 ha with ha | ha
        · exact O.trans (hs.2.2 a ha y (by simp)) hyx
        · simp at ha; subst ha; exact hyx
      · simp only [hlt, cond_true, r1, g1, Option.bind_some, ej1, r2, g2, hc, hd, cond_false]
        simp

theorem ins_outer (O : Ordr lt) (P S : List Int) (b : Int) {f : (List Int) × Int → Option (((List Int) × Int) ⊕ ((List Int)))}
    (hf : ∀ (st2 : (List Int) × Int), f st2 = bif (decide (st2.2 < b)) then
        (loopE (fun (st4 : (List Int) × Int) => (
            (bif (decide ((P.length : Int) < st4.2)) then
                bif decide (0 ≤ st4.2) && decide (st4.2 < (st4.1.length : Int)) then
                  (st4.1[(Int.toNat st4.2)]?).bind fun e5 =>
                  bif decide (0 ≤ (w64 (st4.2 - 1))) && decide ((w64 (st4.2 - 1)) < (st4.1.length : Int)) then
                    (st4.1[(Int.toNat (w64 (st4.2 - 1)))]?).bind fun e6 =>
                    (cm e5 e6).bind fun r7 =>
                    some (decide (r7 < 0))
                  else
                    none
                else
                  none
              else
                some false).bind fun c8 =>
            bif c8 then
              bif decide (0 ≤ (w64 (st4.2 - 1))) && decide ((w64 (st4.2 - 1)) < (st4.1.length : Int)) then
                (st4.1[(Int.toNat (w64 (st4.2 - 1)))]?).bind fun e9 =>
                bif decide (0 ≤ st4.2) && decide (st4.2 < (st4.1.length : Int)) then
                  (st4.1[(Int.toNat st4.2)]?).bind fun e10 =>
                  bif decide (0 ≤ st4.2) && decide (st4.2 < (st4.1.length : Int)) then
                    bif decide (0 ≤ (w64 (st4.2 - 1))) && decide ((w64 (st4.2 - 1)) < ((st4.1.set (Int.toNat st4.2) e9).length : Int)) then
                      some (.inl (((st4.1.set (Int.toNat st4.2) e9).set (Int.toNat (w64 (st4.2 - 1))) e10), (w64 (st4.2 - 1))))
                    else
                      none
                  else
                    none
                else
                  none
              else
                none
            else
              some (.inr st4.1) : Option (((List Int) × Int) ⊕ ((List Int))))) (st2.1, st2.2)).bind fun o11 =>
        some (.inl (o11, (w64 (st2.2 + 1))))
      else
        some (.inr st2.1)) : ∀ (D A : List Int), A.Pairwise lt → D.Pairwise (Rq cm lt) → (∀ a ∈ A, ∀ d ∈ D, Rq cm lt a d) → (P ++ A ++ D ++ S).length ≤ 1000000 → b = ((P.length + A.length + D.length : Nat) : Int) →
    ∃ C, C.Perm (A ++ D) ∧ C.Pairwise lt ∧ loopE f (P ++ A ++ D ++ S, ((P.length + A.length : Nat) : Int)) = some (P ++ C ++ S)
  | [], A, hA, _, _, hl, hb => ⟨A, by simp, hA, by
      refine (loopE_done (b := P ++ A ++ S) ?_).trans rfl
      rw [hf]
      simp only [hb, List.length_nil, Nat.add_zero]
      rw [decide_eq_false (Int.lt_irrefl _)]
      simp⟩
  | x :: D, A, hA, hD, hAD, hl, hb => by
    rw [List.pairwise_cons] at hD
    have hl' : P.length + A.length + (D.length + 1) + S.length ≤ 1000000 := by simp only [List.length_append, List.length_cons] at hl; omega
    obtain ⟨A1, A2, e, h1, h2, h3⟩ := ins_inner O P (D ++ S) x A.length A rfl hA (fun a ha => hAD a ha x (by simp)) (by simp; omega)
    have hs' : (A1 ++ x :: A2).Pairwise lt := by
      rw [e, List.pairwise_append] at hA
      rw [List.pairwise_append, List.pairwise_cons]
      refine ⟨hA.1, ⟨h2, hA.2.1⟩, fun a ha y hy => ?_⟩
      rcases List.mem_cons.1 hy with rfl | hy
      · exact h1 a ha
      · exact hA.2.2 a ha y hy
    have hlen : (A1 ++ x :: A2).length = A.length + 1 := by rw [e]; simp; omega
    obtain ⟨C, c1, c2, c3⟩ := ins_outer O P S b hf D (A1 ++ x :: A2) hs' hD.2 (fun a ha d hd => by
      rcases List.mem_append.1 ha with ha | ha
      · exact hAD a (by rw [e]; exact List.mem_append_left _ ha) d (by simp [hd])
      · rcases List.mem_cons.1 ha with rfl | ha
        · exact hD.1 d hd
        · exact hAD a (by rw [e]; exact List.mem_append_right _ ha) d (by simp [hd])) (by simp only [List.length_append] at hlen ⊢; omega) (by rw [hb, hlen, List.length_cons]; omega)
    refine ⟨C, c1.trans ?_, c2, ?_⟩
    · rw [e]
      simp only [List.append_assoc, List.cons_append]
      exact (List.Perm.refl A1).append ((List.perm_middle (a := x) (l₁ := A2) (l₂ := D)).symm)
    · rw [loopE_step (a' := (P ++ (A1 ++ x :: A2) ++ D ++ S, ((P.length + (A1 ++ x :: A2).length : Nat) : Int))), c3]
      rw [hf]
      simp only [hb, List.length_cons]
      rw [decide_eq_true (by omega)]
      simp only [cond_true]
      rw [show P ++ A ++ x :: D ++ S = P ++ A ++ x :: (D ++ S) by simp, h3]
      simp only [Option.bind_some, hlen]
      rw [w64_of (by omega) (by omega)]
      simp
      omega

/-- a stretch is sorted in its place -/
theorem ins_sort (O : Ordr lt) (P S D : List Int) (hD : D.Pairwise (Rq cm lt)) (hl : (P ++ D ++ S).length ≤ 1000000) :
    ∃ C, C.Perm D ∧ C.Pairwise lt ∧ g_insertionSort (P ++ D ++ S) P.length ((P.length + D.length : Nat) : Int) cm = some (P ++ C ++ S) := by
  have hl' : P.length + D.length + S.length ≤ 1000000 := by simp only [List.length_append] at hl; omega
  unfold g_insertionSort
  rw [w64_of (by omega) (by omega)]
  cases D with
  | nil =>
    refine ⟨[], .refl _, .nil, ?_⟩
    rw [loopE_done (b := P ++ [] ++ S)]
    · rfl
    · simp only [List.length_nil, Nat.add_zero]
      rw [decide_eq_false (by omega)]
      rfl
  | cons d D =>
    rw [List.pairwise_cons] at hD
    obtain ⟨C, c1, c2, c3⟩ := ins_outer (cm := cm) O P S ((P.length + (d :: D).length : Nat) : Int) (fun st2 => rfl) D [d] (List.pairwise_singleton _ _) hD.2 (fun a ha x hx => by simp at ha; subst ha; exact hD.1 x hx) (by simpa using hl) (by simp; omega)
    refine ⟨C, c1, c2, ?_⟩
    rw [show P ++ d :: D ++ S = P ++ [d] ++ D ++ S by simp]
    have e : ((P.length : Nat) : Int) + 1 = ((P.length + [d].length : Nat) : Int) := by simp
    rw [e]
    exact (congrArg (fun z => z.bind fun o12 => some o12) c3).trans rfl
end
end Go.Ab

/-!
  Sorting by a comparison: stretches change places, stretches are turned round.
-/
namespace Go.Ab
open Go

section
variable {cm : Int → Int → Option Int}

theorem swap_loop (S : List Int) (a b : Int) (n : Nat) (hnl : n ≤ 1000000) {f : (List Int) × Int → Option (((List Int) × Int) ⊕ ((List Int)))}
    (hf : ∀ (st2 : (List Int) × Int), f st2 = bif (decide (st2.2 < (n : Int))) then
        bif decide (0 ≤ (w64 (b + st2.2))) && decide ((w64 (b + st2.2)) < (st2.1.length : Int)) then
          (st2.1[(Int.toNat (w64 (b + st2.2)))]?).bind fun e3 =>
          bif decide (0 ≤ (w64 (a + st2.2))) && decide ((w64 (a + st2.2)) < (st2.1.length : Int)) then
            (st2.1[(Int.toNat (w64 (a + st2.2)))]?).bind fun e4 =>
            bif decide (0 ≤ (w64 (a + st2.2))) && decide ((w64 (a + st2.2)) < (st2.1.length : Int)) then
              bif decide (0 ≤ (w64 (b + st2.2))) && decide ((w64 (b + st2.2)) < ((st2.1.set (Int.toNat (w64 (a + st2.2))) e3).length : Int)) then
                some (.inl (((st2.1.set (Int.toNat (w64 (a + st2.2))) e3).set (Int.toNat (w64 (b + st2.2))) e4), (w64 (st2.2 + 1))))
              else
                none
            else
              none
          else
            none
        else
          none
      else
        some (.inr st2.1)) : ∀ (X Y A C : List Int) (i : Nat), X.length = Y.length → a + i = (A.length : Int) → b + i = ((A ++ X ++ C).length : Int) → n = i + X.length → (A ++ X ++ C ++ Y ++ S).length ≤ 1000000 →
    loopE f (A ++ X ++ C ++ Y ++ S, (i : Int)) = some (A ++ Y ++ C ++ X ++ S)
  | [], Y, A, C, i, hxy, _, _, hn, _ => by
    obtain rfl : Y = [] := List.eq_nil_of_length_eq_zero hxy.symm
    refine loopE_done ?_
    rw [hf]
    simp only
    rw [decide_eq_false (by simp at hn; omega)]
    rfl
  | x :: X, [], _, _, _, hxy, _, _, _, _ => by cases hxy
  | x :: X, y :: Y, A, C, i, hxy, ha, hb, hn, hl => by
    have hl' : A.length + (X.length + 1) + C.length + (Y.length + 1) + S.length ≤ 1000000 := by simp only [List.length_append, List.length_cons] at hl; omega
    have hb' : b + i = ((A.length + (X.length + 1) + C.length : Nat) : Int) := by rw [hb]; simp only [List.length_append, List.length_cons]
    have hn' : n = i + (X.length + 1) := hn
    have ih := swap_loop S a b n hnl hf X Y (A ++ [y]) (C ++ [x]) (i + 1) (by simpa using hxy) (by simp; omega) (by simp only [List.length_append, List.length_cons, List.length_nil]; omega) (by omega) (by simp only [List.length_append, List.length_cons, List.length_nil]; omega)
    rw [loopE_step (a' := (A ++ [y] ++ X ++ (C ++ [x]) ++ Y ++ S, ((i + 1 : Nat) : Int)))]
    · rw [ih]; simp
    · rw [hf]
      simp only
      rw [decide_eq_true (by omega)]
      have wa : w64 (a + (i : Int)) = (A.length : Int) := by rw [ha, w64_of (by omega) (by omega)]
      have wb : w64 (b + (i : Int)) = ((A ++ y :: X ++ C).length : Int) := by rw [hb', w64_of (by omega) (by omega)]; simp only [List.length_append, List.length_cons]
      have wb2 : w64 (b + (i : Int)) = ((A ++ x :: X ++ C).length : Int) := by rw [hb', w64_of (by omega) (by omega)]; simp only [List.length_append, List.length_cons]
      have g1 : (A ++ x :: X ++ C ++ y :: Y ++ S)[Int.toNat (w64 (b + (i : Int)))]? = some y := by
        rw [show A ++ x :: X ++ C ++ y :: Y ++ S = (A ++ x :: X ++ C) ++ y :: (Y ++ S) by simp]; exact get_at wb2
      have g2 : (A ++ x :: X ++ C ++ y :: Y ++ S)[Int.toNat (w64 (a + (i : Int)))]? = some x := by
        rw [show A ++ x :: X ++ C ++ y :: Y ++ S = A ++ x :: (X ++ C ++ y :: Y ++ S) by simp]; exact get_at wa
      have r1 : (decide (0 ≤ w64 (b + (i : Int))) && decide (w64 (b + (i : Int)) < ((A ++ x :: X ++ C ++ y :: Y ++ S).length : Int))) = true := in_rng (by rw [wb]; omega) (by rw [wb]; simp only [List.length_append, List.length_cons]; omega)
      have r2 : (decide (0 ≤ w64 (a + (i : Int))) && decide (w64 (a + (i : Int)) < ((A ++ x :: X ++ C ++ y :: Y ++ S).length : Int))) = true := in_rng (by rw [wa]; omega) (by rw [wa]; simp only [List.length_append, List.length_cons]; omega)
      simp only [cond_true, r1, g1, Option.bind_some, r2, g2, List.length_set]
      have e1 : (A ++ x :: X ++ C ++ y :: Y ++ S).set (Int.toNat (w64 (a + (i : Int)))) y = (A ++ y :: X ++ C) ++ y :: (Y ++ S) := by
        rw [show A ++ x :: X ++ C ++ y :: Y ++ S = A ++ x :: (X ++ C ++ y :: Y ++ S) by simp, set_at wa]; simp
      rw [e1, set_at wb, w64_of (by omega) (by omega)]
      simp

theorem swap_eq {P X C Y S : List Int} (hxy : X.length = Y.length) {a b n : Int} (ha : a = (P.length : Int)) (hb : b = ((P.length + X.length + C.length : Nat) : Int)) (hn : n = (X.length : Int)) (hl : (P ++ X ++ C ++ Y ++ S).length ≤ 1000000) :
    g_swapRange (P ++ X ++ C ++ Y ++ S) a b n cm = some (P ++ Y ++ C ++ X ++ S) := by
  subst hn
  unfold g_swapRange
  have := swap_loop S a b X.length (by simp only [List.length_append] at hl; omega) (fun st2 => rfl) X Y P C 0 hxy (by omega) (by rw [hb]; simp; omega) (by omega) hl
  rw [show ((0 : Nat) : Int) = 0 from rfl] at this
  rw [this]
  rfl

theorem rot_loop (S0 : List Int) (m : Int) {f : (List Int) × Int × Int → Option (((List Int) × Int × Int) ⊕ (((List Int) × Int)))}
    (hf : ∀ (st2 : (List Int) × Int × Int), f st2 = bif (!decide (st2.2.1 = st2.2.2)) then
        bif (decide (st2.2.2 < st2.2.1)) then
          (g_swapRange st2.1 (w64 (m - st2.2.1)) m st2.2.2 cm).bind fun r3 =>
          some (.inl (r3, (w64 (st2.2.1 - st2.2.2)), st2.2.2))
        else
          (g_swapRange st2.1 (w64 (m - st2.2.1)) (w64 ((w64 (m + st2.2.2)) - st2.2.1)) st2.2.1 cm).bind fun r4 =>
          some (.inl (r4, st2.2.1, (w64 (st2.2.2 - st2.2.1))))
      else
        some (.inr (st2.1, st2.2.1))) : ∀ (k : Nat) (P X Y S : List Int), X.length + Y.length ≤ k → X ≠ [] → Y ≠ [] → m = ((P.length + X.length : Nat) : Int) → (P ++ X ++ Y ++ S).length ≤ 1000000 →
    ∃ L i, loopE f (P ++ X ++ Y ++ S, (X.length : Int), (Y.length : Int)) = some (L, i) ∧ g_swapRange L (w64 (m - i)) m i cm = some (P ++ Y ++ X ++ S)
  | 0, P, X, Y, S, hk, hx, _, _, _ => absurd (List.eq_nil_of_length_eq_zero (by omega)) hx
  | k + 1, P, X, Y, S, hk, hx, hy, hm, hl => by
    have hxp := List.length_pos_iff.2 hx
    have hyp := List.length_pos_iff.2 hy
    have hl' : P.length + X.length + Y.length + S.length ≤ 1000000 := by simp only [List.length_append] at hl; omega
    rcases Nat.lt_trichotomy X.length Y.length with h | h | h
    · -- the right stretch is longer
      obtain ⟨Y1, Y2, rfl, h2⟩ : ∃ Y1 Y2, Y = Y1 ++ Y2 ∧ Y2.length = X.length := ⟨Y.take (Y.length - X.length), Y.drop (Y.length - X.length), (List.take_append_drop _ _).symm, by simp; omega⟩
      simp only [List.length_append] at h hk hl' hyp
      have hsw : g_swapRange (P ++ X ++ (Y1 ++ Y2) ++ S) (w64 (m - (X.length : Int))) (w64 ((w64 (m + ((Y1 ++ Y2).length : Int))) - (X.length : Int))) (X.length : Int) cm = some (P ++ Y2 ++ Y1 ++ (X ++ S)) := by
        rw [show P ++ X ++ (Y1 ++ Y2) ++ S = P ++ X ++ Y1 ++ Y2 ++ S by simp, swap_eq h2.symm (by rw [hm, w64_of] <;> omega) (by rw [hm, w64_of (x := ((P.length + X.length : Nat) : Int) + ((Y1 ++ Y2).length : Int)) (by omega) (by simp; omega), w64_of] <;> simp <;> omega) rfl (by simp only [List.length_append]; omega)]
        simp
      obtain ⟨L, i, e1, e2⟩ := rot_loop S0 m hf k P Y2 Y1 (X ++ S) (by omega) (List.length_pos_iff.1 (by omega)) (List.length_pos_iff.1 (by omega)) (by rw [h2]; exact hm) (by simp only [List.length_append]; omega)
      refine ⟨L, i, ?_, by rw [e2]; simp⟩
      rw [loopE_step (a' := (P ++ Y2 ++ Y1 ++ (X ++ S), (Y2.length : Int), (Y1.length : Int))), e1]
      rw [hf]
      simp only
      rw [decide_eq_false (by simp; omega), decide_eq_false (by simp; omega), hsw]
      simp only [Bool.not_false, cond_true, cond_false, Option.bind_some]
      rw [w64_of (by simp; omega) (by simp; omega), h2]
      simp
      omega
    · refine ⟨_, _, loopE_done (b := (P ++ X ++ Y ++ S, (X.length : Int))) ?_, ?_⟩
      · rw [hf]
        simp only
        rw [decide_eq_true (by omega)]
        rfl
      · have := swap_eq (cm := cm) (P := P) (X := X) (C := []) (Y := Y) (S := S) h (a := w64 (m - (X.length : Int))) (b := m) (n := (X.length : Int)) (by rw [hm, w64_of] <;> omega) (by rw [hm]; simp) rfl (by simpa using hl)
        simpa using this
    · obtain ⟨X1, X2, rfl, h2⟩ : ∃ X1 X2, X = X1 ++ X2 ∧ X1.length = Y.length := ⟨X.take Y.length, X.drop Y.length, (List.take_append_drop _ _).symm, by simp; omega⟩
      simp only [List.length_append] at h hk hl' hxp
      have hm' : m = ((P.length + X1.length + X2.length : Nat) : Int) := by rw [hm]; simp; omega
      have hsw : g_swapRange (P ++ (X1 ++ X2) ++ Y ++ S) (w64 (m - ((X1 ++ X2).length : Int))) m (Y.length : Int) cm = some ((P ++ Y) ++ X2 ++ X1 ++ S) := by
        rw [show P ++ (X1 ++ X2) ++ Y ++ S = P ++ X1 ++ X2 ++ Y ++ S by simp, swap_eq h2 (by rw [hm', w64_of] <;> simp <;> omega) hm' (by omega) (by simp only [List.length_append]; omega)]
      obtain ⟨L, i, e1, e2⟩ := rot_loop S0 m hf k (P ++ Y) X2 X1 S (by omega) (List.length_pos_iff.1 (by omega)) (List.length_pos_iff.1 (by omega)) (by rw [hm', List.length_append]; omega) (by simp only [List.length_append]; omega)
      refine ⟨L, i, ?_, by rw [e2]; simp⟩
      rw [loopE_step (a' := (P ++ Y ++ X2 ++ X1 ++ S, (X2.length : Int), (X1.length : Int))), e1]
      rw [hf]
      simp only
      rw [decide_eq_false (by simp; omega), decide_eq_true (by simp; omega), hsw]
      simp only [Bool.not_false, cond_true, Option.bind_some]
      rw [w64_of (by simp; omega) (by simp; omega), h2]
      simp
      omega

/-- two stretches change places -/
theorem rot_eq {P X Y S : List Int} (hx : X ≠ []) (hy : Y ≠ []) {a m b : Int} (ha : a = (P.length : Int)) (hm : m = ((P.length + X.length : Nat) : Int)) (hb : b = ((P.length + X.length + Y.length : Nat) : Int)) (hl : (P ++ X ++ Y ++ S).length ≤ 1000000) :
    g_rotate (P ++ X ++ Y ++ S) a m b cm = some (P ++ Y ++ X ++ S) := by
  have hl' : P.length + X.length + Y.length + S.length ≤ 1000000 := by simp only [List.length_append] at hl; omega
  unfold g_rotate
  have wx : w64 (m - a) = (X.length : Int) := by rw [ha, hm, w64_of] <;> omega
  have wy : w64 (b - m) = (Y.length : Int) := by rw [hb, hm, w64_of] <;> omega
  rw [wx, wy]
  obtain ⟨L, i, e1, e2⟩ := rot_loop (cm := cm) [] m (fun st2 => rfl) (X.length + Y.length) P X Y S (Nat.le_refl _) hx hy hm hl
  rw [e1]
  simp only [Option.bind_some, e2]
end
end Go.Ab

/-!
  Sorting by a comparison: two sorted stretches are merged, equals kept in order.
-/
namespace Go.Ab
open Go

theorem half_eq {x y : Nat} (h : x + y ≤ 10000000) : w64 (shiftI .shr .u64 (IntKind.u64.wrap (w64 ((x : Int) + (y : Int)))) 1) = (((x + y) / 2 : Nat) : Int) := by
  rw [w64_of (x := (x : Int) + (y : Int)) (by omega) (by omega)]
  have e : IntKind.u64.wrap ((x : Int) + (y : Int)) = ((x + y : Nat) : Int) := by
    unfold IntKind.wrap
    simp only [IntKind.signed, IntKind.bits]
    simp
    omega
  rw [e]
  have e2 : shiftI .shr .u64 ((x + y : Nat) : Int) 1 = (((x + y) / 2 : Nat) : Int) := by
    unfold shiftI
    simp only [IntKind.bits]
    rw [show (min (Int.toNat 1) 64) = 1 from rfl]
    rw [Int.fdiv_eq_ediv_of_nonneg _ (by decide)]
    omega
  rw [e2, w64_of (by omega) (by omega)]

section
variable {cm : Int → Int → Option Int} {lt : Int → Int → Prop}

theorem bs_loop {D : List Int} {f : List Int × Int × Int → Option ((List Int × Int × Int) ⊕ (List Int × Int))} (T : Nat → Bool) (lo hi : Nat)
    (hf : ∀ i j : Nat, lo ≤ i → i < j → j ≤ hi → f (D, (i : Int), (j : Int)) = some (.inl (bif T ((i + j) / 2) then (D, (((i + j) / 2 + 1 : Nat) : Int), (j : Int)) else (D, (i : Int), (((i + j) / 2 : Nat) : Int)))))
    (hend : ∀ i : Nat, f (D, (i : Int), (i : Int)) = some (.inr (D, (i : Int)))) : ∀ (k i j : Nat), j - i ≤ k → lo ≤ i → i ≤ j → j ≤ hi → (i = lo ∨ T (i - 1) = true) → (j = hi ∨ T j = false) →
    ∃ r : Nat, loopE f (D, (i : Int), (j : Int)) = some (D, (r : Int)) ∧ lo ≤ r ∧ r ≤ hi ∧ (r = lo ∨ T (r - 1) = true) ∧ (r = hi ∨ T r = false)
  | 0, i, j, hk, h1, h2, h3, h4, h5 => by
    obtain rfl : i = j := by omega
    exact ⟨i, loopE_done (hend i), h1, h3, h4, h5⟩
  | k + 1, i, j, hk, h1, h2, h3, h4, h5 => by
    by_cases hij : i = j
    · subst hij; exact ⟨i, loopE_done (hend i), h1, h3, h4, h5⟩
    · have hs := hf i j h1 (by omega) h3
      cases hT : T ((i + j) / 2) with
      | true =>
        rw [hT] at hs
        rw [loopE_step hs]
        exact bs_loop T lo hi hf hend k _ _ (by omega) (by omega) (by omega) h3 (.inr (by rw [Nat.add_sub_cancel]; exact hT)) h5
      | false =>
        rw [hT] at hs
        rw [loopE_step hs]
        exact bs_loop T lo hi hf hend k _ _ (by omega) h1 (by omega) (by omega) h4 (.inr hT)

theorem split_at (O : Ordr lt) {B : List Int} (hs : B.Pairwise lt) {x : Int} {q : Nat} (h1 : q = 0 ∨ ∃ y, B[q - 1]? = some y ∧ lt y x) (h2 : q = B.length ∨ ∃ y, B[q]? = some y ∧ lt x y) :
    (∀ z ∈ B.take q, lt z x) ∧ (∀ z ∈ B.drop q, lt x z) := by
  rw [List.pairwise_iff_getElem] at hs
  constructor
  · intro z hz
    obtain ⟨i, hi, rfl⟩ := List.getElem_of_mem hz
    rw [List.length_take] at hi
    rw [List.getElem_take]
    rcases h1 with rfl | ⟨y, hy, hl⟩
    · omega
    · obtain ⟨hq, rfl⟩ := List.getElem?_eq_some_iff.1 hy
      by_cases he : i = q - 1
      · subst he; exact hl
      · exact O.trans (hs i (q - 1) (by omega) hq (by omega)) hl
  · intro z hz
    obtain ⟨i, hi, rfl⟩ := List.getElem_of_mem hz
    rw [List.length_drop] at hi
    rw [List.getElem_drop]
    rcases h2 with rfl | ⟨y, hy, hl⟩
    · omega
    · obtain ⟨hq, rfl⟩ := List.getElem?_eq_some_iff.1 hy
      by_cases he : i = 0
      · subst he; exact hl
      · exact O.trans hl (hs q (q + i) hq (by omega) (by omega))

theorem shiftR_loop (S : List Int) (x : Int) (n : Int) {f : (List Int) × Int → Option (((List Int) × Int) ⊕ ((List Int)))}
    (hf : ∀ (st8 : (List Int) × Int), f st8 = bif (decide (st8.2 < n)) then
          bif decide (0 ≤ (w64 (st8.2 + 1))) && decide ((w64 (st8.2 + 1)) < (st8.1.length : Int)) then
            (st8.1[(Int.toNat (w64 (st8.2 + 1)))]?).bind fun e9 =>
            bif decide (0 ≤ st8.2) && decide (st8.2 < (st8.1.length : Int)) then
              (st8.1[(Int.toNat st8.2)]?).bind fun e10 =>
              bif decide (0 ≤ st8.2) && decide (st8.2 < (st8.1.length : Int)) then
                bif decide (0 ≤ (w64 (st8.2 + 1))) && decide ((w64 (st8.2 + 1)) < ((st8.1.set (Int.toNat st8.2) e9).length : Int)) then
                  some (.inl (((st8.1.set (Int.toNat st8.2) e9).set (Int.toNat (w64 (st8.2 + 1))) e10), (w64 (st8.2 + 1))))
                else
                  none
              else
                none
            else
              none
          else
            none
        else
          some (.inr st8.1)) : ∀ (B P : List Int), n = ((P.length + B.length : Nat) : Int) → (P ++ x :: B ++ S).length ≤ 1000000 → loopE f (P ++ x :: B ++ S, (P.length : Int)) = some (P ++ B ++ x :: S)
  | [], P, hn, _ => by
    rw [loopE_done (b := P ++ [x] ++ S)]
    · simp
    · rw [hf]
      simp only
      rw [decide_eq_false (by simp at hn; omega)]
      rfl
  | y :: B, P, hn, hl => by
    have hl' : P.length + (B.length + 1 + 1) + S.length ≤ 1000000 := by simp only [List.length_append, List.length_cons] at hl; omega
    have hn' : n = ((P.length + (B.length + 1) : Nat) : Int) := hn
    have ih := shiftR_loop S x n hf B (P ++ [y]) (by rw [hn']; simp; omega) (by simp only [List.length_append, List.length_cons, List.length_nil]; omega)
    have w1 : w64 ((P.length : Int) + 1) = ((P ++ [y]).length : Int) := by rw [w64_of (by omega) (by omega)]; simp
    have w2 : w64 ((P.length : Int) + 1) = ((P ++ [x]).length : Int) := by rw [w64_of (by omega) (by omega)]; simp
    rw [loopE_step (a' := (P ++ [y] ++ x :: B ++ S, ((P ++ [y]).length : Int)))]
    · rw [ih]; simp
    · rw [hf]
      simp only
      rw [decide_eq_true (by omega)]
      have r1 : (decide (0 ≤ w64 ((P.length : Int) + 1)) && decide (w64 ((P.length : Int) + 1) < ((P ++ x :: y :: B ++ S).length : Int))) = true := in_rng (by rw [w1]; omega) (by rw [w1]; simp only [List.length_append, List.length_cons, List.length_nil]; omega)
      have r2 : (decide (0 ≤ (P.length : Int)) && decide ((P.length : Int) < ((P ++ x :: y :: B ++ S).length : Int))) = true := in_rng (by omega) (by simp only [List.length_append, List.length_cons]; omega)
      have g1 : (P ++ x :: y :: B ++ S)[Int.toNat (w64 ((P.length : Int) + 1))]? = some y := by rw [show P ++ x :: y :: B ++ S = (P ++ [x]) ++ y :: (B ++ S) by simp]; exact get_at w2
      have g2 : (P ++ x :: y :: B ++ S)[Int.toNat (P.length : Int)]? = some x := by rw [show P ++ x :: y :: B ++ S = P ++ x :: (y :: B ++ S) by simp]; exact get_at rfl
      simp only [cond_true, r1, g1, Option.bind_some, r2, g2, List.length_set]
      rw [show P ++ x :: y :: B ++ S = P ++ x :: (y :: B ++ S) by simp, set_at rfl, show P ++ y :: (y :: B ++ S) = (P ++ [y]) ++ y :: (B ++ S) by simp, set_at w1, w1]
      simp

theorem shiftL_loop (P : List Int) (y : Int) {f : (List Int) × Int → Option (((List Int) × Int) ⊕ ((List Int)))}
    (hf : ∀ (st19 : (List Int) × Int), f st19 = bif (decide ((P.length : Int) < st19.2)) then
            bif decide (0 ≤ (w64 (st19.2 - 1))) && decide ((w64 (st19.2 - 1)) < (st19.1.length : Int)) then
              (st19.1[(Int.toNat (w64 (st19.2 - 1)))]?).bind fun e20 =>
              bif decide (0 ≤ st19.2) && decide (st19.2 < (st19.1.length : Int)) then
                (st19.1[(Int.toNat st19.2)]?).bind fun e21 =>
                bif decide (0 ≤ st19.2) && decide (st19.2 < (st19.1.length : Int)) then
                  bif decide (0 ≤ (w64 (st19.2 - 1))) && decide ((w64 (st19.2 - 1)) < ((st19.1.set (Int.toNat st19.2) e20).length : Int)) then
                    some (.inl (((st19.1.set (Int.toNat st19.2) e20).set (Int.toNat (w64 (st19.2 - 1))) e21), (w64 (st19.2 - 1))))
                  else
                    none
                else
                  none
              else
                none
            else
              none
          else
            some (.inr st19.1)) : ∀ (n : Nat) (A S : List Int), A.length = n → (P ++ A ++ y :: S).length ≤ 1000000 → loopE f (P ++ A ++ y :: S, ((P.length + A.length : Nat) : Int)) = some (P ++ y :: A ++ S)
  | 0, A, S, hn, _ => by
    obtain rfl := List.eq_nil_of_length_eq_zero hn
    rw [loopE_done (b := P ++ [] ++ y :: S)]
    · simp
    · rw [hf]
      simp only
      rw [decide_eq_false (by simp)]
      rfl
  | n + 1, A, S, hn, hl => by
    rcases List.eq_nil_or_concat A with rfl | ⟨A', x, rfl⟩
    · cases hn
    rw [List.concat_eq_append] at *
    have hn' : A'.length = n := by simpa using hn
    have hl' : P.length + (A'.length + 1) + (S.length + 1) ≤ 1000000 := by simp only [List.length_append, List.length_cons, List.length_nil] at hl; omega
    have ih := shiftL_loop P y hf n A' (x :: S) hn' (by simp only [List.length_append, List.length_cons]; omega)
    have w0 : ((P.length + (A' ++ [x]).length : Nat) : Int) = ((P ++ A' ++ [x]).length : Int) := by simp
    have w1 : w64 (((P.length + (A' ++ [x]).length : Nat) : Int) - 1) = ((P ++ A').length : Int) := by rw [w64_of] <;> simp <;> omega
    rw [loopE_step (a' := (P ++ A' ++ y :: x :: S, ((P.length + A'.length : Nat) : Int)))]
    · rw [ih]; simp
    · rw [hf]
      simp only
      rw [decide_eq_true (by simp; omega)]
      have r1 : (decide (0 ≤ w64 (((P.length + (A' ++ [x]).length : Nat) : Int) - 1)) && decide (w64 (((P.length + (A' ++ [x]).length : Nat) : Int) - 1) < ((P ++ (A' ++ [x]) ++ y :: S).length : Int))) = true := in_rng (by rw [w1]; omega) (by rw [w1]; simp only [List.length_append, List.length_cons, List.length_nil]; omega)
      have r2 : (decide (0 ≤ ((P.length + (A' ++ [x]).length : Nat) : Int)) && decide (((P.length + (A' ++ [x]).length : Nat) : Int) < ((P ++ (A' ++ [x]) ++ y :: S).length : Int))) = true := in_rng (by omega) (by simp only [List.length_append, List.length_cons]; omega)
      have g1 : (P ++ (A' ++ [x]) ++ y :: S)[Int.toNat (w64 (((P.length + (A' ++ [x]).length : Nat) : Int) - 1))]? = some x := by rw [show P ++ (A' ++ [x]) ++ y :: S = (P ++ A') ++ x :: (y :: S) by simp]; exact get_at w1
      have g2 : (P ++ (A' ++ [x]) ++ y :: S)[Int.toNat ((P.length + (A' ++ [x]).length : Nat) : Int)]? = some y := by rw [show P ++ (A' ++ [x]) ++ y :: S = (P ++ A' ++ [x]) ++ y :: S by simp]; exact get_at w0
      simp only [cond_true, r1, g1, Option.bind_some, r2, g2, List.length_set]
      rw [show P ++ (A' ++ [x]) ++ y :: S = (P ++ A' ++ [x]) ++ y :: S by simp, set_at w0, show P ++ A' ++ [x] ++ x :: S = (P ++ A') ++ x :: (x :: S) by simp, set_at w1, w1]
      simp
      
end
end Go.Ab

/-!
  Sorting by a comparison: the merge.
-/
namespace Go.Ab
open Go

section
variable {cm : Int → Int → Option Int} {lt : Int → Int → Prop}

/-- both halves are merged -/
noncomputable def g_rest (again : (List Int) → Int → Int → Int → (Int → Int → Option Int) → Option ((List Int))) (cm : Int → Int → Option Int) (L : List Int) (a st mid en b : Int) : Option (List Int) :=
  (bif (decide (a < st)) then some (decide (st < mid)) else some false).bind fun c32 =>
  bif c32 then
    (again L a st mid cm).bind fun r33 =>
    (bif (decide (mid < en)) then some (decide (en < b)) else some false).bind fun c34 =>
    bif c34 then (again r33 mid en b cm).bind fun r35 => some r35 else some r33
  else
    (bif (decide (mid < en)) then some (decide (en < b)) else some false).bind fun c36 =>
    bif c36 then (again L mid en b cm).bind fun r37 => some r37 else some L

/-- what the merge has to do -/
def Merged (lt : Int → Int → Prop) (it : Option (List Int)) (k : Nat) (P A B S : List Int) : Prop :=
  (∃ C, it = some (P ++ C ++ S) ∧ C.Perm (A ++ B) ∧ C.Pairwise lt) ∨ (it = none ∧ k < A.length + B.length)

theorem and_dec (p q : Prop) [Decidable p] [Decidable q] : (bif decide p then some (decide q) else some false) = some (decide p && decide q) := by cases decide p <;> rfl

theorem rest_ok {again : (List Int) → Int → Int → Int → (Int → Int → Option Int) → Option ((List Int))} {k : Nat} {P A1 B1 A2 B2 S : List Int} (hpos : 0 < A1.length + B1.length) (hpos2 : 0 < A2.length + B2.length)
    (hA1 : A1.Pairwise lt) (hB1 : B1.Pairwise lt) (hA2 : A2.Pairwise lt) (hB2 : B2.Pairwise lt)
    (h1 : A1 ≠ [] → B1 ≠ [] → ∀ S', (P ++ A1 ++ B1 ++ S').length ≤ 1000000 → Merged lt (again (P ++ A1 ++ B1 ++ S') P.length ((P.length + A1.length : Nat) : Int) ((P.length + A1.length + B1.length : Nat) : Int) cm) k P A1 B1 S')
    (h2 : A2 ≠ [] → B2 ≠ [] → ∀ P' : List Int, P'.length = P.length + A1.length + B1.length → (P' ++ A2 ++ B2 ++ S).length ≤ 1000000 → Merged lt (again (P' ++ A2 ++ B2 ++ S) P'.length ((P'.length + A2.length : Nat) : Int) ((P'.length + A2.length + B2.length : Nat) : Int) cm) k P' A2 B2 S)
    (hlt : ∀ x ∈ A1 ++ B1, ∀ y ∈ A2 ++ B2, lt x y) {a st mid en b : Int} (ha : a = (P.length : Int)) (hst : st = ((P.length + A1.length : Nat) : Int)) (hmid : mid = ((P.length + A1.length + B1.length : Nat) : Int))
    (hen : en = ((P.length + A1.length + B1.length + A2.length : Nat) : Int)) (hb : b = ((P.length + A1.length + B1.length + A2.length + B2.length : Nat) : Int)) (hl : (P ++ A1 ++ B1 ++ A2 ++ B2 ++ S).length ≤ 1000000) :
    (∃ C, g_rest again cm (P ++ A1 ++ B1 ++ A2 ++ B2 ++ S) a st mid en b = some (P ++ C ++ S) ∧ C.Perm (A1 ++ B1 ++ (A2 ++ B2)) ∧ C.Pairwise lt) ∨ (g_rest again cm (P ++ A1 ++ B1 ++ A2 ++ B2 ++ S) a st mid en b = none ∧ k + 1 < A1.length + B1.length + (A2.length + B2.length)) := by
  have hl' : P.length + A1.length + B1.length + A2.length + B2.length + S.length ≤ 1000000 := by simp only [List.length_append] at hl; omega
  -- the right half
  have right : ∀ C1 : List Int, C1.Perm (A1 ++ B1) → C1.Pairwise lt →
      (∃ C, ((bif (decide (mid < en)) then some (decide (en < b)) else some false).bind fun c34 => bif c34 then (again (P ++ C1 ++ A2 ++ B2 ++ S) mid en b cm).bind fun r35 => some r35 else some (P ++ C1 ++ A2 ++ B2 ++ S)) = some (P ++ C ++ S) ∧ C.Perm (A1 ++ B1 ++ (A2 ++ B2)) ∧ C.Pairwise lt) ∨
      (((bif (decide (mid < en)) then some (decide (en < b)) else some false).bind fun c34 => bif c34 then (again (P ++ C1 ++ A2 ++ B2 ++ S) mid en b cm).bind fun r35 => some r35 else some (P ++ C1 ++ A2 ++ B2 ++ S)) = none ∧ k + 1 < A1.length + B1.length + (A2.length + B2.length)) := by
    intro C1 p1 s1
    have hc1 : C1.length = A1.length + B1.length := by rw [p1.length_eq, List.length_append]
    have cross : ∀ {C2 : List Int}, C2.Perm (A2 ++ B2) → C2.Pairwise lt → (C1 ++ C2).Pairwise lt := fun {C2} p2 s2 => by
      rw [List.pairwise_append]
      exact ⟨s1, s2, fun x hx y hy => hlt x (p1.mem_iff.1 hx) y (p2.mem_iff.1 hy)⟩
    rw [and_dec]
    simp only [Option.bind_some]
    by_cases hne : A2 ≠ [] ∧ B2 ≠ []
    · have ha2 := List.length_pos_iff.2 hne.1
      have hb2 := List.length_pos_iff.2 hne.2
      rw [decide_eq_true (show mid < en by omega), decide_eq_true (show en < b by omega)]
      simp only [Bool.and_self, cond_true]
      have m := h2 hne.1 hne.2 (P ++ C1) (by simp; omega) (by simp only [List.length_append]; omega)
      rw [show ((P ++ C1).length : Int) = mid by rw [hmid, List.length_append, hc1]; omega, show (((P ++ C1).length + A2.length : Nat) : Int) = en by rw [hen, List.length_append, hc1]; omega,
        show (((P ++ C1).length + A2.length + B2.length : Nat) : Int) = b by rw [hb, List.length_append, hc1]; omega] at m
      rcases m with ⟨C2, e, p2, s2⟩ | ⟨e, hk⟩
      · exact .inl ⟨C1 ++ C2, by rw [e]; simp, p1.append p2, cross p2 s2⟩
      · exact .inr ⟨by rw [e]; rfl, by omega⟩
    · have he : A2 = [] ∨ B2 = [] := by
        by_cases h : A2 = []
        · exact .inl h
        · exact .inr (by by_cases h' : B2 = []; exact h'; exact absurd ⟨h, h'⟩ hne)
      have hd : (decide (mid < en) && decide (en < b)) = false := by
        rcases he with rfl | rfl
        · rw [decide_eq_false (show ¬ mid < en by simp at hen; omega)]; rfl
        · rw [decide_eq_false (show ¬ en < b by simp at hb; omega)]; simp
      rw [hd]
      simp only [cond_false]
      refine .inl ⟨C1 ++ (A2 ++ B2), by simp, p1.append (.refl _), cross (.refl _) ?_⟩
      rcases he with rfl | rfl
      · simpa using hB2
      · simpa using hA2
  unfold g_rest
  rw [and_dec]
  simp only [Option.bind_some]
  by_cases hne : A1 ≠ [] ∧ B1 ≠ []
  · have ha1 := List.length_pos_iff.2 hne.1
    have hb1 := List.length_pos_iff.2 hne.2
    rw [decide_eq_true (show a < st by omega), decide_eq_true (show st < mid by omega)]
    simp only [Bool.and_self, cond_true]
    have m := h1 hne.1 hne.2 (A2 ++ B2 ++ S) (by simp only [List.length_append]; omega)
    rw [← ha, ← hst, ← hmid, show P ++ A1 ++ B1 ++ (A2 ++ B2 ++ S) = P ++ A1 ++ B1 ++ A2 ++ B2 ++ S by simp] at m
    rcases m with ⟨C1, e, p1, s1⟩ | ⟨e, hk⟩
    · rw [e]
      simp only [Option.bind_some]
      rw [show P ++ C1 ++ (A2 ++ B2 ++ S) = P ++ C1 ++ A2 ++ B2 ++ S by simp]
      exact right C1 p1 s1
    · exact .inr ⟨by rw [e]; rfl, by omega⟩
  · have he : A1 = [] ∨ B1 = [] := by
      by_cases h : A1 = []
      · exact .inl h
      · exact .inr (by by_cases h' : B1 = []; exact h'; exact absurd ⟨h, h'⟩ hne)
    have hd : (decide (a < st) && decide (st < mid)) = false := by
      rcases he with rfl | rfl
      · rw [decide_eq_false (show ¬ a < st by simp at hst; omega)]; rfl
      · rw [decide_eq_false (show ¬ st < mid by simp at hmid; omega)]; simp
    rw [hd]
    simp only [cond_false]
    have s1 : (A1 ++ B1).Pairwise lt := by
      rcases he with rfl | rfl
      · simpa using hB1
      · simpa using hA1
    have := right (A1 ++ B1) (.refl _) s1
    rw [show P ++ (A1 ++ B1) ++ A2 ++ B2 ++ S = P ++ A1 ++ B1 ++ A2 ++ B2 ++ S by simp] at this
    exact this
end
end Go.Ab

/-!
  Sorting by a comparison: the merge of two stretches, whole.
-/
namespace Go.Ab
open Go

section
variable {cm : Int → Int → Option Int} {lt : Int → Int → Prop}

theorem get_A {P A R : List Int} {t : Nat} (h : t < A.length) : (P ++ A ++ R)[P.length + t]? = A[t]? := by
  rw [List.append_assoc, List.getElem?_append_right (by omega), Nat.add_sub_cancel_left, List.getElem?_append_left h]
theorem get_B {P A B S : List Int} {t : Nat} (h : t < B.length) : (P ++ A ++ B ++ S)[P.length + A.length + t]? = B[t]? := by
  have := get_A (P := P ++ A) (A := B) (R := S) h
  rw [List.length_append] at this
  exact this

def negC (o : Option Int) : Bool := match o with
  | some c => decide (c < 0)
  | none => false

theorem sym_left (O : Ordr lt) (again : (List Int) → Int → Int → Int → (Int → Int → Option Int) → Option ((List Int))) (P S B : List Int) (x : Int) (hB : B.Pairwise lt) (hR : ∀ b ∈ B, Rq cm lt x b) (hne : B ≠ []) (hl : (P ++ [x] ++ B ++ S).length ≤ 1000000) :
    ∃ C, g_symMerge_step again (P ++ [x] ++ B ++ S) P.length ((P.length + 1 : Nat) : Int) ((P.length + 1 + B.length : Nat) : Int) cm = some (P ++ C ++ S) ∧ C.Perm ([x] ++ B) ∧ C.Pairwise lt := by
  have hl' : P.length + 1 + B.length + S.length ≤ 1000000 := by simp only [List.length_append, List.length_cons, List.length_nil] at hl; omega
  unfold g_symMerge_step
  rw [w64_of (x := ((P.length + 1 : Nat) : Int) - (P.length : Int)) (by omega) (by omega), decide_eq_true (show ((P.length + 1 : Nat) : Int) - (P.length : Int) = 1 by omega)]
  simp only [cond_true]
  let D := P ++ [x] ++ B ++ S
  have gx : (P ++ [x] ++ B ++ S)[Int.toNat (P.length : Int)]? = some x := by rw [show P ++ [x] ++ B ++ S = P ++ x :: (B ++ S) by simp]; exact get_at rfl
  have gb : ∀ h, P.length + 1 ≤ h → h < P.length + 1 + B.length → (P ++ [x] ++ B ++ S)[h]? = B[h - (P.length + 1)]? := fun h h1 h2 => by
    have := get_B (P := P) (A := [x]) (B := B) (S := S) (t := h - (P.length + 1)) (by omega)
    simp only [List.length_cons, List.length_nil, Nat.zero_add] at this
    rw [show P.length + 1 + (h - (P.length + 1)) = h by omega] at this
    exact this
  let T : Nat → Bool := fun h => match (P ++ [x] ++ B ++ S)[h]? with
    | some e => negC (cm e x)
    | none => false
  refine Exists.elim (bs_loop (D := P ++ [x] ++ B ++ S) (f := fun (st2 : (List Int) × Int × Int) => (
        bif (decide (st2.2.1 < st2.2.2)) then
          bif decide (0 ≤ (w64 (shiftI .shr .u64 (IntKind.u64.wrap (w64 (st2.2.1 + st2.2.2))) 1))) && decide ((w64 (shiftI .shr .u64 (IntKind.u64.wrap (w64 (st2.2.1 + st2.2.2))) 1)) < (st2.1.length : Int)) then
            (st2.1[(Int.toNat (w64 (shiftI .shr .u64 (IntKind.u64.wrap (w64 (st2.2.1 + st2.2.2))) 1)))]?).bind fun e3 =>
            bif decide (0 ≤ (P.length : Int)) && decide ((P.length : Int) < (st2.1.length : Int)) then
              (st2.1[(Int.toNat (P.length : Int))]?).bind fun e4 =>
              (cm e3 e4).bind fun r5 =>
              bif (decide (r5 < 0)) then
                some (.inl (st2.1, (w64 ((w64 (shiftI .shr .u64 (IntKind.u64.wrap (w64 (st2.2.1 + st2.2.2))) 1)) + 1)), st2.2.2))
              else
                some (.inl (st2.1, st2.2.1, (w64 (shiftI .shr .u64 (IntKind.u64.wrap (w64 (st2.2.1 + st2.2.2))) 1))))
            else
              none
          else
            none
        else
          some (.inr (st2.1, st2.2.1)) : Option (((List Int) × Int × Int) ⊕ (((List Int) × Int))))) T (P.length + 1) (P.length + 1 + B.length) ?_ ?_ (B.length) (P.length + 1) (P.length + 1 + B.length) (by omega) (Nat.le_refl _) (by omega) (Nat.le_refl _) (.inl rfl) (.inl rfl)) ?_
  · intro i j h1 h2 h3
    have hh : w64 (shiftI .shr .u64 (IntKind.u64.wrap (w64 ((i : Int) + (j : Int)))) 1) = (((i + j) / 2 : Nat) : Int) := half_eq (by omega)
    generalize hq : (i + j) / 2 = h at *
    have hb := gb h (by omega) (by omega)
    have hlt : h - (P.length + 1) < B.length := by omega
    have hbv : B[h - (P.length + 1)]? = some (B[h - (P.length + 1)]'hlt) := by simp [hlt]
    obtain ⟨c, hc, _⟩ := cmp_of (hR _ (List.getElem_mem hlt))
    have hT : T h = decide (c < 0) := by simp only [T, hb, hbv, hc, negC]
    simp only [hh, decide_eq_true (show (i : Int) < (j : Int) by omega), cond_true, Int.toNat_natCast, hb, hbv, Option.bind_some, hc, hT]
    rw [in_rng (by omega) (by simp only [List.length_append, List.length_cons, List.length_nil]; omega), in_rng (by omega) (by simp only [List.length_append, List.length_cons, List.length_nil]; omega), show (P ++ [x] ++ B ++ S)[P.length]? = some x by simp]
    simp only [cond_true, Option.bind_some, hc]
    rw [w64_of (x := (h : Int) + 1) (by omega) (by omega)]
    cases decide (c < 0) <;> rfl
  · intro i
    simp only [decide_eq_false (Int.lt_irrefl (i : Int)), cond_false]
  · intro r hr
    obtain ⟨hr, h1, h2, h3, h4⟩ := hr
    rw [hr]
    simp only [Option.bind_some]
    have h3' : r = P.length + 1 ∨ (P.length + 1 < r ∧ T (r - 1) = true) := by
      by_cases e : r = P.length + 1
      · exact .inl e
      · exact .inr ⟨by omega, h3.resolve_left e⟩
    have h4' : r = P.length + 1 + B.length ∨ (r < P.length + 1 + B.length ∧ T r = false) := by
      by_cases e : r = P.length + 1 + B.length
      · exact .inl e
      · exact .inr ⟨by omega, h4.resolve_left e⟩
    have sp := split_at O hB (x := x) (q := r - (P.length + 1)) (h3'.imp (fun e => by omega) fun ⟨hlo, hT⟩ => by
        have hb := gb (r - 1) (by omega) (by omega)
        have hlt : r - 1 - (P.length + 1) < B.length := by omega
        have hbv : B[r - 1 - (P.length + 1)]? = some (B[r - 1 - (P.length + 1)]'hlt) := by simp [hlt]
        refine ⟨_, by rw [show r - (P.length + 1) - 1 = r - 1 - (P.length + 1) by omega]; exact hbv, ?_⟩
        obtain ⟨c, hc, hcase⟩ := cmp_of (hR _ (List.getElem_mem hlt))
        simp only [T, hb, hbv, hc, negC] at hT
        rcases hcase with ⟨_, h⟩ | ⟨h, _⟩
        · exact h
        · rw [h] at hT; cases hT) (h4'.imp (fun e => by omega) fun ⟨hbnd, hT⟩ => by
        have hb := gb r (by omega) hbnd
        have hlt : r - (P.length + 1) < B.length := by omega
        have hbv : B[r - (P.length + 1)]? = some (B[r - (P.length + 1)]'hlt) := by simp [hlt]
        refine ⟨_, hbv, ?_⟩
        obtain ⟨c, hc, hcase⟩ := cmp_of (hR _ (List.getElem_mem hlt))
        simp only [T, hb, hbv, hc, negC] at hT
        rcases hcase with ⟨h, _⟩ | ⟨_, h⟩
        · rw [h] at hT; cases hT
        · exact h)
    have hw : w64 ((r : Int) - 1) = ((P.length + (B.take (r - (P.length + 1))).length : Nat) : Int) := by
      rw [w64_of (by omega) (by omega), List.length_take]; omega
    have sh := shiftR_loop (B.drop (r - (P.length + 1)) ++ S) x (w64 ((r : Int) - 1)) (fun st8 => rfl) (B.take (r - (P.length + 1))) P hw (by simp only [List.length_append, List.length_cons, List.length_take, List.length_drop]; omega)
    have e0 : P ++ [x] ++ B ++ S = P ++ x :: B.take (r - (P.length + 1)) ++ (B.drop (r - (P.length + 1)) ++ S) := by
      simp only [List.append_assoc, List.cons_append, List.nil_append]
      rw [← List.append_assoc (B.take _), List.take_append_drop]
    refine ⟨B.take (r - (P.length + 1)) ++ x :: B.drop (r - (P.length + 1)), ?_, ?_, ?_⟩
    · rw [e0]
      refine (congrArg (fun z => z.bind fun o11 => some o11) sh).trans ?_
      simp
    · have := (List.perm_middle (a := x) (l₁ := B.take (r - (P.length + 1))) (l₂ := B.drop (r - (P.length + 1))))
      rw [List.take_append_drop] at this
      exact this
    · rw [← List.take_append_drop (r - (P.length + 1)) B, List.pairwise_append] at hB
      rw [List.pairwise_append, List.pairwise_cons]
      refine ⟨hB.1, ⟨sp.2, hB.2.1⟩, fun a ha y hy => ?_⟩
      rcases List.mem_cons.1 hy with rfl | hy
      · exact sp.1 a ha
      · exact hB.2.2 a ha y hy

theorem sym_right (O : Ordr lt) (again : (List Int) → Int → Int → Int → (Int → Int → Option Int) → Option ((List Int))) (P S A : List Int) (y : Int) (hA : A.Pairwise lt) (hR : ∀ a ∈ A, Rq cm lt a y) (hne : 2 ≤ A.length) (hl : (P ++ A ++ [y] ++ S).length ≤ 1000000) :
    ∃ C, g_symMerge_step again (P ++ A ++ [y] ++ S) P.length ((P.length + A.length : Nat) : Int) ((P.length + A.length + 1 : Nat) : Int) cm = some (P ++ C ++ S) ∧ C.Perm (A ++ [y]) ∧ C.Pairwise lt := by
  have hl' : P.length + A.length + 1 + S.length ≤ 1000000 := by simp only [List.length_append, List.length_cons, List.length_nil] at hl; omega
  unfold g_symMerge_step
  rw [w64_of (x := ((P.length + A.length : Nat) : Int) - (P.length : Int)) (by omega) (by omega), decide_eq_false (show ¬ ((P.length + A.length : Nat) : Int) - (P.length : Int) = 1 by omega),
    w64_of (x := ((P.length + A.length + 1 : Nat) : Int) - ((P.length + A.length : Nat) : Int)) (by omega) (by omega), decide_eq_true (show ((P.length + A.length + 1 : Nat) : Int) - ((P.length + A.length : Nat) : Int) = 1 by omega)]
  simp only [cond_true, cond_false]
  have gy : (P ++ A ++ [y] ++ S)[P.length + A.length]? = some y := by
    simp
  have ga : ∀ h, P.length ≤ h → h < P.length + A.length → (P ++ A ++ [y] ++ S)[h]? = A[h - P.length]? := fun h h1 h2 => by
    have := get_A (P := P) (A := A) (R := [y] ++ S) (t := h - P.length) (by omega)
    rw [show P.length + (h - P.length) = h by omega] at this
    rw [← this]; simp
  let T : Nat → Bool := fun h => match (P ++ A ++ [y] ++ S)[h]? with
    | some e => !(negC (cm y e))
    | none => false
  refine Exists.elim (bs_loop (D := P ++ A ++ [y] ++ S) (f := fun (st13 : (List Int) × Int × Int) => (
          bif (decide (st13.2.1 < st13.2.2)) then
            bif decide (0 ≤ ((P.length + A.length : Nat) : Int)) && decide (((P.length + A.length : Nat) : Int) < (st13.1.length : Int)) then
              (st13.1[(Int.toNat ((P.length + A.length : Nat) : Int))]?).bind fun e14 =>
              bif decide (0 ≤ (w64 (shiftI .shr .u64 (IntKind.u64.wrap (w64 (st13.2.1 + st13.2.2))) 1))) && decide ((w64 (shiftI .shr .u64 (IntKind.u64.wrap (w64 (st13.2.1 + st13.2.2))) 1)) < (st13.1.length : Int)) then
                (st13.1[(Int.toNat (w64 (shiftI .shr .u64 (IntKind.u64.wrap (w64 (st13.2.1 + st13.2.2))) 1)))]?).bind fun e15 =>
                (cm e14 e15).bind fun r16 =>
                bif (!(decide (r16 < 0))) then
                  some (.inl (st13.1, (w64 ((w64 (shiftI .shr .u64 (IntKind.u64.wrap (w64 (st13.2.1 + st13.2.2))) 1)) + 1)), st13.2.2))
                else
                  some (.inl (st13.1, st13.2.1, (w64 (shiftI .shr .u64 (IntKind.u64.wrap (w64 (st13.2.1 + st13.2.2))) 1))))
              else
                none
            else
              none
          else
            some (.inr (st13.1, st13.2.1)) : Option (((List Int) × Int × Int) ⊕ (((List Int) × Int))))) T P.length (P.length + A.length) ?_ ?_ (A.length) P.length (P.length + A.length) (by omega) (Nat.le_refl _) (by omega) (Nat.le_refl _) (.inl rfl) (.inl rfl)) ?_
  · intro i j h1 h2 h3
    have hh : w64 (shiftI .shr .u64 (IntKind.u64.wrap (w64 ((i : Int) + (j : Int)))) 1) = (((i + j) / 2 : Nat) : Int) := half_eq (by omega)
    generalize hq : (i + j) / 2 = h at *
    have hb := ga h (by omega) (by omega)
    have hlt : h - P.length < A.length := by omega
    have hbv : A[h - P.length]? = some (A[h - P.length]'hlt) := by simp [hlt]
    obtain ⟨c, hc, _⟩ := cmp_of (hR _ (List.getElem_mem hlt))
    have hT : T h = !decide (c < 0) := by simp only [T, hb, hbv, hc, negC]
    simp only [hh, decide_eq_true (show (i : Int) < (j : Int) by omega), cond_true, Int.toNat_natCast, gy, hb, hbv, Option.bind_some, hT]
    rw [in_rng (by omega) (by simp only [List.length_append, List.length_cons, List.length_nil]; omega), in_rng (by omega) (by simp only [List.length_append, List.length_cons, List.length_nil]; omega)]
    simp only [cond_true, Option.bind_some, hc]
    rw [w64_of (x := (h : Int) + 1) (by omega) (by omega)]
    cases decide (c < 0) <;> rfl
  · intro i
    simp only [decide_eq_false (Int.lt_irrefl (i : Int)), cond_false]
  · intro r hr
    obtain ⟨hr, h1, h2, h3, h4⟩ := hr
    rw [hr]
    simp only [Option.bind_some]
    have h3' : r = P.length ∨ (P.length < r ∧ T (r - 1) = true) := by
      by_cases e : r = P.length
      · exact .inl e
      · exact .inr ⟨by omega, h3.resolve_left e⟩
    have h4' : r = P.length + A.length ∨ (r < P.length + A.length ∧ T r = false) := by
      by_cases e : r = P.length + A.length
      · exact .inl e
      · exact .inr ⟨by omega, h4.resolve_left e⟩
    have sp := split_at O hA (x := y) (q := r - P.length) (h3'.imp (fun e => by omega) fun ⟨hlo, hT⟩ => by
        have hb := ga (r - 1) (by omega) (by omega)
        have hlt : r - 1 - P.length < A.length := by omega
        have hbv : A[r - 1 - P.length]? = some (A[r - 1 - P.length]'hlt) := by simp [hlt]
        refine ⟨_, by rw [show r - P.length - 1 = r - 1 - P.length by omega]; exact hbv, ?_⟩
        obtain ⟨c, hc, hcase⟩ := cmp_of (hR _ (List.getElem_mem hlt))
        simp only [T, hb, hbv, hc, negC] at hT
        rcases hcase with ⟨h, _⟩ | ⟨_, h⟩
        · rw [h] at hT; cases hT
        · exact h) (h4'.imp (fun e => by omega) fun ⟨hbnd, hT⟩ => by
        have hb := ga r (by omega) hbnd
        have hlt : r - P.length < A.length := by omega
        have hbv : A[r - P.length]? = some (A[r - P.length]'hlt) := by simp [hlt]
        refine ⟨_, hbv, ?_⟩
        obtain ⟨c, hc, hcase⟩ := cmp_of (hR _ (List.getElem_mem hlt))
        simp only [T, hb, hbv, hc, negC] at hT
        rcases hcase with ⟨_, h⟩ | ⟨h, _⟩
        · exact h
        · rw [h] at hT; cases hT)
    have hdl : (A.drop (r - P.length)).length = P.length + A.length - r := by rw [List.length_drop]; omega
    have htl : (A.take (r - P.length)).length = r - P.length := by rw [List.length_take]; omega
    have e0 : P ++ A ++ [y] ++ S = (P ++ A.take (r - P.length)) ++ A.drop (r - P.length) ++ y :: S := by
      simp only [List.append_assoc, List.cons_append, List.nil_append]
      rw [← List.append_assoc (A.take _), List.take_append_drop]
    have hr' : (r : Int) = ((P ++ A.take (r - P.length)).length : Int) := by rw [List.length_append, htl]; omega
    have sh := shiftL_loop (P ++ A.take (r - P.length)) y (fun st19 => rfl) _ (A.drop (r - P.length)) S rfl (by simp only [List.length_append, List.length_cons, htl, hdl]; omega)
    rw [← hr', show (((P ++ A.take (r - P.length)).length + (A.drop (r - P.length)).length : Nat) : Int) = ((P.length + A.length : Nat) : Int) by rw [List.length_append, htl, hdl]; omega] at sh
    refine ⟨A.take (r - P.length) ++ y :: A.drop (r - P.length), ?_, ?_, ?_⟩
    · rw [e0]
      refine (congrArg (fun z => z.bind fun o22 => some o22) sh).trans ?_
      simp
    · have := (List.perm_middle (a := y) (l₁ := A.take (r - P.length)) (l₂ := A.drop (r - P.length)))
      rw [List.take_append_drop] at this
      exact this.trans (List.perm_append_comm (l₁ := [y]) (l₂ := A))
    · rw [← List.take_append_drop (r - P.length) A, List.pairwise_append] at hA
      rw [List.pairwise_append, List.pairwise_cons]
      refine ⟨hA.1, ⟨sp.2, hA.2.1⟩, fun a ha z hz => ?_⟩
      rcases List.mem_cons.1 hz with rfl | hz
      · exact sp.1 a ha
      · exact hA.2.2 a ha z hz
end
end Go.Ab

/-!
  Sorting by a comparison: the merge, whole; the sort.
-/
namespace Go.Ab
open Go

noncomputable def g_loop3 (cm : Int → Int → Option Int) (md p_m : Int) : (List Int) × Int × Int → Option (((List Int) × Int × Int) ⊕ (((List Int) × Int))) := (fun (st25 : (List Int) × Int × Int) => (
          bif (decide (st25.2.1 < st25.2.2)) then
            bif decide (0 ≤ (w64 ((w64 ((w64 (md + p_m)) - 1)) - (w64 (shiftI .shr .u64 (IntKind.u64.wrap (w64 (st25.2.1 + st25.2.2))) 1))))) && decide ((w64 ((w64 ((w64 (md + p_m)) - 1)) - (w64 (shiftI .shr .u64 (IntKind.u64.wrap (w64 (st25.2.1 + st25.2.2))) 1)))) < (st25.1.length : Int)) then
              (st25.1[(Int.toNat (w64 ((w64 ((w64 (md + p_m)) - 1)) - (w64 (shiftI .shr .u64 (IntKind.u64.wrap (w64 (st25.2.1 + st25.2.2))) 1)))))]?).bind fun e26 =>
              bif decide (0 ≤ (w64 (shiftI .shr .u64 (IntKind.u64.wrap (w64 (st25.2.1 + st25.2.2))) 1))) && decide ((w64 (shiftI .shr .u64 (IntKind.u64.wrap (w64 (st25.2.1 + st25.2.2))) 1)) < (st25.1.length : Int)) then
                (st25.1[(Int.toNat (w64 (shiftI .shr .u64 (IntKind.u64.wrap (w64 (st25.2.1 + st25.2.2))) 1)))]?).bind fun e27 =>
                (cm e26 e27).bind fun r28 =>
                bif (!(decide (r28 < 0))) then
                  some (.inl (st25.1, (w64 ((w64 (shiftI .shr .u64 (IntKind.u64.wrap (w64 (st25.2.1 + st25.2.2))) 1)) + 1)), st25.2.2))
                else
                  some (.inl (st25.1, st25.2.1, (w64 (shiftI .shr .u64 (IntKind.u64.wrap (w64 (st25.2.1 + st25.2.2))) 1))))
              else
                none
            else
              none
          else
            some (.inr (st25.1, st25.2.1)) : Option (((List Int) × Int × Int) ⊕ (((List Int) × Int)))))
noncomputable def g_main (again : (List Int) → Int → Int → Int → (Int → Int → Option Int) → Option ((List Int))) (p_data : List Int) (p_a : Int) (p_m : Int) (p_b : Int) (cm : Int → Int → Option Int) (md : Int) : Option (List Int) :=
      (bif (decide (md < p_m)) then
          some (p_data, (w64 ((w64 (md + p_m)) - p_b)), md)
        else
          some (p_data, p_a, p_m)).bind fun j23 =>
      (loopE (g_loop3 cm md p_m) (j23.1, j23.2.1, j23.2.2)).bind fun o29 =>
      (bif (decide (o29.2 < p_m)) then
          some (decide (p_m < (w64 ((w64 (md + p_m)) - o29.2))))
        else
          some false).bind fun c30 =>
      bif c30 then
        (g_rotate o29.1 o29.2 p_m (w64 ((w64 (md + p_m)) - o29.2)) cm).bind fun r31 =>
        g_rest again cm r31 p_a o29.2 md (w64 ((w64 (md + p_m)) - o29.2)) p_b
      else
        g_rest again cm o29.1 p_a o29.2 md (w64 ((w64 (md + p_m)) - o29.2)) p_b

section
variable {cm : Int → Int → Option Int} {lt : Int → Int → Prop}

theorem step_main (again : (List Int) → Int → Int → Int → (Int → Int → Option Int) → Option ((List Int))) (p_data : List Int) (p_a : Int) (p_m : Int) (p_b : Int) (cm : Int → Int → Option Int) (h1 : decide ((w64 (p_m - p_a)) = 1) = false) (h2 : decide ((w64 (p_b - p_m)) = 1) = false) :
    g_symMerge_step again p_data p_a p_m p_b cm = g_main again p_data p_a p_m p_b cm (w64 (shiftI .shr .u64 (IntKind.u64.wrap (w64 (p_a + p_b))) 1)) := by
  unfold g_symMerge_step
  rw [h1, h2]
  rfl

theorem take_lt (O : Ordr lt) {A : List Int} (hs : A.Pairwise lt) {q : Nat} {x y : Int} (h : A[q - 1]? = some y) (hyx : lt y x) : ∀ z ∈ A.take q, lt z x := by
  rw [List.pairwise_iff_getElem] at hs
  intro z hz
  obtain ⟨i, hi, rfl⟩ := List.getElem_of_mem hz
  rw [List.length_take] at hi
  rw [List.getElem_take]
  obtain ⟨hq, rfl⟩ := List.getElem?_eq_some_iff.1 h
  by_cases he : i = q - 1
  · subst he; exact hyx
  · exact O.trans (hs i (q - 1) (by omega) hq (by omega)) hyx
theorem drop_lt (O : Ordr lt) {B : List Int} (hs : B.Pairwise lt) {q : Nat} {x y : Int} (h : B[q]? = some y) (hxy : lt x y) : ∀ z ∈ B.drop q, lt x z := by
  rw [List.pairwise_iff_getElem] at hs
  intro z hz
  obtain ⟨i, hi, rfl⟩ := List.getElem_of_mem hz
  rw [List.length_drop] at hi
  rw [List.getElem_drop]
  obtain ⟨hq, rfl⟩ := List.getElem?_eq_some_iff.1 h
  by_cases he : i = 0
  · subst he; exact hxy
  · exact O.trans hxy (hs q (q + i) hq (by omega) (by omega))

theorem main_ok (O : Ordr lt) {again : (List Int) → Int → Int → Int → (Int → Int → Option Int) → Option ((List Int))} {k : Nat} {P A B S : List Int} (hA : A.Pairwise lt) (hB : B.Pairwise lt) (hR : ∀ a ∈ A, ∀ b ∈ B, Rq cm lt a b)
    (hA2 : 2 ≤ A.length) (hB2 : 2 ≤ B.length) (hl : (P ++ A ++ B ++ S).length ≤ 1000000)
    (IH : ∀ P A B S : List Int, A ≠ [] → B ≠ [] → A.Pairwise lt → B.Pairwise lt → (∀ a ∈ A, ∀ b ∈ B, Rq cm lt a b) → (P ++ A ++ B ++ S).length ≤ 1000000 → Merged lt (again (P ++ A ++ B ++ S) P.length ((P.length + A.length : Nat) : Int) ((P.length + A.length + B.length : Nat) : Int) cm) k P A B S)
    {mid : Nat} (hmid : mid = (P.length + (P.length + A.length + B.length)) / 2) :
    (∃ C, g_main again (P ++ A ++ B ++ S) P.length ((P.length + A.length : Nat) : Int) ((P.length + A.length + B.length : Nat) : Int) cm (mid : Int) = some (P ++ C ++ S) ∧ C.Perm (A ++ B) ∧ C.Pairwise lt) ∨
    (g_main again (P ++ A ++ B ++ S) P.length ((P.length + A.length : Nat) : Int) ((P.length + A.length + B.length : Nat) : Int) cm (mid : Int) = none ∧ k + 1 < A.length + B.length) := by
  have hl' : P.length + A.length + B.length + S.length ≤ 1000000 := by simp only [List.length_append] at hl; omega
  generalize hm : P.length + A.length = m at *
  have ga : ∀ h, P.length ≤ h → h < m → (P ++ A ++ B ++ S)[h]? = A[h - P.length]? := fun h h1 h2 => by
    have := get_A (P := P) (A := A) (R := B ++ S) (t := h - P.length) (by omega)
    rw [show P.length + (h - P.length) = h by omega] at this
    rw [← this]; simp
  have gb : ∀ h, m ≤ h → h < m + B.length → (P ++ A ++ B ++ S)[h]? = B[h - m]? := fun h h1 h2 => by
    have := get_B (P := P) (A := A) (B := B) (S := S) (t := h - m) (by omega)
    rw [show P.length + A.length + (h - m) = h by omega] at this
    exact this
  -- where the search runs
  obtain ⟨lo, hi, hj, hlo, hhi, hlohi, hAr, hBr, hloE, hhiE⟩ : ∃ lo hi : Nat, (bif (decide ((mid : Int) < (m : Int))) then
          some (P ++ A ++ B ++ S, (w64 ((w64 ((mid : Int) + (m : Int))) - ((m + B.length : Nat) : Int))), (mid : Int))
        else
          some (P ++ A ++ B ++ S, (P.length : Int), (m : Int))) = some (P ++ A ++ B ++ S, (lo : Int), (hi : Int)) ∧ P.length ≤ lo ∧ hi ≤ mid ∧ lo ≤ hi ∧ hi ≤ m ∧ mid ≤ lo + B.length ∧
          (lo = P.length ∨ mid = lo + B.length) ∧ (hi = m ∨ hi = mid) := by
    by_cases h : mid < m
    · refine ⟨mid + m - (m + B.length), mid, ?_, by omega, Nat.le_refl _, by omega, by omega, by omega, .inr (by omega), .inr rfl⟩
      rw [decide_eq_true (by omega), w64_of (x := (mid : Int) + (m : Int)) (by omega) (by omega), w64_of (by omega) (by omega)]
      simp only [cond_true]
      rw [show ((mid + m - (m + B.length) : Nat) : Int) = (mid : Int) + (m : Int) - ((m + B.length : Nat) : Int) by omega]
    · refine ⟨P.length, m, ?_, Nat.le_refl _, by omega, by omega, Nat.le_refl _, by omega, .inl rfl, .inl rfl⟩
      rw [decide_eq_false (by omega)]
      rfl
  unfold g_main
  rw [hj]
  simp only [Option.bind_some]
  let T : Nat → Bool := fun c => match (P ++ A ++ B ++ S)[mid + m - 1 - c]?, (P ++ A ++ B ++ S)[c]? with
    | some e1, some e2 => !(negC (cm e1 e2))
    | _, _ => false
  have at_c : ∀ c, lo ≤ c → c < hi → ∃ (u v : Int) (w : Int), A[c - P.length]? = some u ∧ B[mid - 1 - c]? = some v ∧ (P ++ A ++ B ++ S)[c]? = some u ∧ (P ++ A ++ B ++ S)[mid + m - 1 - c]? = some v ∧ cm v u = some w ∧ T c = !decide (w < 0) ∧ ((decide (w < 0) = true ∧ lt v u) ∨ (decide (w < 0) = false ∧ lt u v)) := by
    intro c h1 h2
    have l1 : c - P.length < A.length := by omega
    have l2 : mid - 1 - c < B.length := by omega
    have e1 : A[c - P.length]? = some (A[c - P.length]'l1) := by simp [l1]
    have e2 : B[mid - 1 - c]? = some (B[mid - 1 - c]'l2) := by simp [l2]
    have g1 := (ga c (by omega) (by omega)).trans e1
    have g2 : (P ++ A ++ B ++ S)[mid + m - 1 - c]? = some (B[mid - 1 - c]'l2) := by
      have := gb (mid + m - 1 - c) (by omega) (by omega)
      rw [show mid + m - 1 - c - m = mid - 1 - c by omega, e2] at this
      exact this
    obtain ⟨w, hw, hcase⟩ := cmp_of (hR _ (List.getElem_mem l1) _ (List.getElem_mem l2))
    exact ⟨_, _, w, e1, e2, g1, g2, hw, by simp only [T, g1, g2, hw, negC], hcase⟩
  obtain ⟨r, hr, h1, h2, h3, h4⟩ := bs_loop (D := P ++ A ++ B ++ S) (f := g_loop3 cm (mid : Int) (m : Int)) T lo hi (fun i j h1 h2 h3 => by
    have hh : w64 (shiftI .shr .u64 (IntKind.u64.wrap (w64 ((i : Int) + (j : Int)))) 1) = (((i + j) / 2 : Nat) : Int) := half_eq (by omega)
    generalize hq : (i + j) / 2 = h at *
    obtain ⟨u, v, w, _, _, g1, g2, hw, hT, _⟩ := at_c h (by omega) (by omega)
    have hp : w64 ((w64 ((w64 ((mid : Int) + (m : Int))) - 1)) - (h : Int)) = ((mid + m - 1 - h : Nat) : Int) := by
      rw [w64_of (x := (mid : Int) + (m : Int)) (by omega) (by omega), w64_of (x := (mid : Int) + (m : Int) - 1) (by omega) (by omega), w64_of (by omega) (by omega)]; omega
    unfold g_loop3
    simp only [hh, hp, decide_eq_true (show (i : Int) < (j : Int) by omega), cond_true, Int.toNat_natCast, g1, g2, Option.bind_some, hT]
    rw [in_rng (by omega) (by simp only [List.length_append]; omega), in_rng (by omega) (by simp only [List.length_append]; omega)]
    simp only [cond_true, Option.bind_some, hw]
    rw [w64_of (x := (h : Int) + 1) (by omega) (by omega)]
    cases decide (w < 0) <;> rfl) (fun i => by
    unfold g_loop3
    simp only [decide_eq_false (Int.lt_irrefl (i : Int)), cond_false]) (hi - lo) lo hi (Nat.le_refl _) (Nat.le_refl _) hlohi (Nat.le_refl _) (.inl rfl) (.inl rfl)
  rw [hr]
  simp only [Option.bind_some]
  have h3' : r = lo ∨ (lo < r ∧ T (r - 1) = true) := by
    by_cases e : r = lo
    · exact .inl e
    · exact .inr ⟨by omega, h3.resolve_left e⟩
  have h4' : r = hi ∨ (r < hi ∧ T r = false) := by
    by_cases e : r = hi
    · exact .inl e
    · exact .inr ⟨by omega, h4.resolve_left e⟩
  obtain ⟨s1, hs1⟩ : ∃ s1, s1 = r - P.length := ⟨_, rfl⟩
  obtain ⟨e1, he1⟩ : ∃ e1, e1 = mid - r := ⟨_, rfl⟩
  have ls1 : s1 ≤ A.length := by omega
  have le1 : e1 ≤ B.length := by omega
  have X1 : ∀ u ∈ A.take s1, ∀ v ∈ B.drop e1, lt u v := by
    rcases h3' with h | ⟨h, hT⟩
    · intro u hu v hv
      rcases hloE with h5 | h5
      · rw [show s1 = 0 by omega] at hu; simp at hu
      · rw [List.drop_of_length_le (by omega)] at hv; cases hv
    · obtain ⟨u0, v0, w, a1, b1, _, _, _, hw, hcase⟩ := at_c (r - 1) (by omega) (by omega)
      rw [hw] at hT
      have huv : lt u0 v0 := by
        rcases hcase with ⟨hc, _⟩ | ⟨_, hc⟩
        · rw [hc] at hT; cases hT
        · exact hc
      intro u hu v hv
      refine drop_lt O hB (q := e1) (y := v0) (by rw [← b1]; congr 1; omega) ?_ v hv
      exact take_lt O hA (q := s1) (y := u0) (by rw [← a1]; congr 1; omega) huv u hu
  have X2 : ∀ u ∈ B.take e1, ∀ v ∈ A.drop s1, lt u v := by
    rcases h4' with h | ⟨h, hT⟩
    · intro u hu v hv
      rcases hhiE with h5 | h5
      · rw [List.drop_of_length_le (by omega)] at hv; cases hv
      · rw [show e1 = 0 by omega] at hu; simp at hu
    · obtain ⟨u0, v0, w, a1, b1, _, _, _, hw, hcase⟩ := at_c r (by omega) (by omega)
      rw [hw] at hT
      have huv : lt v0 u0 := by
        rcases hcase with ⟨_, hc⟩ | ⟨hc, _⟩
        · exact hc
        · rw [hc] at hT; cases hT
      intro u hu v hv
      refine drop_lt O hA (q := s1) (y := u0) (by rw [← a1]; congr 1) ?_ v hv
      exact take_lt O hB (q := e1) (y := v0) (by rw [← b1]; congr 1; omega) huv u hu
  clear h3 h4 h3' h4' at_c ga gb hr
  have dA : A.take s1 ++ A.drop s1 = A := List.take_append_drop _ _
  have dB : B.take e1 ++ B.drop e1 = B := List.take_append_drop _ _
  have la : (A.take s1).length = s1 := by rw [List.length_take]; omega
  have lb : (B.take e1).length = e1 := by rw [List.length_take]; omega
  generalize hgA1 : A.take s1 = A1 at *
  generalize hgA2 : A.drop s1 = A2 at *
  generalize hgB1 : B.take e1 = B1 at *
  generalize hgB2 : B.drop e1 = B2 at *
  subst dA
  subst dB
  clear hgA1 hgA2 hgB1 hgB2 T
  rw [List.pairwise_append] at hA hB
  simp only [List.length_append] at hA2 hB2 hl' hm ls1 le1 hBr hmid
  have hst : (r : Int) = ((P.length + A1.length : Nat) : Int) := by omega
  have hmd : (mid : Int) = ((P.length + A1.length + B1.length : Nat) : Int) := by omega
  have hen : w64 ((w64 ((mid : Int) + (m : Int))) - (r : Int)) = ((P.length + A1.length + B1.length + A2.length : Nat) : Int) := by
    rw [w64_of (x := (mid : Int) + (m : Int)) (by omega) (by omega), w64_of (by omega) (by omega)]; omega
  have hbb : ((m + (B1 ++ B2).length : Nat) : Int) = ((P.length + A1.length + B1.length + A2.length + B2.length : Nat) : Int) := by simp only [List.length_append]; omega
  have rest := rest_ok (cm := cm) (lt := lt) (again := again) (k := k) (P := P) (A1 := A1) (B1 := B1) (A2 := A2) (B2 := B2) (S := S) (by omega) (by omega) hA.1 hB.1 hA.2.1 hB.2.1
    (fun n1 n2 S' hs => IH P A1 B1 S' n1 n2 hA.1 hB.1 (fun a ha b hb => hR a (List.mem_append_left _ ha) b (List.mem_append_left _ hb)) hs)
    (fun n1 n2 P' _ hs => IH P' A2 B2 S n1 n2 hA.2.1 hB.2.1 (fun a ha b hb => hR a (List.mem_append_right _ ha) b (List.mem_append_right _ hb)) hs)
    (fun x hx y hy => by
      rcases List.mem_append.1 hx with hx | hx <;> rcases List.mem_append.1 hy with hy | hy
      · exact hA.2.2 x hx y hy
      · exact X1 x hx y hy
      · exact X2 x hx y hy
      · exact hB.2.2 x hx y hy) rfl hst hmd hen hbb (by simp only [List.length_append]; omega)
  have perm : (A1 ++ B1 ++ (A2 ++ B2)).Perm (A1 ++ A2 ++ (B1 ++ B2)) := by
    simp only [List.append_assoc]
    refine (List.Perm.refl A1).append ?_
    rw [← List.append_assoc, ← List.append_assoc A2]
    exact (List.perm_append_comm).append (.refl _)
  have len : A1.length + B1.length + (A2.length + B2.length) = (A1 ++ A2).length + (B1 ++ B2).length := by simp only [List.length_append]; omega
  have fin : (∃ C, g_rest again cm (P ++ A1 ++ B1 ++ A2 ++ B2 ++ S) (P.length : Int) (r : Int) (mid : Int) (w64 ((w64 ((mid : Int) + (m : Int))) - (r : Int))) ((m + (B1 ++ B2).length : Nat) : Int) = some (P ++ C ++ S) ∧ C.Perm (A1 ++ A2 ++ (B1 ++ B2)) ∧ C.Pairwise lt) ∨
      (g_rest again cm (P ++ A1 ++ B1 ++ A2 ++ B2 ++ S) (P.length : Int) (r : Int) (mid : Int) (w64 ((w64 ((mid : Int) + (m : Int))) - (r : Int))) ((m + (B1 ++ B2).length : Nat) : Int) = none ∧ k + 1 < (A1 ++ A2).length + (B1 ++ B2).length) := by
    rcases rest with ⟨C, x1, x2, x3⟩ | ⟨x1, x2⟩
    · exact .inl ⟨C, x1, x2.trans perm, x3⟩
    · exact .inr ⟨x1, by omega⟩
  rw [and_dec]
  simp only [Option.bind_some]
  by_cases hne : A2 ≠ [] ∧ B1 ≠ []
  · have n1 := List.length_pos_iff.2 hne.1
    have n2 := List.length_pos_iff.2 hne.2
    rw [decide_eq_true (show (r : Int) < (m : Int) by omega), decide_eq_true (show (m : Int) < w64 ((w64 ((mid : Int) + (m : Int))) - (r : Int)) by rw [hen]; omega)]
    simp only [Bool.and_self, cond_true]
    have rot := rot_eq (cm := cm) (P := P ++ A1) (X := A2) (Y := B1) (S := B2 ++ S) hne.1 hne.2 (a := (r : Int)) (m := (m : Int)) (b := w64 ((w64 ((mid : Int) + (m : Int))) - (r : Int))) (by rw [hst, List.length_append]) (by rw [List.length_append]; omega) (by rw [hen, List.length_append]; omega) (by simp only [List.length_append]; omega)
    rw [show P ++ (A1 ++ A2) ++ (B1 ++ B2) ++ S = P ++ A1 ++ A2 ++ B1 ++ (B2 ++ S) by simp, rot]
    simp only [Option.bind_some]
    rw [show P ++ A1 ++ B1 ++ A2 ++ (B2 ++ S) = P ++ A1 ++ B1 ++ A2 ++ B2 ++ S by simp]
    exact fin
  · have he : A2 = [] ∨ B1 = [] := by
      by_cases h : A2 = []
      · exact .inl h
      · exact .inr (by by_cases h' : B1 = []; exact h'; exact absurd ⟨h, h'⟩ hne)
    have hd : (decide ((r : Int) < (m : Int)) && decide ((m : Int) < w64 ((w64 ((mid : Int) + (m : Int))) - (r : Int)))) = false := by
      rcases he with rfl | rfl
      · rw [decide_eq_false (show ¬ (r : Int) < (m : Int) by simp at hm; omega)]; rfl
      · rw [decide_eq_false (show ¬ (m : Int) < w64 ((w64 ((mid : Int) + (m : Int))) - (r : Int)) by rw [hen]; simp; omega)]; simp
    rw [hd]
    simp only [cond_false]
    have e : P ++ (A1 ++ A2) ++ (B1 ++ B2) ++ S = P ++ A1 ++ B1 ++ A2 ++ B2 ++ S := by
      rcases he with rfl | rfl <;> simp
    rw [e]
    exact fin
end
end Go.Ab

/-!
  Sorting by a comparison: what slices.SortStableFunc comes to at 40 elements at most.
-/
namespace Go.Ab
open Go

section
variable {cm : Int → Int → Option Int} {lt : Int → Int → Prop}

theorem sorted_eq (O : Ordr lt) : ∀ {A B : List Int}, A.Perm B → A.Pairwise lt → B.Pairwise lt → A = B
  | [], B, p, _, _ => (List.nil_perm.1 p).symm
  | x :: A, [], p, _, _ => by have := p.length_eq; simp at this
  | x :: A, y :: B, p, hA, hB => by
    rw [List.pairwise_cons] at hA hB
    have hxy : x = y := by
      have h1 : x ∈ y :: B := p.mem_iff.1 (by simp)
      have h2 : y ∈ x :: A := p.mem_iff.2 (by simp)
      rcases List.mem_cons.1 h1 with h | h
      · exact h
      · rcases List.mem_cons.1 h2 with h' | h'
        · exact h'.symm
        · exact absurd (O.trans (hB.1 x h) (hA.1 y h')) (O.irr _)
    subst hxy
    rw [sorted_eq O (List.Perm.cons_inv p) hA.2 hB.2]

theorem sym_it (O : Ordr lt) : ∀ (k : Nat) (P A B S : List Int), A ≠ [] → B ≠ [] → A.Pairwise lt → B.Pairwise lt → (∀ a ∈ A, ∀ b ∈ B, Rq cm lt a b) → (P ++ A ++ B ++ S).length ≤ 1000000 →
    Merged lt (g_symMerge_it k (P ++ A ++ B ++ S) P.length ((P.length + A.length : Nat) : Int) ((P.length + A.length + B.length : Nat) : Int) cm) k P A B S
  | 0, P, A, B, S, hA, hB, _, _, _, _ => .inr ⟨rfl, by have := List.length_pos_iff.2 hA; omega⟩
  | k + 1, P, A, B, S, hA, hB, sA, sB, hR, hl => by
    have hl' : P.length + A.length + B.length + S.length ≤ 1000000 := by simp only [List.length_append] at hl; omega
    have pA := List.length_pos_iff.2 hA
    have pB := List.length_pos_iff.2 hB
    show Merged lt (g_symMerge_step (g_symMerge_it k) (P ++ A ++ B ++ S) P.length ((P.length + A.length : Nat) : Int) ((P.length + A.length + B.length : Nat) : Int) cm) (k + 1) P A B S
    by_cases h1 : A.length = 1
    · obtain ⟨x, rfl⟩ := List.length_eq_one_iff.1 h1
      exact .inl (sym_left O _ P S B x sB (fun b hb => hR x (by simp) b hb) hB hl)
    · by_cases h2 : B.length = 1
      · obtain ⟨y, rfl⟩ := List.length_eq_one_iff.1 h2
        exact .inl (sym_right O _ P S A y sA (fun a ha => hR a ha y (by simp)) (by omega) hl)
      · have e1 : decide ((w64 (((P.length + A.length : Nat) : Int) - (P.length : Int))) = 1) = false := by rw [w64_of (by omega) (by omega)]; exact decide_eq_false (by omega)
        have e2 : decide ((w64 (((P.length + A.length + B.length : Nat) : Int) - ((P.length + A.length : Nat) : Int))) = 1) = false := by rw [w64_of (by omega) (by omega)]; exact decide_eq_false (by omega)
        rw [step_main _ _ _ _ _ _ e1 e2, half_eq (x := P.length) (y := P.length + A.length + B.length) (by omega)]
        exact main_ok O sA sB hR (by omega) (by omega) hl (fun P A B S => sym_it O k P A B S) rfl

/-- two sorted stretches are merged -/
theorem sym_eq (O : Ordr lt) {P A B S : List Int} (hA : A ≠ []) (hB : B ≠ []) (sA : A.Pairwise lt) (sB : B.Pairwise lt) (hR : ∀ a ∈ A, ∀ b ∈ B, Rq cm lt a b) (hl : (P ++ A ++ B ++ S).length ≤ 1000000) {a m b : Int} (ha : a = (P.length : Int)) (hm : m = ((P.length + A.length : Nat) : Int)) (hb : b = ((P.length + A.length + B.length : Nat) : Int)) :
    ∃ C, g_symMerge (P ++ A ++ B ++ S) a m b cm = some (P ++ C ++ S) ∧ C.Perm (A ++ B) ∧ C.Pairwise lt := by
  subst ha; subst hm; subst hb
  have all := fun k => sym_it (cm := cm) O k P A B S hA hB sA sB hR hl
  obtain ⟨C, e, p, s⟩ := (all (A.length + B.length)).resolve_right fun h => by have := h.2; omega
  refine ⟨C, limE_of ⟨_, e⟩ fun k r' h => ?_, p, s⟩
  rcases all k with ⟨C', e', p', s'⟩ | ⟨e', _⟩
  · rw [e'] at h
    rw [← Option.some.inj h, sorted_eq O (p'.trans p.symm) s' s]
  · rw [e'] at h; cases h

/-- the sort, at 40 elements at most -/
theorem stable_eq (O : Ordr lt) {D : List Int} (hD : D.Pairwise (Rq cm lt)) (hl : D.length ≤ 40) : ∃ C, g_SortStable D cm = some C ∧ C.Perm D ∧ C.Pairwise lt := by
  have fin : ∀ {C : List Int}, g_stable D (D.length : Int) cm = some C → g_SortStable D cm = some C := fun h => by
    unfold g_SortStable; rw [h]; rfl
  have w20 : w64 (20 + 20) = 40 := by rw [w64_of] <;> decide
  have w40 : w64 (2 * 20) = 40 := by rw [w64_of] <;> decide
  have w402 : w64 (20 * 2) = 40 := by rw [w64_of] <;> decide
  have ins := fun (P S D : List Int) (h1 : D.Pairwise (Rq cm lt)) (h2 : (P ++ D ++ S).length ≤ 1000000) => ins_sort O P S D h1 h2
  by_cases h20 : D.length < 20
  · obtain ⟨C, p, s, e⟩ := ins [] [] D hD (by simp; omega)
    refine ⟨C, fin ?_, p, s⟩
    unfold g_stable
    rw [loopE_done (b := (D, 0)) (by simp only; rw [decide_eq_false (by omega)]; rfl)]
    simp only [List.nil_append, List.append_nil, List.length_nil, Nat.zero_add, Int.natCast_zero] at e
    simp only [Option.bind_some, e]
    rw [loopE_done (b := C) (by simp only; rw [decide_eq_false (by omega)]; rfl)]
    rfl
  · obtain ⟨D1, D2, rfl, l1⟩ : ∃ D1 D2, D = D1 ++ D2 ∧ D1.length = 20 := ⟨D.take 20, D.drop 20, (List.take_append_drop _ _).symm, by simp; omega⟩
    rw [List.pairwise_append] at hD
    simp only [List.length_append] at h20 hl
    have hn : (((D1 ++ D2).length : Nat) : Int) = ((20 + D2.length : Nat) : Int) := by rw [List.length_append, l1]
    obtain ⟨C1, p1, s1, e1⟩ := ins [] D2 D1 hD.1 (by simp; omega)
    have c1 : C1.length = 20 := by rw [p1.length_eq, l1]
    obtain ⟨C2, p2, s2, e2⟩ := ins C1 [] D2 hD.2.1 (by simp; omega)
    have c2 : C2.length = D2.length := p2.length_eq
    simp only [List.nil_append, List.append_nil, List.length_nil, Nat.zero_add, Int.natCast_zero, l1, c1] at e1 e2
    have e1' : g_insertionSort (D1 ++ D2) 0 20 cm = some (C1 ++ D2) := e1
    have e2' : g_insertionSort (C1 ++ D2) 20 ((20 + D2.length : Nat) : Int) cm = some (C1 ++ C2) := e2
    -- what the first passes leave
    have first : (loopE (fun (st2 : (List Int) × Int × Int) => (
      bif (decide (st2.2.2 ≤ (((D1 ++ D2).length : Nat) : Int))) then
        (g_insertionSort st2.1 st2.2.1 st2.2.2 cm).bind fun r3 =>
        some (.inl (r3, st2.2.2, (w64 (st2.2.2 + 20))))
      else
        some (.inr (st2.1, st2.2.1)) : Option (((List Int) × Int × Int) ⊕ (((List Int) × Int))))) (D1 ++ D2, 0, 20)).bind (fun o4 =>
          g_insertionSort o4.1 o4.2 (((D1 ++ D2).length : Nat) : Int) cm) = some (C1 ++ C2) := by
      rw [loopE_step (a' := (C1 ++ D2, 20, 40)) (by
        simp only [hn]
        rw [decide_eq_true (by omega), e1']
        simp only [cond_true, Option.bind_some, w20])]
      by_cases h40 : D2.length = 20
      · rw [loopE_step (a' := (C1 ++ C2, 40, 60)) (by
          simp only [hn]
          rw [decide_eq_true (by omega)]
          rw [h40] at e2'
          have e2'' : g_insertionSort (C1 ++ D2) 20 40 cm = some (C1 ++ C2) := e2'
          simp only [cond_true, e2'', Option.bind_some]
          rw [w64_of (by decide) (by decide)]
          rfl), loopE_done (b := (C1 ++ C2, 40)) (by simp only [hn]; rw [decide_eq_false (by omega)]; rfl)]
        simp only [Option.bind_some, hn]
        obtain ⟨C3, p3, _, e3⟩ := ins (C1 ++ C2) [] [] .nil (by simp; omega)
        have : C3 = [] := List.perm_nil.1 p3
        subst this
        simp only [List.append_nil, List.length_append, c1, c2, List.length_nil, Nat.add_zero, h40] at e3
        rw [h40]
        exact e3
      · rw [loopE_done (b := (C1 ++ D2, 20)) (by simp only [hn]; rw [decide_eq_false (by omega)]; rfl)]
        simp only [Option.bind_some, hn]
        exact e2'
    have rw1 : ∀ {α : Type} (X : Option ((List Int) × Int)) (K : List Int → Option α), (X.bind fun o4 => (g_insertionSort o4.1 o4.2 (((D1 ++ D2).length : Nat) : Int) cm).bind fun r5 => K r5) = (X.bind fun o4 => g_insertionSort o4.1 o4.2 (((D1 ++ D2).length : Nat) : Int) cm).bind K := fun X K => by cases X <;> rfl
    by_cases hD2 : D2 = []
    · subst hD2
      have : C2 = [] := List.perm_nil.1 p2
      subst this
      refine ⟨C1, fin ?_, by simpa using p1, s1⟩
      unfold g_stable
      rw [rw1, first]
      simp only [Option.bind_some, List.append_nil]
      rw [loopE_done (b := C1) (by simp only [List.append_nil] at hn ⊢; rw [decide_eq_false (by omega)]; rfl)]
      rfl
    · have pos2 := List.length_pos_iff.2 hD2
      have nC1 : C1 ≠ [] := List.length_pos_iff.1 (by omega)
      have nC2 : C2 ≠ [] := List.length_pos_iff.1 (by omega)
      obtain ⟨C, e3, p3, s3⟩ := sym_eq (cm := cm) O (P := []) (A := C1) (B := C2) (S := []) nC1 nC2 s1 s2 (fun a ha b hb => hD.2.2 a (p1.mem_iff.1 ha) b (p2.mem_iff.1 hb)) (by simp; omega) (a := 0) (m := 20) (b := ((20 + D2.length : Nat) : Int)) rfl (by simp [c1]) (by simp [c1, c2])
      simp only [List.nil_append, List.append_nil] at e3
      refine ⟨C, fin ?_, p3.trans (p1.append p2), s3⟩
      unfold g_stable
      rw [rw1, first]
      simp only [Option.bind_some]
      rw [loopE_step (a' := (C, 40)) (by
        simp only [hn]
        rw [decide_eq_true (by omega)]
        simp only [cond_true, w40]
        by_cases h40 : D2.length = 20
        · rw [loopE_step (a' := (C, 40, 80)) (by
            simp only
            rw [decide_eq_true (by omega), w64_of (x := 0 + 20) (by decide) (by decide)]
            rw [h40] at e3
            have e3' : g_symMerge (C1 ++ C2) 0 20 40 cm = some C := e3
            simp only [cond_true, Int.zero_add, e3', Option.bind_some]
            rw [w64_of (by decide) (by decide)]
            rfl), loopE_done (b := (C, 40)) (by simp only; rw [decide_eq_false (by omega)]; rfl)]
          simp only [Option.bind_some]
          rw [w64_of (x := 40 + 20) (by decide) (by decide), decide_eq_false (by omega)]
          simp only [cond_false, w402]
        · rw [loopE_done (b := (C1 ++ C2, 0)) (by simp only; rw [decide_eq_false (by omega)]; rfl)]
          simp only [Option.bind_some]
          rw [w64_of (x := 0 + 20) (by decide) (by decide), decide_eq_true (by omega)]
          simp only [Int.zero_add, cond_true, e3, Option.bind_some, w402])]
      rw [loopE_done (b := C) (by simp only [hn]; rw [decide_eq_false (by omega)]; rfl)]
      rfl
end
end Go.Ab
