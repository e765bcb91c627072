/-
  Sorting by a comparison, equals kept in order: what slices.SortStableFunc's own text computes, in plain Lean, at 40 elements at most.
-/
import Derived.Test.YtlhplhjibadplaaXLift
import Derived.Test.YtlhplhjibadplaaXLaw
namespace Go.Ab
open Go

noncomputable def g_insertionSort (p_data : List Int) (p_a : Int) (p_b : Int) (cm : Int → Int → Option Int) : Option ((List Int)) :=
  (loopE (fun (st2 : (List Int) × Int) => (
      bif (decide (st2.2 < p_b)) then
        (loopE (fun (st4 : (List Int) × Int) => (
            (bif (decide (p_a < st4.2)) then
                bif decide (0 ≤ st4.2) && decide (st4.2 < (st4.1.length : Int)) then
                  (st4.1[(Int.toNat st4.2)]?).bind fun e5 =>
                  bif decide (0 ≤ (w64 (st4.2 - 1))) && decide ((w64 (st4.2 - 1)) < (st4.1.length : Int)) then
                    (st4.1[(Int.toNat (w64 (st4.2 - 1)))]?).bind fun e6 =>
                    (cm e5 e6).bind fun r7 =>
                    some (decide (r7 < 0))
                  else
                    none
                else
                  none
              else
                some false).bind fun c8 =>
            bif c8 then
              bif decide (0 ≤ (w64 (st4.2 - 1))) && decide ((w64 (st4.2 - 1)) < (st4.1.length : Int)) then
                (st4.1[(Int.toNat (w64 (st4.2 - 1)))]?).bind fun e9 =>
                bif decide (0 ≤ st4.2) && decide (st4.2 < (st4.1.length : Int)) then
                  (st4.1[(Int.toNat st4.2)]?).bind fun e10 =>
                  bif decide (0 ≤ st4.2) && decide (st4.2 < (st4.1.length : Int)) then
                    bif decide (0 ≤ (w64 (st4.2 - 1))) && decide ((w64 (st4.2 - 1)) < ((st4.1.set (Int.toNat st4.2) e9).length : Int)) then
                      some (.inl (((st4.1.set (Int.toNat st4.2) e9).set (Int.toNat (w64 (st4.2 - 1))) e10), (w64 (st4.2 - 1))))
                    else
                      none
                  else
                    none
                else
                  none
              else
                none
            else
              some (.inr st4.1) : Option (((List Int) × Int) ⊕ ((List Int))))) (st2.1, st2.2)).bind fun o11 =>
        some (.inl (o11, (w64 (st2.2 + 1))))
      else
        some (.inr st2.1) : Option (((List Int) × Int) ⊕ ((List Int))))) (p_data, (w64 (p_a + 1)))).bind fun o12 =>
  some o12

noncomputable def g_swapRange (p_data : List Int) (p_a : Int) (p_b : Int) (p_n : Int) (cm : Int → Int → Option Int) : Option ((List Int)) :=
  (loopE (fun (st2 : (List Int) × Int) => (
      bif (decide (st2.2 < p_n)) then
        bif decide (0 ≤ (w64 (p_b + st2.2))) && decide ((w64 (p_b + st2.2)) < (st2.1.length : Int)) then
          (st2.1[(Int.toNat (w64 (p_b + st2.2)))]?).bind fun e3 =>
          bif decide (0 ≤ (w64 (p_a + st2.2))) && decide ((w64 (p_a + st2.2)) < (st2.1.length : Int)) then
            (st2.1[(Int.toNat (w64 (p_a + st2.2)))]?).bind fun e4 =>
            bif decide (0 ≤ (w64 (p_a + st2.2))) && decide ((w64 (p_a + st2.2)) < (st2.1.length : Int)) then
              bif decide (0 ≤ (w64 (p_b + st2.2))) && decide ((w64 (p_b + st2.2)) < ((st2.1.set (Int.toNat (w64 (p_a + st2.2))) e3).length : Int)) then
                some (.inl (((st2.1.set (Int.toNat (w64 (p_a + st2.2))) e3).set (Int.toNat (w64 (p_b + st2.2))) e4), (w64 (st2.2 + 1))))
              else
                none
            else
              none
          else
            none
        else
          none
      else
        some (.inr st2.1) : Option (((List Int) × Int) ⊕ ((List Int))))) (p_data, 0)).bind fun o5 =>
  some o5

noncomputable def g_rotate (p_data : List Int) (p_a : Int) (p_m : Int) (p_b : Int) (cm : Int → Int → Option Int) : Option ((List Int)) :=
  (loopE (fun (st2 : (List Int) × Int × Int) => (
      bif (!decide (st2.2.1 = st2.2.2)) then
        bif (decide (st2.2.2 < st2.2.1)) then
          (g_swapRange st2.1 (w64 (p_m - st2.2.1)) p_m st2.2.2 cm).bind fun r3 =>
          some (.inl (r3, (w64 (st2.2.1 - st2.2.2)), st2.2.2))
        else
          (g_swapRange st2.1 (w64 (p_m - st2.2.1)) (w64 ((w64 (p_m + st2.2.2)) - st2.2.1)) st2.2.1 cm).bind fun r4 =>
          some (.inl (r4, st2.2.1, (w64 (st2.2.2 - st2.2.1))))
      else
        some (.inr (st2.1, st2.2.1)) : Option (((List Int) × Int × Int) ⊕ (((List Int) × Int))))) (p_data, (w64 (p_m - p_a)), (w64 (p_b - p_m)))).bind fun o5 =>
  (g_swapRange o5.1 (w64 (p_m - o5.2)) p_m o5.2 cm).bind fun r6 =>
  some r6

noncomputable def g_symMerge_step (again : (List Int) → Int → Int → Int → (Int → Int → Option Int) → Option ((List Int))) (p_data : List Int) (p_a : Int) (p_m : Int) (p_b : Int) (cm : Int → Int → Option Int) : Option ((List Int)) :=
  bif (decide ((w64 (p_m - p_a)) = 1)) then
    (loopE (fun (st2 : (List Int) × Int × Int) => (
        bif (decide (st2.2.1 < st2.2.2)) then
          bif decide (0 ≤ (w64 (shiftI .shr .u64 (IntKind.u64.wrap (w64 (st2.2.1 + st2.2.2))) 1))) && decide ((w64 (shiftI .shr .u64 (IntKind.u64.wrap (w64 (st2.2.1 + st2.2.2))) 1)) < (st2.1.length : Int)) then
            (st2.1[(Int.toNat (w64 (shiftI .shr .u64 (IntKind.u64.wrap (w64 (st2.2.1 + st2.2.2))) 1)))]?).bind fun e3 =>
            bif decide (0 ≤ p_a) && decide (p_a < (st2.1.length : Int)) then
              (st2.1[(Int.toNat p_a)]?).bind fun e4 =>
              (cm e3 e4).bind fun r5 =>
              bif (decide (r5 < 0)) then
                some (.inl (st2.1, (w64 ((w64 (shiftI .shr .u64 (IntKind.u64.wrap (w64 (st2.2.1 + st2.2.2))) 1)) + 1)), st2.2.2))
              else
                some (.inl (st2.1, st2.2.1, (w64 (shiftI .shr .u64 (IntKind.u64.wrap (w64 (st2.2.1 + st2.2.2))) 1))))
            else
              none
          else
            none
        else
          some (.inr (st2.1, st2.2.1)) : Option (((List Int) × Int × Int) ⊕ (((List Int) × Int))))) (p_data, p_m, p_b)).bind fun o6 =>
    (loopE (fun (st8 : (List Int) × Int) => (
        bif (decide (st8.2 < (w64 (o6.2 - 1)))) then
          bif decide (0 ≤ (w64 (st8.2 + 1))) && decide ((w64 (st8.2 + 1)) < (st8.1.length : Int)) then
            (st8.1[(Int.toNat (w64 (st8.2 + 1)))]?).bind fun e9 =>
            bif decide (0 ≤ st8.2) && decide (st8.2 < (st8.1.length : Int)) then
              (st8.1[(Int.toNat st8.2)]?).bind fun e10 =>
              bif decide (0 ≤ st8.2) && decide (st8.2 < (st8.1.length : Int)) then
                bif decide (0 ≤ (w64 (st8.2 + 1))) && decide ((w64 (st8.2 + 1)) < ((st8.1.set (Int.toNat st8.2) e9).length : Int)) then
                  some (.inl (((st8.1.set (Int.toNat st8.2) e9).set (Int.toNat (w64 (st8.2 + 1))) e10), (w64 (st8.2 + 1))))
                else
                  none
              else
                none
            else
              none
          else
            none
        else
          some (.inr st8.1) : Option (((List Int) × Int) ⊕ ((List Int))))) (o6.1, p_a)).bind fun o11 =>
    some o11
  else
    bif (decide ((w64 (p_b - p_m)) = 1)) then
      (loopE (fun (st13 : (List Int) × Int × Int) => (
          bif (decide (st13.2.1 < st13.2.2)) then
            bif decide (0 ≤ p_m) && decide (p_m < (st13.1.length : Int)) then
              (st13.1[(Int.toNat p_m)]?).bind fun e14 =>
              bif decide (0 ≤ (w64 (shiftI .shr .u64 (IntKind.u64.wrap (w64 (st13.2.1 + st13.2.2))) 1))) && decide ((w64 (shiftI .shr .u64 (IntKind.u64.wrap (w64 (st13.2.1 + st13.2.2))) 1)) < (st13.1.length : Int)) then
                (st13.1[(Int.toNat (w64 (shiftI .shr .u64 (IntKind.u64.wrap (w64 (st13.2.1 + st13.2.2))) 1)))]?).bind fun e15 =>
                (cm e14 e15).bind fun r16 =>
                bif (!(decide (r16 < 0))) then
                  some (.inl (st13.1, (w64 ((w64 (shiftI .shr .u64 (IntKind.u64.wrap (w64 (st13.2.1 + st13.2.2))) 1)) + 1)), st13.2.2))
                else
                  some (.inl (st13.1, st13.2.1, (w64 (shiftI .shr .u64 (IntKind.u64.wrap (w64 (st13.2.1 + st13.2.2))) 1))))
              else
                none
            else
              none
          else
            some (.inr (st13.1, st13.2.1)) : Option (((List Int) × Int × Int) ⊕ (((List Int) × Int))))) (p_data, p_a, p_m)).bind fun o17 =>
      (loopE (fun (st19 : (List Int) × Int) => (
          bif (decide (o17.2 < st19.2)) then
            bif decide (0 ≤ (w64 (st19.2 - 1))) && decide ((w64 (st19.2 - 1)) < (st19.1.length : Int)) then
              (st19.1[(Int.toNat (w64 (st19.2 - 1)))]?).bind fun e20 =>
              bif decide (0 ≤ st19.2) && decide (st19.2 < (st19.1.length : Int)) then
                (st19.1[(Int.toNat st19.2)]?).bind fun e21 =>
                bif decide (0 ≤ st19.2) && decide (st19.2 < (st19.1.length : Int)) then
                  bif decide (0 ≤ (w64 (st19.2 - 1))) && decide ((w64 (st19.2 - 1)) < ((st19.1.set (Int.toNat st19.2) e20).length : Int)) then
                    some (.inl (((st19.1.set (Int.toNat st19.2) e20).set (Int.toNat (w64 (st19.2 - 1))) e21), (w64 (st19.2 - 1))))
                  else
                    none
                else
                  none
              else
                none
            else
              none
          else
            some (.inr st19.1) : Option (((List Int) × Int) ⊕ ((List Int))))) (o17.1, p_m)).bind fun o22 =>
      some o22
    else
      (bif (decide ((w64 (shiftI .shr .u64 (IntKind.u64.wrap (w64 (p_a + p_b))) 1)) < p_m)) then
          some (p_data, (w64 ((w64 ((w64 (shiftI .shr .u64 (IntKind.u64.wrap (w64 (p_a + p_b))) 1)) + p_m)) - p_b)), (w64 (shiftI .shr .u64 (IntKind.u64.wrap (w64 (p_a + p_b))) 1)))
        else
          some (p_data, p_a, p_m)).bind fun j23 =>
      (loopE (fun (st25 : (List Int) × Int × Int) => (
          bif (decide (st25.2.1 < st25.2.2)) then
            bif decide (0 ≤ (w64 ((w64 ((w64 ((w64 (shiftI .shr .u64 (IntKind.u64.wrap (w64 (p_a + p_b))) 1)) + p_m)) - 1)) - (w64 (shiftI .shr .u64 (IntKind.u64.wrap (w64 (st25.2.1 + st25.2.2))) 1))))) && decide ((w64 ((w64 ((w64 ((w64 (shiftI .shr .u64 (IntKind.u64.wrap (w64 (p_a + p_b))) 1)) + p_m)) - 1)) - (w64 (shiftI .shr .u64 (IntKind.u64.wrap (w64 (st25.2.1 + st25.2.2))) 1)))) < (st25.1.length : Int)) then
              (st25.1[(Int.toNat (w64 ((w64 ((w64 ((w64 (shiftI .shr .u64 (IntKind.u64.wrap (w64 (p_a + p_b))) 1)) + p_m)) - 1)) - (w64 (shiftI .shr .u64 (IntKind.u64.wrap (w64 (st25.2.1 + st25.2.2))) 1)))))]?).bind fun e26 =>
              bif decide (0 ≤ (w64 (shiftI .shr .u64 (IntKind.u64.wrap (w64 (st25.2.1 + st25.2.2))) 1))) && decide ((w64 (shiftI .shr .u64 (IntKind.u64.wrap (w64 (st25.2.1 + st25.2.2))) 1)) < (st25.1.length : Int)) then
                (st25.1[(Int.toNat (w64 (shiftI .shr .u64 (IntKind.u64.wrap (w64 (st25.2.1 + st25.2.2))) 1)))]?).bind fun e27 =>
                (cm e26 e27).bind fun r28 =>
                bif (!(decide (r28 < 0))) then
                  some (.inl (st25.1, (w64 ((w64 (shiftI .shr .u64 (IntKind.u64.wrap (w64 (st25.2.1 + st25.2.2))) 1)) + 1)), st25.2.2))
                else
                  some (.inl (st25.1, st25.2.1, (w64 (shiftI .shr .u64 (IntKind.u64.wrap (w64 (st25.2.1 + st25.2.2))) 1))))
              else
                none
            else
              none
          else
            some (.inr (st25.1, st25.2.1)) : Option (((List Int) × Int × Int) ⊕ (((List Int) × Int))))) (j23.1, j23.2.1, j23.2.2)).bind fun o29 =>
      (bif (decide (o29.2 < p_m)) then
          some (decide (p_m < (w64 ((w64 ((w64 (shiftI .shr .u64 (IntKind.u64.wrap (w64 (p_a + p_b))) 1)) + p_m)) - o29.2))))
        else
          some false).bind fun c30 =>
      bif c30 then
        (g_rotate o29.1 o29.2 p_m (w64 ((w64 ((w64 (shiftI .shr .u64 (IntKind.u64.wrap (w64 (p_a + p_b))) 1)) + p_m)) - o29.2)) cm).bind fun r31 =>
        (bif (decide (p_a < o29.2)) then
            some (decide (o29.2 < (w64 (shiftI .shr .u64 (IntKind.u64.wrap (w64 (p_a + p_b))) 1))))
          else
            some false).bind fun c32 =>
        bif c32 then
          (again r31 p_a o29.2 (w64 (shiftI .shr .u64 (IntKind.u64.wrap (w64 (p_a + p_b))) 1)) cm).bind fun r33 =>
          (bif (decide ((w64 (shiftI .shr .u64 (IntKind.u64.wrap (w64 (p_a + p_b))) 1)) < (w64 ((w64 ((w64 (shiftI .shr .u64 (IntKind.u64.wrap (w64 (p_a + p_b))) 1)) + p_m)) - o29.2)))) then
              some (decide ((w64 ((w64 ((w64 (shiftI .shr .u64 (IntKind.u64.wrap (w64 (p_a + p_b))) 1)) + p_m)) - o29.2)) < p_b))
            else
              some false).bind fun c34 =>
          bif c34 then
            (again r33 (w64 (shiftI .shr .u64 (IntKind.u64.wrap (w64 (p_a + p_b))) 1)) (w64 ((w64 ((w64 (shiftI .shr .u64 (IntKind.u64.wrap (w64 (p_a + p_b))) 1)) + p_m)) - o29.2)) p_b cm).bind fun r35 =>
            some r35
          else
            some r33
        else
          (bif (decide ((w64 (shiftI .shr .u64 (IntKind.u64.wrap (w64 (p_a + p_b))) 1)) < (w64 ((w64 ((w64 (shiftI .shr .u64 (IntKind.u64.wrap (w64 (p_a + p_b))) 1)) + p_m)) - o29.2)))) then
              some (decide ((w64 ((w64 ((w64 (shiftI .shr .u64 (IntKind.u64.wrap (w64 (p_a + p_b))) 1)) + p_m)) - o29.2)) < p_b))
            else
              some false).bind fun c36 =>
          bif c36 then
            (again r31 (w64 (shiftI .shr .u64 (IntKind.u64.wrap (w64 (p_a + p_b))) 1)) (w64 ((w64 ((w64 (shiftI .shr .u64 (IntKind.u64.wrap (w64 (p_a + p_b))) 1)) + p_m)) - o29.2)) p_b cm).bind fun r37 =>
            some r37
          else
            some r31
      else
        (bif (decide (p_a < o29.2)) then
            some (decide (o29.2 < (w64 (shiftI .shr .u64 (IntKind.u64.wrap (w64 (p_a + p_b))) 1))))
          else
            some false).bind fun c38 =>
        bif c38 then
          (again o29.1 p_a o29.2 (w64 (shiftI .shr .u64 (IntKind.u64.wrap (w64 (p_a + p_b))) 1)) cm).bind fun r39 =>
          (bif (decide ((w64 (shiftI .shr .u64 (IntKind.u64.wrap (w64 (p_a + p_b))) 1)) < (w64 ((w64 ((w64 (shiftI .shr .u64 (IntKind.u64.wrap (w64 (p_a + p_b))) 1)) + p_m)) - o29.2)))) then
              some (decide ((w64 ((w64 ((w64 (shiftI .shr .u64 (IntKind.u64.wrap (w64 (p_a + p_b))) 1)) + p_m)) - o29.2)) < p_b))
            else
              some false).bind fun c40 =>
          bif c40 then
            (again r39 (w64 (shiftI .shr .u64 (IntKind.u64.wrap (w64 (p_a + p_b))) 1)) (w64 ((w64 ((w64 (shiftI .shr .u64 (IntKind.u64.wrap (w64 (p_a + p_b))) 1)) + p_m)) - o29.2)) p_b cm).bind fun r41 =>
            some r41
          else
            some r39
        else
          (bif (decide ((w64 (shiftI .shr .u64 (IntKind.u64.wrap (w64 (p_a + p_b))) 1)) < (w64 ((w64 ((w64 (shiftI .shr .u64 (IntKind.u64.wrap (w64 (p_a + p_b))) 1)) + p_m)) - o29.2)))) then
              some (decide ((w64 ((w64 ((w64 (shiftI .shr .u64 (IntKind.u64.wrap (w64 (p_a + p_b))) 1)) + p_m)) - o29.2)) < p_b))
            else
              some false).bind fun c42 =>
          bif c42 then
            (again o29.1 (w64 (shiftI .shr .u64 (IntKind.u64.wrap (w64 (p_a + p_b))) 1)) (w64 ((w64 ((w64 (shiftI .shr .u64 (IntKind.u64.wrap (w64 (p_a + p_b))) 1)) + p_m)) - o29.2)) p_b cm).bind fun r43 =>
            some r43
          else
            some o29.1
noncomputable def g_symMerge_it : Nat → (List Int) → Int → Int → Int → (Int → Int → Option Int) → Option ((List Int))
  | 0, _, _, _, _, _ => none
  | k + 1, p_data, p_a, p_m, p_b, cm => g_symMerge_step (g_symMerge_it k) p_data p_a p_m p_b cm
noncomputable def g_symMerge (p_data : List Int) (p_a : Int) (p_m : Int) (p_b : Int) (cm : Int → Int → Option Int) : Option ((List Int)) := limE fun k => g_symMerge_it k p_data p_a p_m p_b cm

noncomputable def g_stable (p_data : List Int) (p_n : Int) (cm : Int → Int → Option Int) : Option ((List Int)) :=
  (loopE (fun (st2 : (List Int) × Int × Int) => (
      bif (decide (st2.2.2 ≤ p_n)) then
        (g_insertionSort st2.1 st2.2.1 st2.2.2 cm).bind fun r3 =>
        some (.inl (r3, st2.2.2, (w64 (st2.2.2 + 20))))
      else
        some (.inr (st2.1, st2.2.1)) : Option (((List Int) × Int × Int) ⊕ (((List Int) × Int))))) (p_data, 0, 20)).bind fun o4 =>
  (g_insertionSort o4.1 o4.2 p_n cm).bind fun r5 =>
  (loopE (fun (st7 : (List Int) × Int) => (
      bif (decide (st7.2 < p_n)) then
        (loopE (fun (st9 : (List Int) × Int × Int) => (
            bif (decide (st9.2.2 ≤ p_n)) then
              (g_symMerge st9.1 st9.2.1 (w64 (st9.2.1 + st7.2)) st9.2.2 cm).bind fun r10 =>
              some (.inl (r10, st9.2.2, (w64 (st9.2.2 + (w64 (2 * st7.2))))))
            else
              some (.inr (st9.1, st9.2.1)) : Option (((List Int) × Int × Int) ⊕ (((List Int) × Int))))) (st7.1, 0, (w64 (2 * st7.2)))).bind fun o11 =>
        bif (decide ((w64 (o11.2 + st7.2)) < p_n)) then
          (g_symMerge o11.1 o11.2 (w64 (o11.2 + st7.2)) p_n cm).bind fun r12 =>
          some (.inl (r12, (w64 (st7.2 * 2))))
        else
          some (.inl (o11.1, (w64 (st7.2 * 2))))
      else
        some (.inr st7.1) : Option (((List Int) × Int) ⊕ ((List Int))))) (r5, 20)).bind fun o13 =>
  some o13

noncomputable def g_SortStable (p_x : List Int) (cm : Int → Int → Option Int) : Option ((List Int)) :=
  (g_stable p_x (p_x.length : Int) cm).bind fun r1 =>
  some r1

section
variable {cm : Int → Int → Option Int} {lt : Int → Int → Prop}

/-- how an earlier element stands to a later one -/
def Rq (cm : Int → Int → Option Int) (lt : Int → Int → Prop) (a x : Int) : Prop := (∃ c, cm x a = some c ∧ (c < 0 ↔ lt x a)) ∧ (¬ lt x a → lt a x)
structure Ordr (lt : Int → Int → Prop) : Prop where
  trans : ∀ {x y z}, lt x y → lt y z → lt x z
  irr : ∀ x, ¬ lt x x

theorem cmp_of {a x : Int} (h : Rq cm lt a x) : ∃ c, cm x a = some c ∧ ((decide (c < 0) = true ∧ lt x a) ∨ (decide (c < 0) = false ∧ lt a x)) := by
  obtain ⟨⟨c, h1, h2⟩, h3⟩ := h
  refine ⟨c, h1, ?_⟩
  by_cases hc : c < 0
  · exact .inl ⟨decide_eq_true hc, h2.1 hc⟩
  · exact .inr ⟨decide_eq_false hc, h3 fun h => hc (h2.2 h)⟩

theorem get_at {A B : List Int} {x i : Int} (h : i = (A.length : Int)) : (A ++ x :: B)[Int.toNat i]? = some x := by
  subst h
  rw [Int.toNat_natCast, List.getElem?_append_right (Nat.le_refl _)]
  simp
theorem set_at {A B : List Int} {x y i : Int} (h : i = (A.length : Int)) : (A ++ x :: B).set (Int.toNat i) y = A ++ y :: B := by
  subst h
  rw [Int.toNat_natCast, List.set_append_right _ _ (Nat.le_refl _)]
  simp
theorem in_rng {i n : Int} (h : 0 ≤ i) (k : i < n) : (decide (0 ≤ i) && decide (i < n)) = true := by
  rw [decide_eq_true h, decide_eq_true k]; rfl

/-! a number moves left to its place -/

theorem ins_inner (O : Ordr lt) (P T : List Int) (x : Int) : ∀ (n : Nat) (A : List Int), A.length = n → A.Pairwise lt → (∀ a ∈ A, Rq cm lt a x) → (P ++ A ++ x :: T).length ≤ 1000000 →
    ∃ A1 A2, A = A1 ++ A2 ∧ (∀ a ∈ A1, lt a x) ∧ (∀ a ∈ A2, lt x a) ∧ loopE (fun (st4 : (List Int) × Int) => (
            (bif (decide ((P.length : Int) < st4.2)) then
                bif decide (0 ≤ st4.2) && decide (st4.2 < (st4.1.length : Int)) then
                  (st4.1[(Int.toNat st4.2)]?).bind fun e5 =>
                  bif decide (0 ≤ (w64 (st4.2 - 1))) && decide ((w64 (st4.2 - 1)) < (st4.1.length : Int)) then
                    (st4.1[(Int.toNat (w64 (st4.2 - 1)))]?).bind fun e6 =>
                    (cm e5 e6).bind fun r7 =>
                    some (decide (r7 < 0))
                  else
                    none
                else
                  none
              else
                some false).bind fun c8 =>
            bif c8 then
              bif decide (0 ≤ (w64 (st4.2 - 1))) && decide ((w64 (st4.2 - 1)) < (st4.1.length : Int)) then
                (st4.1[(Int.toNat (w64 (st4.2 - 1)))]?).bind fun e9 =>
                bif decide (0 ≤ st4.2) && decide (st4.2 < (st4.1.length : Int)) then
                  (st4.1[(Int.toNat st4.2)]?).bind fun e10 =>
                  bif decide (0 ≤ st4.2) && decide (st4.2 < (st4.1.length : Int)) then
                    bif decide (0 ≤ (w64 (st4.2 - 1))) && decide ((w64 (st4.2 - 1)) < ((st4.1.set (Int.toNat st4.2) e9).length : Int)) then
                      some (.inl (((st4.1.set (Int.toNat st4.2) e9).set (Int.toNat (w64 (st4.2 - 1))) e10), (w64 (st4.2 - 1))))
                    else
                      none
                  else
                    none
                else
                  none
              else
                none
            else
              some (.inr st4.1) : Option (((List Int) × Int) ⊕ ((List Int))))) (P ++ A ++ x :: T, ((P.length + A.length : Nat) : Int)) = some (P ++ (A1 ++ x :: A2) ++ T)
  | 0, A, hn, _, _, _ => by
    obtain rfl := List.eq_nil_of_length_eq_zero hn
    refine ⟨[], [], rfl, (fun _ h => by cases h), (fun _ h => by cases h), loopE_done ?_⟩
    simp only [List.length_nil, Nat.add_zero]
    rw [decide_eq_false (Int.lt_irrefl _)]
    simp
  | n + 1, A, hn, hs, hr, hl => by
    rcases List.eq_nil_or_concat A with rfl | ⟨A', y, rfl⟩
    · cases hn
    rw [List.concat_eq_append] at *
    have hn' : A'.length = n := by simpa using hn
    rw [List.pairwise_append] at hs
    have hl' : P.length + (A'.length + 1 + (T.length + 1)) ≤ 1000000 := by simp only [List.length_append, List.length_cons, List.length_nil] at hl; omega
    obtain ⟨c, hc, hcase⟩ := cmp_of (hr y (by simp))
    have e1 : P ++ (A' ++ [y]) ++ x :: T = (P ++ A') ++ y :: x :: T := by simp
    have e1' : P ++ (A' ++ [y]) ++ x :: T = (P ++ A' ++ [y]) ++ x :: T := by simp
    have ej : ((P.length + (A' ++ [y]).length : Nat) : Int) = ((P ++ A' ++ [y]).length : Int) := by simp
    have ej1 : w64 (((P.length + (A' ++ [y]).length : Nat) : Int) - 1) = ((P ++ A').length : Int) := by
      rw [w64_of] <;> simp <;> omega
    have r1 : (decide (0 ≤ (((P.length + (A' ++ [y]).length : Nat)) : Int)) && decide ((((P.length + (A' ++ [y]).length : Nat)) : Int) < ((P ++ (A' ++ [y]) ++ x :: T).length : Int))) = true := in_rng (by omega) (by simp; omega)
    have r2 : (decide (0 ≤ ((P ++ A').length : Int)) && decide (((P ++ A').length : Int) < ((P ++ (A' ++ [y]) ++ x :: T).length : Int))) = true := in_rng (by omega) (by simp; omega)
    have g1 : (P ++ (A' ++ [y]) ++ x :: T)[Int.toNat ((P.length + (A' ++ [y]).length : Nat) : Int)]? = some x := by rw [e1']; exact get_at ej
    have g2 : (P ++ (A' ++ [y]) ++ x :: T)[Int.toNat ((P ++ A').length : Int)]? = some y := by rw [e1]; exact get_at rfl
    have hlt : decide ((P.length : Int) < ((P.length + (A' ++ [y]).length : Nat) : Int)) = true := decide_eq_true (by simp; omega)
    rcases hcase with ⟨hd, hxy⟩ | ⟨hd, hyx⟩
    · obtain ⟨A1, A2, e, h1, h2, h3⟩ := ins_inner O P (y :: T) x n A' hn' hs.1 (fun a ha => hr a (by simp [ha])) (by simp; omega)
      refine ⟨A1, A2 ++ [y], by rw [e]; simp, h1, fun a ha => ?_, ?_⟩
      · rcases List.mem_append.1 ha with ha | ha
        · exact h2 a ha
        · simp at ha; subst ha; exact hxy
      · rw [loopE_step (a' := (P ++ A' ++ x :: y :: T, ((P.length + A'.length : Nat) : Int)))]
        · rw [h3]; simp
        · simp only [hlt, cond_true, r1, g1, Option.bind_some, ej1, r2, g2, hc, hd, List.length_set]
          rw [e1', set_at ej, show (P ++ A' ++ [y]) ++ y :: T = (P ++ A') ++ y :: y :: T by simp, set_at rfl]
          simp
    · refine ⟨A' ++ [y], [], by simp, fun a ha => ?_, (fun _ h => by cases h), loopE_done ?_⟩
      · rcases List.mem_append.1 ha with ha | ha
        · exact O.trans (hs.2.2 a ha y (by simp)) hyx
        · simp at ha; subst ha; exact hyx
      · simp only [hlt, cond_true, r1, g1, Option.bind_some, ej1, r2, g2, hc, hd, cond_false]
        simp

theorem ins_outer (O : Ordr lt) (P S : List Int) (b : Int) {f : (List Int) × Int → Option (((List Int) × Int) ⊕ ((List Int)))}
    (hf : ∀ (st2 : (List Int) × Int), f st2 = bif (decide (st2.2 < b)) then
        (loopE (fun (st4 : (List Int) × Int) => (
            (bif (decide ((P.length : Int) < st4.2)) then
                bif decide (0 ≤ st4.2) && decide (st4.2 < (st4.1.length : Int)) then
                  (st4.1[(Int.toNat st4.2)]?).bind fun e5 =>
                  bif decide (0 ≤ (w64 (st4.2 - 1))) && decide ((w64 (st4.2 - 1)) < (st4.1.length : Int)) then
                    (st4.1[(Int.toNat (w64 (st4.2 - 1)))]?).bind fun e6 =>
                    (cm e5 e6).bind fun r7 =>
                    some (decide (r7 < 0))
                  else
                    none
                else
                  none
              else
                some false).bind fun c8 =>
            bif c8 then
              bif decide (0 ≤ (w64 (st4.2 - 1))) && decide ((w64 (st4.2 - 1)) < (st4.1.length : Int)) then
                (st4.1[(Int.toNat (w64 (st4.2 - 1)))]?).bind fun e9 =>
                bif decide (0 ≤ st4.2) && decide (st4.2 < (st4.1.length : Int)) then
                  (st4.1[(Int.toNat st4.2)]?).bind fun e10 =>
                  bif decide (0 ≤ st4.2) && decide (st4.2 < (st4.1.length : Int)) then
                    bif decide (0 ≤ (w64 (st4.2 - 1))) && decide ((w64 (st4.2 - 1)) < ((st4.1.set (Int.toNat st4.2) e9).length : Int)) then
                      some (.inl (((st4.1.set (Int.toNat st4.2) e9).set (Int.toNat (w64 (st4.2 - 1))) e10), (w64 (st4.2 - 1))))
                    else
                      none
                  else
                    none
                else
                  none
              else
                none
            else
              some (.inr st4.1) : Option (((List Int) × Int) ⊕ ((List Int))))) (st2.1, st2.2)).bind fun o11 =>
        some (.inl (o11, (w64 (st2.2 + 1))))
      else
        some (.inr st2.1)) : ∀ (D A : List Int), A.Pairwise lt → D.Pairwise (Rq cm lt) → (∀ a ∈ A, ∀ d ∈ D, Rq cm lt a d) → (P ++ A ++ D ++ S).length ≤ 1000000 → b = ((P.length + A.length + D.length : Nat) : Int) →
    ∃ C, C.Perm (A ++ D) ∧ C.Pairwise lt ∧ loopE f (P ++ A ++ D ++ S, ((P.length + A.length : Nat) : Int)) = some (P ++ C ++ S)
  | [], A, hA, _, _, hl, hb => ⟨A, by simp, hA, by
      refine (loopE_done (b := P ++ A ++ S) ?_).trans rfl
      rw [hf]
      simp only [hb, List.length_nil, Nat.add_zero]
      rw [decide_eq_false (Int.lt_irrefl _)]
      simp⟩
  | x :: D, A, hA, hD, hAD, hl, hb => by
    rw [List.pairwise_cons] at hD
    have hl' : P.length + A.length + (D.length + 1) + S.length ≤ 1000000 := by simp only [List.length_append, List.length_cons] at hl; omega
    obtain ⟨A1, A2, e, h1, h2, h3⟩ := ins_inner O P (D ++ S) x A.length A rfl hA (fun a ha => hAD a ha x (by simp)) (by simp; omega)
    have hs' : (A1 ++ x :: A2).Pairwise lt := by
      rw [e, List.pairwise_append] at hA
      rw [List.pairwise_append, List.pairwise_cons]
      refine ⟨hA.1, ⟨h2, hA.2.1⟩, fun a ha y hy => ?_⟩
      rcases List.mem_cons.1 hy with rfl | hy
      · exact h1 a ha
      · exact hA.2.2 a ha y hy
    have hlen : (A1 ++ x :: A2).length = A.length + 1 := by rw [e]; simp; omega
    obtain ⟨C, c1, c2, c3⟩ := ins_outer O P S b hf D (A1 ++ x :: A2) hs' hD.2 (fun a ha d hd => by
      rcases List.mem_append.1 ha with ha | ha
      · exact hAD a (by rw [e]; exact List.mem_append_left _ ha) d (by simp [hd])
      · rcases List.mem_cons.1 ha with rfl | ha
        · exact hD.1 d hd
        · exact hAD a (by rw [e]; exact List.mem_append_right _ ha) d (by simp [hd])) (by simp only [List.length_append] at hlen ⊢; omega) (by rw [hb, hlen, List.length_cons]; omega)
    refine ⟨C, c1.trans ?_, c2, ?_⟩
    · rw [e]
      simp only [List.append_assoc, List.cons_append]
      exact (List.Perm.refl A1).append ((List.perm_middle (a := x) (l₁ := A2) (l₂ := D)).symm)
    · rw [loopE_step (a' := (P ++ (A1 ++ x :: A2) ++ D ++ S, ((P.length + (A1 ++ x :: A2).length : Nat) : Int))), c3]
      rw [hf]
      simp only [hb, List.length_cons]
      rw [decide_eq_true (by omega)]
      simp only [cond_true]
      rw [show P ++ A ++ x :: D ++ S = P ++ A ++ x :: (D ++ S) by simp, h3]
      simp only [Option.bind_some, hlen]
      rw [w64_of (by omega) (by omega)]
      simp
      omega

/-- a stretch is sorted in its place -/
theorem ins_sort (O : Ordr lt) (P S D : List Int) (hD : D.Pairwise (Rq cm lt)) (hl : (P ++ D ++ S).length ≤ 1000000) :
    ∃ C, C.Perm D ∧ C.Pairwise lt ∧ g_insertionSort (P ++ D ++ S) P.length ((P.length + D.length : Nat) : Int) cm = some (P ++ C ++ S) := by
  have hl' : P.length + D.length + S.length ≤ 1000000 := by simp only [List.length_append] at hl; omega
  unfold g_insertionSort
  rw [w64_of (by omega) (by omega)]
  cases D with
  | nil =>
    refine ⟨[], .refl _, .nil, ?_⟩
    rw [loopE_done (b := P ++ [] ++ S)]
    · rfl
    · simp only [List.length_nil, Nat.add_zero]
      rw [decide_eq_false (by omega)]
      rfl
  | cons d D =>
    rw [List.pairwise_cons] at hD
    obtain ⟨C, c1, c2, c3⟩ := ins_outer (cm := cm) O P S ((P.length + (d :: D).length : Nat) : Int) (fun st2 => rfl) D [d] (List.pairwise_singleton _ _) hD.2 (fun a ha x hx => by simp at ha; subst ha; exact hD.1 x hx) (by simpa using hl) (by simp; omega)
    refine ⟨C, c1, c2, ?_⟩
    rw [show P ++ d :: D ++ S = P ++ [d] ++ D ++ S by simp]
    have e : ((P.length : Nat) : Int) + 1 = ((P.length + [d].length : Nat) : Int) := by simp
    rw [e]
    exact (congrArg (fun z => z.bind fun o12 => some o12) c3).trans rfl
end
end Go.Ab
