/-
  Sorting by a comparison: two sorted stretches are merged, equals kept in order.
-/
import Derived.Test.YtlhplhjibadplaaXSort2
namespace Go.Ab
open Go

theorem half_eq {x y : Nat} (h : x + y ≤ 10000000) : w64 (shiftI .shr .u64 (IntKind.u64.wrap (w64 ((x : Int) + (y : Int)))) 1) = (((x + y) / 2 : Nat) : Int) := by
  rw [w64_of (x := (x : Int) + (y : Int)) (by omega) (by omega)]
  have e : IntKind.u64.wrap ((x : Int) + (y : Int)) = ((x + y : Nat) : Int) := by
    unfold IntKind.wrap
    simp only [IntKind.signed, IntKind.bits]
    simp
    omega
  rw [e]
  have e2 : shiftI .shr .u64 ((x + y : Nat) : Int) 1 = (((x + y) / 2 : Nat) : Int) := by
    unfold shiftI
    simp only [IntKind.bits]
    rw [show (min (Int.toNat 1) 64) = 1 from rfl]
    rw [Int.fdiv_eq_ediv_of_nonneg _ (by decide)]
    omega
  rw [e2, w64_of (by omega) (by omega)]

section
variable {cm : Int → Int → Option Int} {lt : Int → Int → Prop}

theorem bs_loop {D : List Int} {f : List Int × Int × Int → Option ((List Int × Int × Int) ⊕ (List Int × Int))} (T : Nat → Bool) (lo hi : Nat)
    (hf : ∀ i j : Nat, lo ≤ i → i < j → j ≤ hi → f (D, (i : Int), (j : Int)) = some (.inl (bif T ((i + j) / 2) then (D, (((i + j) / 2 + 1 : Nat) : Int), (j : Int)) else (D, (i : Int), (((i + j) / 2 : Nat) : Int)))))
    (hend : ∀ i : Nat, f (D, (i : Int), (i : Int)) = some (.inr (D, (i : Int)))) : ∀ (k i j : Nat), j - i ≤ k → lo ≤ i → i ≤ j → j ≤ hi → (i = lo ∨ T (i - 1) = true) → (j = hi ∨ T j = false) →
    ∃ r : Nat, loopE f (D, (i : Int), (j : Int)) = some (D, (r : Int)) ∧ lo ≤ r ∧ r ≤ hi ∧ (r = lo ∨ T (r - 1) = true) ∧ (r = hi ∨ T r = false)
  | 0, i, j, hk, h1, h2, h3, h4, h5 => by
    obtain rfl : i = j := by omega
    exact ⟨i, loopE_done (hend i), h1, h3, h4, h5⟩
  | k + 1, i, j, hk, h1, h2, h3, h4, h5 => by
    by_cases hij : i = j
    · subst hij; exact ⟨i, loopE_done (hend i), h1, h3, h4, h5⟩
    · have hs := hf i j h1 (by omega) h3
      cases hT : T ((i + j) / 2) with
      | true =>
        rw [hT] at hs
        rw [loopE_step hs]
        exact bs_loop T lo hi hf hend k _ _ (by omega) (by omega) (by omega) h3 (.inr (by rw [Nat.add_sub_cancel]; exact hT)) h5
      | false =>
        rw [hT] at hs
        rw [loopE_step hs]
        exact bs_loop T lo hi hf hend k _ _ (by omega) h1 (by omega) (by omega) h4 (.inr hT)

theorem split_at (O : Ordr lt) {B : List Int} (hs : B.Pairwise lt) {x : Int} {q : Nat} (h1 : q = 0 ∨ ∃ y, B[q - 1]? = some y ∧ lt y x) (h2 : q = B.length ∨ ∃ y, B[q]? = some y ∧ lt x y) :
    (∀ z ∈ B.take q, lt z x) ∧ (∀ z ∈ B.drop q, lt x z) := by
  rw [List.pairwise_iff_getElem] at hs
  constructor
  · intro z hz
    obtain ⟨i, hi, rfl⟩ := List.getElem_of_mem hz
    rw [List.length_take] at hi
    rw [List.getElem_take]
    rcases h1 with rfl | ⟨y, hy, hl⟩
    · omega
    · obtain ⟨hq, rfl⟩ := List.getElem?_eq_some_iff.1 hy
      by_cases he : i = q - 1
      · subst he; exact hl
      · exact O.trans (hs i (q - 1) (by omega) hq (by omega)) hl
  · intro z hz
    obtain ⟨i, hi, rfl⟩ := List.getElem_of_mem hz
    rw [List.length_drop] at hi
    rw [List.getElem_drop]
    rcases h2 with rfl | ⟨y, hy, hl⟩
    · omega
    · obtain ⟨hq, rfl⟩ := List.getElem?_eq_some_iff.1 hy
      by_cases he : i = 0
      · subst he; exact hl
      · exact O.trans hl (hs q (q + i) hq (by omega) (by omega))

theorem shiftR_loop (S : List Int) (x : Int) (n : Int) {f : (List Int) × Int → Option (((List Int) × Int) ⊕ ((List Int)))}
    (hf : ∀ (st8 : (List Int) × Int), f st8 = bif (decide (st8.2 < n)) then
          bif decide (0 ≤ (w64 (st8.2 + 1))) && decide ((w64 (st8.2 + 1)) < (st8.1.length : Int)) then
            (st8.1[(Int.toNat (w64 (st8.2 + 1)))]?).bind fun e9 =>
            bif decide (0 ≤ st8.2) && decide (st8.2 < (st8.1.length : Int)) then
              (st8.1[(Int.toNat st8.2)]?).bind fun e10 =>
              bif decide (0 ≤ st8.2) && decide (st8.2 < (st8.1.length : Int)) then
                bif decide (0 ≤ (w64 (st8.2 + 1))) && decide ((w64 (st8.2 + 1)) < ((st8.1.set (Int.toNat st8.2) e9).length : Int)) then
                  some (.inl (((st8.1.set (Int.toNat st8.2) e9).set (Int.toNat (w64 (st8.2 + 1))) e10), (w64 (st8.2 + 1))))
                else
                  none
              else
                none
            else
              none
          else
            none
        else
          some (.inr st8.1)) : ∀ (B P : List Int), n = ((P.length + B.length : Nat) : Int) → (P ++ x :: B ++ S).length ≤ 1000000 → loopE f (P ++ x :: B ++ S, (P.length : Int)) = some (P ++ B ++ x :: S)
  | [], P, hn, _ => by
    rw [loopE_done (b := P ++ [x] ++ S)]
    · simp
    · rw [hf]
      simp only
      rw [decide_eq_false (by simp at hn; omega)]
      rfl
  | y :: B, P, hn, hl => by
    have hl' : P.length + (B.length + 1 + 1) + S.length ≤ 1000000 := by simp only [List.length_append, List.length_cons] at hl; omega
    have hn' : n = ((P.length + (B.length + 1) : Nat) : Int) := hn
    have ih := shiftR_loop S x n hf B (P ++ [y]) (by rw [hn']; simp; omega) (by simp only [List.length_append, List.length_cons, List.length_nil]; omega)
    have w1 : w64 ((P.length : Int) + 1) = ((P ++ [y]).length : Int) := by rw [w64_of (by omega) (by omega)]; simp
    have w2 : w64 ((P.length : Int) + 1) = ((P ++ [x]).length : Int) := by rw [w64_of (by omega) (by omega)]; simp
    rw [loopE_step (a' := (P ++ [y] ++ x :: B ++ S, ((P ++ [y]).length : Int)))]
    · rw [ih]; simp
    · rw [hf]
      simp only
      rw [decide_eq_true (by omega)]
      have r1 : (decide (0 ≤ w64 ((P.length : Int) + 1)) && decide (w64 ((P.length : Int) + 1) < ((P ++ x :: y :: B ++ S).length : Int))) = true := in_rng (by rw [w1]; omega) (by rw [w1]; simp only [List.length_append, List.length_cons, List.length_nil]; omega)
      have r2 : (decide (0 ≤ (P.length : Int)) && decide ((P.length : Int) < ((P ++ x :: y :: B ++ S).length : Int))) = true := in_rng (by omega) (by simp only [List.length_append, List.length_cons]; omega)
      have g1 : (P ++ x :: y :: B ++ S)[Int.toNat (w64 ((P.length : Int) + 1))]? = some y := by rw [show P ++ x :: y :: B ++ S = (P ++ [x]) ++ y :: (B ++ S) by simp]; exact get_at w2
      have g2 : (P ++ x :: y :: B ++ S)[Int.toNat (P.length : Int)]? = some x := by rw [show P ++ x :: y :: B ++ S = P ++ x :: (y :: B ++ S) by simp]; exact get_at rfl
      simp only [cond_true, r1, g1, Option.bind_some, r2, g2, List.length_set]
      rw [show P ++ x :: y :: B ++ S = P ++ x :: (y :: B ++ S) by simp, set_at rfl, show P ++ y :: (y :: B ++ S) = (P ++ [y]) ++ y :: (B ++ S) by simp, set_at w1, w1]
      simp

theorem shiftL_loop (P : List Int) (y : Int) {f : (List Int) × Int → Option (((List Int) × Int) ⊕ ((List Int)))}
    (hf : ∀ (st19 : (List Int) × Int), f st19 = bif (decide ((P.length : Int) < st19.2)) then
            bif decide (0 ≤ (w64 (st19.2 - 1))) && decide ((w64 (st19.2 - 1)) < (st19.1.length : Int)) then
              (st19.1[(Int.toNat (w64 (st19.2 - 1)))]?).bind fun e20 =>
              bif decide (0 ≤ st19.2) && decide (st19.2 < (st19.1.length : Int)) then
                (st19.1[(Int.toNat st19.2)]?).bind fun e21 =>
                bif decide (0 ≤ st19.2) && decide (st19.2 < (st19.1.length : Int)) then
                  bif decide (0 ≤ (w64 (st19.2 - 1))) && decide ((w64 (st19.2 - 1)) < ((st19.1.set (Int.toNat st19.2) e20).length : Int)) then
                    some (.inl (((st19.1.set (Int.toNat st19.2) e20).set (Int.toNat (w64 (st19.2 - 1))) e21), (w64 (st19.2 - 1))))
                  else
                    none
                else
                  none
              else
                none
            else
              none
          else
            some (.inr st19.1)) : ∀ (n : Nat) (A S : List Int), A.length = n → (P ++ A ++ y :: S).length ≤ 1000000 → loopE f (P ++ A ++ y :: S, ((P.length + A.length : Nat) : Int)) = some (P ++ y :: A ++ S)
  | 0, A, S, hn, _ => by
    obtain rfl := List.eq_nil_of_length_eq_zero hn
    rw [loopE_done (b := P ++ [] ++ y :: S)]
    · simp
    · rw [hf]
      simp only
      rw [decide_eq_false (by simp)]
      rfl
  | n + 1, A, S, hn, hl => by
    rcases List.eq_nil_or_concat A with rfl | ⟨A', x, rfl⟩
    · cases hn
    rw [List.concat_eq_append] at *
    have hn' : A'.length = n := by simpa using hn
    have hl' : P.length + (A'.length + 1) + (S.length + 1) ≤ 1000000 := by simp only [List.length_append, List.length_cons, List.length_nil] at hl; omega
    have ih := shiftL_loop P y hf n A' (x :: S) hn' (by simp only [List.length_append, List.length_cons]; omega)
    have w0 : ((P.length + (A' ++ [x]).length : Nat) : Int) = ((P ++ A' ++ [x]).length : Int) := by simp
    have w1 : w64 (((P.length + (A' ++ [x]).length : Nat) : Int) - 1) = ((P ++ A').length : Int) := by rw [w64_of] <;> simp <;> omega
    rw [loopE_step (a' := (P ++ A' ++ y :: x :: S, ((P.length + A'.length : Nat) : Int)))]
    · rw [ih]; simp
    · rw [hf]
      simp only
      rw [decide_eq_true (by simp; omega)]
      have r1 : (decide (0 ≤ w64 (((P.length + (A' ++ [x]).length : Nat) : Int) - 1)) && decide (w64 (((P.length + (A' ++ [x]).length : Nat) : Int) - 1) < ((P ++ (A' ++ [x]) ++ y :: S).length : Int))) = true := in_rng (by rw [w1]; omega) (by rw [w1]; simp only [List.length_append, List.length_cons, List.length_nil]; omega)
      have r2 : (decide (0 ≤ ((P.length + (A' ++ [x]).length : Nat) : Int)) && decide (((P.length + (A' ++ [x]).length : Nat) : Int) < ((P ++ (A' ++ [x]) ++ y :: S).length : Int))) = true := in_rng (by omega) (by simp only [List.length_append, List.length_cons]; omega)
      have g1 : (P ++ (A' ++ [x]) ++ y :: S)[Int.toNat (w64 (((P.length + (A' ++ [x]).length : Nat) : Int) - 1))]? = some x := by rw [show P ++ (A' ++ [x]) ++ y :: S = (P ++ A') ++ x :: (y :: S) by simp]; exact get_at w1
      have g2 : (P ++ (A' ++ [x]) ++ y :: S)[Int.toNat ((P.length + (A' ++ [x]).length : Nat) : Int)]? = some y := by rw [show P ++ (A' ++ [x]) ++ y :: S = (P ++ A' ++ [x]) ++ y :: S by simp]; exact get_at w0
      simp only [cond_true, r1, g1, Option.bind_some, r2, g2, List.length_set]
      rw [show P ++ (A' ++ [x]) ++ y :: S = (P ++ A' ++ [x]) ++ y :: S by simp, set_at w0, show P ++ A' ++ [x] ++ x :: S = (P ++ A') ++ x :: (x :: S) by simp, set_at w1, w1]
      simp
      
end
end Go.Ab
