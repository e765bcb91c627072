/-
  Sorting by a comparison: stretches change places, stretches are turned round.
-/
import Derived.Test.YtlhplhjibadplaaXSort
namespace Go.Ab
open Go

section
variable {cm : Int → Int → Option Int}

theorem swap_loop (S : List Int) (a b : Int) (n : Nat) (hnl : n ≤ 1000000) {f : (List Int) × Int → Option (((List Int) × Int) ⊕ ((List Int)))}
    (hf : ∀ (st2 : (List Int) × Int), f st2 = bif (decide (st2.2 < (n : Int))) then
        bif decide (0 ≤ (w64 (b + st2.2))) && decide ((w64 (b + st2.2)) < (st2.1.length : Int)) then
          (st2.1[(Int.toNat (w64 (b + st2.2)))]?).bind fun e3 =>
          bif decide (0 ≤ (w64 (a + st2.2))) && decide ((w64 (a + st2.2)) < (st2.1.length : Int)) then
            (st2.1[(Int.toNat (w64 (a + st2.2)))]?).bind fun e4 =>
            bif decide (0 ≤ (w64 (a + st2.2))) && decide ((w64 (a + st2.2)) < (st2.1.length : Int)) then
              bif decide (0 ≤ (w64 (b + st2.2))) && decide ((w64 (b + st2.2)) < ((st2.1.set (Int.toNat (w64 (a + st2.2))) e3).length : Int)) then
                some (.inl (((st2.1.set (Int.toNat (w64 (a + st2.2))) e3).set (Int.toNat (w64 (b + st2.2))) e4), (w64 (st2.2 + 1))))
              else
                none
            else
              none
          else
            none
        else
          none
      else
        some (.inr st2.1)) : ∀ (X Y A C : List Int) (i : Nat), X.length = Y.length → a + i = (A.length : Int) → b + i = ((A ++ X ++ C).length : Int) → n = i + X.length → (A ++ X ++ C ++ Y ++ S).length ≤ 1000000 →
    loopE f (A ++ X ++ C ++ Y ++ S, (i : Int)) = some (A ++ Y ++ C ++ X ++ S)
  | [], Y, A, C, i, hxy, _, _, hn, _ => by
    obtain rfl : Y = [] := List.eq_nil_of_length_eq_zero hxy.symm
    refine loopE_done ?_
    rw [hf]
    simp only
    rw [decide_eq_false (by simp at hn; omega)]
    rfl
  | x :: X, [], _, _, _, hxy, _, _, _, _ => by cases hxy
  | x :: X, y :: Y, A, C, i, hxy, ha, hb, hn, hl => by
    have hl' : A.length + (X.length + 1) + C.length + (Y.length + 1) + S.length ≤ 1000000 := by simp only [List.length_append, List.length_cons] at hl; omega
    have hb' : b + i = ((A.length + (X.length + 1) + C.length : Nat) : Int) := by rw [hb]; simp only [List.length_append, List.length_cons]
    have hn' : n = i + (X.length + 1) := hn
    have ih := swap_loop S a b n hnl hf X Y (A ++ [y]) (C ++ [x]) (i + 1) (by simpa using hxy) (by simp; omega) (by simp only [List.length_append, List.length_cons, List.length_nil]; omega) (by omega) (by simp only [List.length_append, List.length_cons, List.length_nil]; omega)
    rw [loopE_step (a' := (A ++ [y] ++ X ++ (C ++ [x]) ++ Y ++ S, ((i + 1 : Nat) : Int)))]
    · rw [ih]; simp
    · rw [hf]
      simp only
      rw [decide_eq_true (by omega)]
      have wa : w64 (a + (i : Int)) = (A.length : Int) := by rw [ha, w64_of (by omega) (by omega)]
      have wb : w64 (b + (i : Int)) = ((A ++ y :: X ++ C).length : Int) := by rw [hb', w64_of (by omega) (by omega)]; simp only [List.length_append, List.length_cons]
      have wb2 : w64 (b + (i : Int)) = ((A ++ x :: X ++ C).length : Int) := by rw [hb', w64_of (by omega) (by omega)]; simp only [List.length_append, List.length_cons]
      have g1 : (A ++ x :: X ++ C ++ y :: Y ++ S)[Int.toNat (w64 (b + (i : Int)))]? = some y := by
        rw [show A ++ x :: X ++ C ++ y :: Y ++ S = (A ++ x :: X ++ C) ++ y :: (Y ++ S) by simp]; exact get_at wb2
      have g2 : (A ++ x :: X ++ C ++ y :: Y ++ S)[Int.toNat (w64 (a + (i : Int)))]? = some x := by
        rw [show A ++ x :: X ++ C ++ y :: Y ++ S = A ++ x :: (X ++ C ++ y :: Y ++ S) by simp]; exact get_at wa
      have r1 : (decide (0 ≤ w64 (b + (i : Int))) && decide (w64 (b + (i : Int)) < ((A ++ x :: X ++ C ++ y :: Y ++ S).length : Int))) = true := in_rng (by rw [wb]; omega) (by rw [wb]; simp only [List.length_append, List.length_cons]; omega)
      have r2 : (decide (0 ≤ w64 (a + (i : Int))) && decide (w64 (a + (i : Int)) < ((A ++ x :: X ++ C ++ y :: Y ++ S).length : Int))) = true := in_rng (by rw [wa]; omega) (by rw [wa]; simp only [List.length_append, List.length_cons]; omega)
      simp only [cond_true, r1, g1, Option.bind_some, r2, g2, List.length_set]
      have e1 : (A ++ x :: X ++ C ++ y :: Y ++ S).set (Int.toNat (w64 (a + (i : Int)))) y = (A ++ y :: X ++ C) ++ y :: (Y ++ S) := by
        rw [show A ++ x :: X ++ C ++ y :: Y ++ S = A ++ x :: (X ++ C ++ y :: Y ++ S) by simp, set_at wa]; simp
      rw [e1, set_at wb, w64_of (by omega) (by omega)]
      simp

theorem swap_eq {P X C Y S : List Int} (hxy : X.length = Y.length) {a b n : Int} (ha : a = (P.length : Int)) (hb : b = ((P.length + X.length + C.length : Nat) : Int)) (hn : n = (X.length : Int)) (hl : (P ++ X ++ C ++ Y ++ S).length ≤ 1000000) :
    g_swapRange (P ++ X ++ C ++ Y ++ S) a b n cm = some (P ++ Y ++ C ++ X ++ S) := by
  subst hn
  unfold g_swapRange
  have := swap_loop S a b X.length (by simp only [List.length_append] at hl; omega) (fun st2 => rfl) X Y P C 0 hxy (by omega) (by rw [hb]; simp; omega) (by omega) hl
  rw [show ((0 : Nat) : Int) = 0 from rfl] at this
  rw [this]
  rfl

theorem rot_loop (S0 : List Int) (m : Int) {f : (List Int) × Int × Int → Option (((List Int) × Int × Int) ⊕ (((List Int) × Int)))}
    (hf : ∀ (st2 : (List Int) × Int × Int), f st2 = bif (!decide (st2.2.1 = st2.2.2)) then
        bif (decide (st2.2.2 < st2.2.1)) then
          (g_swapRange st2.1 (w64 (m - st2.2.1)) m st2.2.2 cm).bind fun r3 =>
          some (.inl (r3, (w64 (st2.2.1 - st2.2.2)), st2.2.2))
        else
          (g_swapRange st2.1 (w64 (m - st2.2.1)) (w64 ((w64 (m + st2.2.2)) - st2.2.1)) st2.2.1 cm).bind fun r4 =>
          some (.inl (r4, st2.2.1, (w64 (st2.2.2 - st2.2.1))))
      else
        some (.inr (st2.1, st2.2.1))) : ∀ (k : Nat) (P X Y S : List Int), X.length + Y.length ≤ k → X ≠ [] → Y ≠ [] → m = ((P.length + X.length : Nat) : Int) → (P ++ X ++ Y ++ S).length ≤ 1000000 →
    ∃ L i, loopE f (P ++ X ++ Y ++ S, (X.length : Int), (Y.length : Int)) = some (L, i) ∧ g_swapRange L (w64 (m - i)) m i cm = some (P ++ Y ++ X ++ S)
  | 0, P, X, Y, S, hk, hx, _, _, _ => absurd (List.eq_nil_of_length_eq_zero (by omega)) hx
  | k + 1, P, X, Y, S, hk, hx, hy, hm, hl => by
    have hxp := List.length_pos_iff.2 hx
    have hyp := List.length_pos_iff.2 hy
    have hl' : P.length + X.length + Y.length + S.length ≤ 1000000 := by simp only [List.length_append] at hl; omega
    rcases Nat.lt_trichotomy X.length Y.length with h | h | h
    · -- the right stretch is longer
      obtain ⟨Y1, Y2, rfl, h2⟩ : ∃ Y1 Y2, Y = Y1 ++ Y2 ∧ Y2.length = X.length := ⟨Y.take (Y.length - X.length), Y.drop (Y.length - X.length), (List.take_append_drop _ _).symm, by simp; omega⟩
      simp only [List.length_append] at h hk hl' hyp
      have hsw : g_swapRange (P ++ X ++ (Y1 ++ Y2) ++ S) (w64 (m - (X.length : Int))) (w64 ((w64 (m + ((Y1 ++ Y2).length : Int))) - (X.length : Int))) (X.length : Int) cm = some (P ++ Y2 ++ Y1 ++ (X ++ S)) := by
        rw [show P ++ X ++ (Y1 ++ Y2) ++ S = P ++ X ++ Y1 ++ Y2 ++ S by simp, swap_eq h2.symm (by rw [hm, w64_of] <;> omega) (by rw [hm, w64_of (x := ((P.length + X.length : Nat) : Int) + ((Y1 ++ Y2).length : Int)) (by omega) (by simp; omega), w64_of] <;> simp <;> omega) rfl (by simp only [List.length_append]; omega)]
        simp
      obtain ⟨L, i, e1, e2⟩ := rot_loop S0 m hf k P Y2 Y1 (X ++ S) (by omega) (List.length_pos_iff.1 (by omega)) (List.length_pos_iff.1 (by omega)) (by rw [h2]; exact hm) (by simp only [List.length_append]; omega)
      refine ⟨L, i, ?_, by rw [e2]; simp⟩
      rw [loopE_step (a' := (P ++ Y2 ++ Y1 ++ (X ++ S), (Y2.length : Int), (Y1.length : Int))), e1]
      rw [hf]
      simp only
      rw [decide_eq_false (by simp; omega), decide_eq_false (by simp; omega), hsw]
      simp only [Bool.not_false, cond_true, cond_false, Option.bind_some]
      rw [w64_of (by simp; omega) (by simp; omega), h2]
      simp
      omega
    · refine ⟨_, _, loopE_done (b := (P ++ X ++ Y ++ S, (X.length : Int))) ?_, ?_⟩
      · rw [hf]
        simp only
        rw [decide_eq_true (by omega)]
        rfl
      · have := swap_eq (cm := cm) (P := P) (X := X) (C := []) (Y := Y) (S := S) h (a := w64 (m - (X.length : Int))) (b := m) (n := (X.length : Int)) (by rw [hm, w64_of] <;> omega) (by rw [hm]; simp) rfl (by simpa using hl)
        simpa using this
    · obtain ⟨X1, X2, rfl, h2⟩ : ∃ X1 X2, X = X1 ++ X2 ∧ X1.length = Y.length := ⟨X.take Y.length, X.drop Y.length, (List.take_append_drop _ _).symm, by simp; omega⟩
      simp only [List.length_append] at h hk hl' hxp
      have hm' : m = ((P.length + X1.length + X2.length : Nat) : Int) := by rw [hm]; simp; omega
      have hsw : g_swapRange (P ++ (X1 ++ X2) ++ Y ++ S) (w64 (m - ((X1 ++ X2).length : Int))) m (Y.length : Int) cm = some ((P ++ Y) ++ X2 ++ X1 ++ S) := by
        rw [show P ++ (X1 ++ X2) ++ Y ++ S = P ++ X1 ++ X2 ++ Y ++ S by simp, swap_eq h2 (by rw [hm', w64_of] <;> simp <;> omega) hm' (by omega) (by simp only [List.length_append]; omega)]
      obtain ⟨L, i, e1, e2⟩ := rot_loop S0 m hf k (P ++ Y) X2 X1 S (by omega) (List.length_pos_iff.1 (by omega)) (List.length_pos_iff.1 (by omega)) (by rw [hm', List.length_append]; omega) (by simp only [List.length_append]; omega)
      refine ⟨L, i, ?_, by rw [e2]; simp⟩
      rw [loopE_step (a' := (P ++ Y ++ X2 ++ X1 ++ S, (X2.length : Int), (X1.length : Int))), e1]
      rw [hf]
      simp only
      rw [decide_eq_false (by simp; omega), decide_eq_true (by simp; omega), hsw]
      simp only [Bool.not_false, cond_true, Option.bind_some]
      rw [w64_of (by simp; omega) (by simp; omega), h2]
      simp
      omega

/-- two stretches change places -/
theorem rot_eq {P X Y S : List Int} (hx : X ≠ []) (hy : Y ≠ []) {a m b : Int} (ha : a = (P.length : Int)) (hm : m = ((P.length + X.length : Nat) : Int)) (hb : b = ((P.length + X.length + Y.length : Nat) : Int)) (hl : (P ++ X ++ Y ++ S).length ≤ 1000000) :
    g_rotate (P ++ X ++ Y ++ S) a m b cm = some (P ++ Y ++ X ++ S) := by
  have hl' : P.length + X.length + Y.length + S.length ≤ 1000000 := by simp only [List.length_append] at hl; omega
  unfold g_rotate
  have wx : w64 (m - a) = (X.length : Int) := by rw [ha, hm, w64_of] <;> omega
  have wy : w64 (b - m) = (Y.length : Int) := by rw [hb, hm, w64_of] <;> omega
  rw [wx, wy]
  obtain ⟨L, i, e1, e2⟩ := rot_loop (cm := cm) [] m (fun st2 => rfl) (X.length + Y.length) P X Y S (Nat.le_refl _) hx hy hm hl
  rw [e1]
  simp only [Option.bind_some, e2]
end
end Go.Ab
