/-
  Sorting by a comparison: what slices.SortStableFunc comes to at 40 elements at most.
-/
import Derived.Test.YtlhplhjibadplaaXSort6
namespace Go.Ab
open Go

section
variable {cm : Int → Int → Option Int} {lt : Int → Int → Prop}

theorem sorted_eq (O : Ordr lt) : ∀ {A B : List Int}, A.Perm B → A.Pairwise lt → B.Pairwise lt → A = B
  | [], B, p, _, _ => (List.nil_perm.1 p).symm
  | x :: A, [], p, _, _ => by have := p.length_eq; simp at this
  | x :: A, y :: B, p, hA, hB => by
    rw [List.pairwise_cons] at hA hB
    have hxy : x = y := by
      have h1 : x ∈ y :: B := p.mem_iff.1 (by simp)
      have h2 : y ∈ x :: A := p.mem_iff.2 (by simp)
      rcases List.mem_cons.1 h1 with h | h
      · exact h
      · rcases List.mem_cons.1 h2 with h' | h'
        · exact h'.symm
        · exact absurd (O.trans (hB.1 x h) (hA.1 y h')) (O.irr _)
    subst hxy
    rw [sorted_eq O (List.Perm.cons_inv p) hA.2 hB.2]

theorem sym_it (O : Ordr lt) : ∀ (k : Nat) (P A B S : List Int), A ≠ [] → B ≠ [] → A.Pairwise lt → B.Pairwise lt → (∀ a ∈ A, ∀ b ∈ B, Rq cm lt a b) → (P ++ A ++ B ++ S).length ≤ 1000000 →
    Merged lt (g_symMerge_it k (P ++ A ++ B ++ S) P.length ((P.length + A.length : Nat) : Int) ((P.length + A.length + B.length : Nat) : Int) cm) k P A B S
  | 0, P, A, B, S, hA, hB, _, _, _, _ => .inr ⟨rfl, by have := List.length_pos_iff.2 hA; omega⟩
  | k + 1, P, A, B, S, hA, hB, sA, sB, hR, hl => by
    have hl' : P.length + A.length + B.length + S.length ≤ 1000000 := by simp only [List.length_append] at hl; omega
    have pA := List.length_pos_iff.2 hA
    have pB := List.length_pos_iff.2 hB
    show Merged lt (g_symMerge_step (g_symMerge_it k) (P ++ A ++ B ++ S) P.length ((P.length + A.length : Nat) : Int) ((P.length + A.length + B.length : Nat) : Int) cm) (k + 1) P A B S
    by_cases h1 : A.length = 1
    · obtain ⟨x, rfl⟩ := List.length_eq_one_iff.1 h1
      exact .inl (sym_left O _ P S B x sB (fun b hb => hR x (by simp) b hb) hB hl)
    · by_cases h2 : B.length = 1
      · obtain ⟨y, rfl⟩ := List.length_eq_one_iff.1 h2
        exact .inl (sym_right O _ P S A y sA (fun a ha => hR a ha y (by simp)) (by omega) hl)
      · have e1 : decide ((w64 (((P.length + A.length : Nat) : Int) - (P.length : Int))) = 1) = false := by rw [w64_of (by omega) (by omega)]; exact decide_eq_false (by omega)
        have e2 : decide ((w64 (((P.length + A.length + B.length : Nat) : Int) - ((P.length + A.length : Nat) : Int))) = 1) = false := by rw [w64_of (by omega) (by omega)]; exact decide_eq_false (by omega)
        rw [step_main _ _ _ _ _ _ e1 e2, half_eq (x := P.length) (y := P.length + A.length + B.length) (by omega)]
        exact main_ok O sA sB hR (by omega) (by omega) hl (fun P A B S => sym_it O k P A B S) rfl

/-- two sorted stretches are merged -/
theorem sym_eq (O : Ordr lt) {P A B S : List Int} (hA : A ≠ []) (hB : B ≠ []) (sA : A.Pairwise lt) (sB : B.Pairwise lt) (hR : ∀ a ∈ A, ∀ b ∈ B, Rq cm lt a b) (hl : (P ++ A ++ B ++ S).length ≤ 1000000) {a m b : Int} (ha : a = (P.length : Int)) (hm : m = ((P.length + A.length : Nat) : Int)) (hb : b = ((P.length + A.length + B.length : Nat) : Int)) :
    ∃ C, g_symMerge (P ++ A ++ B ++ S) a m b cm = some (P ++ C ++ S) ∧ C.Perm (A ++ B) ∧ C.Pairwise lt := by
  subst ha; subst hm; subst hb
  have all := fun k => sym_it (cm := cm) O k P A B S hA hB sA sB hR hl
  obtain ⟨C, e, p, s⟩ := (all (A.length + B.length)).resolve_right fun h => by have := h.2; omega
  refine ⟨C, limE_of ⟨_, e⟩ fun k r' h => ?_, p, s⟩
  rcases all k with ⟨C', e', p', s'⟩ | ⟨e', _⟩
  · rw [e'] at h
    rw [← Option.some.inj h, sorted_eq O (p'.trans p.symm) s' s]
  · rw [e'] at h; cases h

/-- the sort, at 40 elements at most -/
theorem stable_eq (O : Ordr lt) {D : List Int} (hD : D.Pairwise (Rq cm lt)) (hl : D.length ≤ 40) : ∃ C, g_SortStable D cm = some C ∧ C.Perm D ∧ C.Pairwise lt := by
  have fin : ∀ {C : List Int}, g_stable D (D.length : Int) cm = some C → g_SortStable D cm = some C := fun h => by
    unfold g_SortStable; rw [h]; rfl
  have w20 : w64 (20 + 20) = 40 := by rw [w64_of] <;> decide
  have w40 : w64 (2 * 20) = 40 := by rw [w64_of] <;> decide
  have w402 : w64 (20 * 2) = 40 := by rw [w64_of] <;> decide
  have ins := fun (P S D : List Int) (h1 : D.Pairwise (Rq cm lt)) (h2 : (P ++ D ++ S).length ≤ 1000000) => ins_sort O P S D h1 h2
  by_cases h20 : D.length < 20
  · obtain ⟨C, p, s, e⟩ := ins [] [] D hD (by simp; omega)
    refine ⟨C, fin ?_, p, s⟩
    unfold g_stable
    rw [loopE_done (b := (D, 0)) (by simp only; rw [decide_eq_false (by omega)]; rfl)]
    simp only [List.nil_append, List.append_nil, List.length_nil, Nat.zero_add, Int.natCast_zero] at e
    simp only [Option.bind_some, e]
    rw [loopE_done (b := C) (by simp only; rw [decide_eq_false (by omega)]; rfl)]
    rfl
  · obtain ⟨D1, D2, rfl, l1⟩ : ∃ D1 D2, D = D1 ++ D2 ∧ D1.length = 20 := ⟨D.take 20, D.drop 20, (List.take_append_drop _ _).symm, by simp; omega⟩
    rw [List.pairwise_append] at hD
    simp only [List.length_append] at h20 hl
    have hn : (((D1 ++ D2).length : Nat) : Int) = ((20 + D2.length : Nat) : Int) := by rw [List.length_append, l1]
    obtain ⟨C1, p1, s1, e1⟩ := ins [] D2 D1 hD.1 (by simp; omega)
    have c1 : C1.length = 20 := by rw [p1.length_eq, l1]
    obtain ⟨C2, p2, s2, e2⟩ := ins C1 [] D2 hD.2.1 (by simp; omega)
    have c2 : C2.length = D2.length := p2.length_eq
    simp only [List.nil_append, List.append_nil, List.length_nil, Nat.zero_add, Int.natCast_zero, l1, c1] at e1 e2
    have e1' : g_insertionSort (D1 ++ D2) 0 20 cm = some (C1 ++ D2) := e1
    have e2' : g_insertionSort (C1 ++ D2) 20 ((20 + D2.length : Nat) : Int) cm = some (C1 ++ C2) := e2
    -- what the first passes leave
    have first : (loopE (fun (st2 : (List Int) × Int × Int) => (
      bif (decide (st2.2.2 ≤ (((D1 ++ D2).length : Nat) : Int))) then
        (g_insertionSort st2.1 st2.2.1 st2.2.2 cm).bind fun r3 =>
        some (.inl (r3, st2.2.2, (w64 (st2.2.2 + 20))))
      else
        some (.inr (st2.1, st2.2.1)) : Option (((List Int) × Int × Int) ⊕ (((List Int) × Int))))) (D1 ++ D2, 0, 20)).bind (fun o4 =>
          g_insertionSort o4.1 o4.2 (((D1 ++ D2).length : Nat) : Int) cm) = some (C1 ++ C2) := by
      rw [loopE_step (a' := (C1 ++ D2, 20, 40)) (by
        simp only [hn]
        rw [decide_eq_true (by omega), e1']
        simp only [cond_true, Option.bind_some, w20])]
      by_cases h40 : D2.length = 20
      · rw [loopE_step (a' := (C1 ++ C2, 40, 60)) (by
          simp only [hn]
          rw [decide_eq_true (by omega)]
          rw [h40] at e2'
          have e2'' : g_insertionSort (C1 ++ D2) 20 40 cm = some (C1 ++ C2) := e2'
          simp only [cond_true, e2'', Option.bind_some]
          rw [w64_of (by decide) (by decide)]
          rfl), loopE_done (b := (C1 ++ C2, 40)) (by simp only [hn]; rw [decide_eq_false (by omega)]; rfl)]
        simp only [Option.bind_some, hn]
        obtain ⟨C3, p3, _, e3⟩ := ins (C1 ++ C2) [] [] .nil (by simp; omega)
        have : C3 = [] := List.perm_nil.1 p3
        subst this
        simp only [List.append_nil, List.length_append, c1, c2, List.length_nil, Nat.add_zero, h40] at e3
        rw [h40]
        exact e3
      · rw [loopE_done (b := (C1 ++ D2, 20)) (by simp only [hn]; rw [decide_eq_false (by omega)]; rfl)]
        simp only [Option.bind_some, hn]
        exact e2'
    have rw1 : ∀ {α : Type} (X : Option ((List Int) × Int)) (K : List Int → Option α), (X.bind fun o4 => (g_insertionSort o4.1 o4.2 (((D1 ++ D2).length : Nat) : Int) cm).bind fun r5 => K r5) = (X.bind fun o4 => g_insertionSort o4.1 o4.2 (((D1 ++ D2).length : Nat) : Int) cm).bind K := fun X K => by cases X <;> rfl
    by_cases hD2 : D2 = []
    · subst hD2
      have : C2 = [] := List.perm_nil.1 p2
      subst this
      refine ⟨C1, fin ?_, by simpa using p1, s1⟩
      unfold g_stable
      rw [rw1, first]
      simp only [Option.bind_some, List.append_nil]
      rw [loopE_done (b := C1) (by simp only [List.append_nil] at hn ⊢; rw [decide_eq_false (by omega)]; rfl)]
      rfl
    · have pos2 := List.length_pos_iff.2 hD2
      have nC1 : C1 ≠ [] := List.length_pos_iff.1 (by omega)
      have nC2 : C2 ≠ [] := List.length_pos_iff.1 (by omega)
      obtain ⟨C, e3, p3, s3⟩ := sym_eq (cm := cm) O (P := []) (A := C1) (B := C2) (S := []) nC1 nC2 s1 s2 (fun a ha b hb => hD.2.2 a (p1.mem_iff.1 ha) b (p2.mem_iff.1 hb)) (by simp; omega) (a := 0) (m := 20) (b := ((20 + D2.length : Nat) : Int)) rfl (by simp [c1]) (by simp [c1, c2])
      simp only [List.nil_append, List.append_nil] at e3
      refine ⟨C, fin ?_, p3.trans (p1.append p2), s3⟩
      unfold g_stable
      rw [rw1, first]
      simp only [Option.bind_some]
      rw [loopE_step (a' := (C, 40)) (by
        simp only [hn]
        rw [decide_eq_true (by omega)]
        simp only [cond_true, w40]
        by_cases h40 : D2.length = 20
        · rw [loopE_step (a' := (C, 40, 80)) (by
            simp only
            rw [decide_eq_true (by omega), w64_of (x := 0 + 20) (by decide) (by decide)]
            rw [h40] at e3
            have e3' : g_symMerge (C1 ++ C2) 0 20 40 cm = some C := e3
            simp only [cond_true, Int.zero_add, e3', Option.bind_some]
            rw [w64_of (by decide) (by decide)]
            rfl), loopE_done (b := (C, 40)) (by simp only; rw [decide_eq_false (by omega)]; rfl)]
          simp only [Option.bind_some]
          rw [w64_of (x := 40 + 20) (by decide) (by decide), decide_eq_false (by omega)]
          simp only [cond_false, w402]
        · rw [loopE_done (b := (C1 ++ C2, 0)) (by simp only; rw [decide_eq_false (by omega)]; rfl)]
          simp only [Option.bind_some]
          rw [w64_of (x := 0 + 20) (by decide) (by decide), decide_eq_true (by omega)]
          simp only [Int.zero_add, cond_true, e3, Option.bind_some, w402])]
      rw [loopE_done (b := C) (by simp only [hn]; rw [decide_eq_false (by omega)]; rfl)]
      rfl
end
end Go.Ab
