/-
  Sorting by a comparison: the merge.
-/
import Derived.Test.YtlhplhjibadplaaXSort3
namespace Go.Ab
open Go

section
variable {cm : Int → Int → Option Int} {lt : Int → Int → Prop}

/-- both halves are merged -/
noncomputable def g_rest (again : (List Int) → Int → Int → Int → (Int → Int → Option Int) → Option ((List Int))) (cm : Int → Int → Option Int) (L : List Int) (a st mid en b : Int) : Option (List Int) :=
  (bif (decide (a < st)) then some (decide (st < mid)) else some false).bind fun c32 =>
  bif c32 then
    (again L a st mid cm).bind fun r33 =>
    (bif (decide (mid < en)) then some (decide (en < b)) else some false).bind fun c34 =>
    bif c34 then (again r33 mid en b cm).bind fun r35 => some r35 else some r33
  else
    (bif (decide (mid < en)) then some (decide (en < b)) else some false).bind fun c36 =>
    bif c36 then (again L mid en b cm).bind fun r37 => some r37 else some L

/-- what the merge has to do -/
def Merged (lt : Int → Int → Prop) (it : Option (List Int)) (k : Nat) (P A B S : List Int) : Prop :=
  (∃ C, it = some (P ++ C ++ S) ∧ C.Perm (A ++ B) ∧ C.Pairwise lt) ∨ (it = none ∧ k < A.length + B.length)

theorem and_dec (p q : Prop) [Decidable p] [Decidable q] : (bif decide p then some (decide q) else some false) = some (decide p && decide q) := by cases decide p <;> rfl

theorem rest_ok {again : (List Int) → Int → Int → Int → (Int → Int → Option Int) → Option ((List Int))} {k : Nat} {P A1 B1 A2 B2 S : List Int} (hpos : 0 < A1.length + B1.length) (hpos2 : 0 < A2.length + B2.length)
    (hA1 : A1.Pairwise lt) (hB1 : B1.Pairwise lt) (hA2 : A2.Pairwise lt) (hB2 : B2.Pairwise lt)
    (h1 : A1 ≠ [] → B1 ≠ [] → ∀ S', (P ++ A1 ++ B1 ++ S').length ≤ 1000000 → Merged lt (again (P ++ A1 ++ B1 ++ S') P.length ((P.length + A1.length : Nat) : Int) ((P.length + A1.length + B1.length : Nat) : Int) cm) k P A1 B1 S')
    (h2 : A2 ≠ [] → B2 ≠ [] → ∀ P' : List Int, P'.length = P.length + A1.length + B1.length → (P' ++ A2 ++ B2 ++ S).length ≤ 1000000 → Merged lt (again (P' ++ A2 ++ B2 ++ S) P'.length ((P'.length + A2.length : Nat) : Int) ((P'.length + A2.length + B2.length : Nat) : Int) cm) k P' A2 B2 S)
    (hlt : ∀ x ∈ A1 ++ B1, ∀ y ∈ A2 ++ B2, lt x y) {a st mid en b : Int} (ha : a = (P.length : Int)) (hst : st = ((P.length + A1.length : Nat) : Int)) (hmid : mid = ((P.length + A1.length + B1.length : Nat) : Int))
    (hen : en = ((P.length + A1.length + B1.length + A2.length : Nat) : Int)) (hb : b = ((P.length + A1.length + B1.length + A2.length + B2.length : Nat) : Int)) (hl : (P ++ A1 ++ B1 ++ A2 ++ B2 ++ S).length ≤ 1000000) :
    (∃ C, g_rest again cm (P ++ A1 ++ B1 ++ A2 ++ B2 ++ S) a st mid en b = some (P ++ C ++ S) ∧ C.Perm (A1 ++ B1 ++ (A2 ++ B2)) ∧ C.Pairwise lt) ∨ (g_rest again cm (P ++ A1 ++ B1 ++ A2 ++ B2 ++ S) a st mid en b = none ∧ k + 1 < A1.length + B1.length + (A2.length + B2.length)) := by
  have hl' : P.length + A1.length + B1.length + A2.length + B2.length + S.length ≤ 1000000 := by simp only [List.length_append] at hl; omega
  -- the right half
  have right : ∀ C1 : List Int, C1.Perm (A1 ++ B1) → C1.Pairwise lt →
      (∃ C, ((bif (decide (mid < en)) then some (decide (en < b)) else some false).bind fun c34 => bif c34 then (again (P ++ C1 ++ A2 ++ B2 ++ S) mid en b cm).bind fun r35 => some r35 else some (P ++ C1 ++ A2 ++ B2 ++ S)) = some (P ++ C ++ S) ∧ C.Perm (A1 ++ B1 ++ (A2 ++ B2)) ∧ C.Pairwise lt) ∨
      (((bif (decide (mid < en)) then some (decide (en < b)) else some false).bind fun c34 => bif c34 then (again (P ++ C1 ++ A2 ++ B2 ++ S) mid en b cm).bind fun r35 => some r35 else some (P ++ C1 ++ A2 ++ B2 ++ S)) = none ∧ k + 1 < A1.length + B1.length + (A2.length + B2.length)) := by
    intro C1 p1 s1
    have hc1 : C1.length = A1.length + B1.length := by rw [p1.length_eq, List.length_append]
    have cross : ∀ {C2 : List Int}, C2.Perm (A2 ++ B2) → C2.Pairwise lt → (C1 ++ C2).Pairwise lt := fun {C2} p2 s2 => by
      rw [List.pairwise_append]
      exact ⟨s1, s2, fun x hx y hy => hlt x (p1.mem_iff.1 hx) y (p2.mem_iff.1 hy)⟩
    rw [and_dec]
    simp only [Option.bind_some]
    by_cases hne : A2 ≠ [] ∧ B2 ≠ []
    · have ha2 := List.length_pos_iff.2 hne.1
      have hb2 := List.length_pos_iff.2 hne.2
      rw [decide_eq_true (show mid < en by omega), decide_eq_true (show en < b by omega)]
      simp only [Bool.and_self, cond_true]
      have m := h2 hne.1 hne.2 (P ++ C1) (by simp; omega) (by simp only [List.length_append]; omega)
      rw [show ((P ++ C1).length : Int) = mid by rw [hmid, List.length_append, hc1]; omega, show (((P ++ C1).length + A2.length : Nat) : Int) = en by rw [hen, List.length_append, hc1]; omega,
        show (((P ++ C1).length + A2.length + B2.length : Nat) : Int) = b by rw [hb, List.length_append, hc1]; omega] at m
      rcases m with ⟨C2, e, p2, s2⟩ | ⟨e, hk⟩
      · exact .inl ⟨C1 ++ C2, by rw [e]; simp, p1.append p2, cross p2 s2⟩
      · exact .inr ⟨by rw [e]; rfl, by omega⟩
    · have he : A2 = [] ∨ B2 = [] := by
        by_cases h : A2 = []
        · exact .inl h
        · exact .inr (by by_cases h' : B2 = []; exact h'; exact absurd ⟨h, h'⟩ hne)
      have hd : (decide (mid < en) && decide (en < b)) = false := by
        rcases he with rfl | rfl
        · rw [decide_eq_false (show ¬ mid < en by simp at hen; omega)]; rfl
        · rw [decide_eq_false (show ¬ en < b by simp at hb; omega)]; simp
      rw [hd]
      simp only [cond_false]
      refine .inl ⟨C1 ++ (A2 ++ B2), by simp, p1.append (.refl _), cross (.refl _) ?_⟩
      rcases he with rfl | rfl
      · simpa using hB2
      · simpa using hA2
  unfold g_rest
  rw [and_dec]
  simp only [Option.bind_some]
  by_cases hne : A1 ≠ [] ∧ B1 ≠ []
  · have ha1 := List.length_pos_iff.2 hne.1
    have hb1 := List.length_pos_iff.2 hne.2
    rw [decide_eq_true (show a < st by omega), decide_eq_true (show st < mid by omega)]
    simp only [Bool.and_self, cond_true]
    have m := h1 hne.1 hne.2 (A2 ++ B2 ++ S) (by simp only [List.length_append]; omega)
    rw [← ha, ← hst, ← hmid, show P ++ A1 ++ B1 ++ (A2 ++ B2 ++ S) = P ++ A1 ++ B1 ++ A2 ++ B2 ++ S by simp] at m
    rcases m with ⟨C1, e, p1, s1⟩ | ⟨e, hk⟩
    · rw [e]
      simp only [Option.bind_some]
      rw [show P ++ C1 ++ (A2 ++ B2 ++ S) = P ++ C1 ++ A2 ++ B2 ++ S by simp]
      exact right C1 p1 s1
    · exact .inr ⟨by rw [e]; rfl, by omega⟩
  · have he : A1 = [] ∨ B1 = [] := by
      by_cases h : A1 = []
      · exact .inl h
      · exact .inr (by by_cases h' : B1 = []; exact h'; exact absurd ⟨h, h'⟩ hne)
    have hd : (decide (a < st) && decide (st < mid)) = false := by
      rcases he with rfl | rfl
      · rw [decide_eq_false (show ¬ a < st by simp at hst; omega)]; rfl
      · rw [decide_eq_false (show ¬ st < mid by simp at hmid; omega)]; simp
    rw [hd]
    simp only [cond_false]
    have s1 : (A1 ++ B1).Pairwise lt := by
      rcases he with rfl | rfl
      · simpa using hB1
      · simpa using hA1
    have := right (A1 ++ B1) (.refl _) s1
    rw [show P ++ (A1 ++ B1) ++ A2 ++ B2 ++ S = P ++ A1 ++ B1 ++ A2 ++ B2 ++ S by simp] at this
    exact this
end
end Go.Ab
