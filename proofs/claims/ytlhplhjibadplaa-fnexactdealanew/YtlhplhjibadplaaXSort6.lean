/-
  Sorting by a comparison: the merge, whole; the sort.
-/
import Derived.Test.YtlhplhjibadplaaXSort5
namespace Go.Ab
open Go

noncomputable def g_loop3 (cm : Int → Int → Option Int) (md p_m : Int) : (List Int) × Int × Int → Option (((List Int) × Int × Int) ⊕ (((List Int) × Int))) := (fun (st25 : (List Int) × Int × Int) => (
          bif (decide (st25.2.1 < st25.2.2)) then
            bif decide (0 ≤ (w64 ((w64 ((w64 (md + p_m)) - 1)) - (w64 (shiftI .shr .u64 (IntKind.u64.wrap (w64 (st25.2.1 + st25.2.2))) 1))))) && decide ((w64 ((w64 ((w64 (md + p_m)) - 1)) - (w64 (shiftI .shr .u64 (IntKind.u64.wrap (w64 (st25.2.1 + st25.2.2))) 1)))) < (st25.1.length : Int)) then
              (st25.1[(Int.toNat (w64 ((w64 ((w64 (md + p_m)) - 1)) - (w64 (shiftI .shr .u64 (IntKind.u64.wrap (w64 (st25.2.1 + st25.2.2))) 1)))))]?).bind fun e26 =>
              bif decide (0 ≤ (w64 (shiftI .shr .u64 (IntKind.u64.wrap (w64 (st25.2.1 + st25.2.2))) 1))) && decide ((w64 (shiftI .shr .u64 (IntKind.u64.wrap (w64 (st25.2.1 + st25.2.2))) 1)) < (st25.1.length : Int)) then
                (st25.1[(Int.toNat (w64 (shiftI .shr .u64 (IntKind.u64.wrap (w64 (st25.2.1 + st25.2.2))) 1)))]?).bind fun e27 =>
                (cm e26 e27).bind fun r28 =>
                bif (!(decide (r28 < 0))) then
                  some (.inl (st25.1, (w64 ((w64 (shiftI .shr .u64 (IntKind.u64.wrap (w64 (st25.2.1 + st25.2.2))) 1)) + 1)), st25.2.2))
                else
                  some (.inl (st25.1, st25.2.1, (w64 (shiftI .shr .u64 (IntKind.u64.wrap (w64 (st25.2.1 + st25.2.2))) 1))))
              else
                none
            else
              none
          else
            some (.inr (st25.1, st25.2.1)) : Option (((List Int) × Int × Int) ⊕ (((List Int) × Int)))))
noncomputable def g_main (again : (List Int) → Int → Int → Int → (Int → Int → Option Int) → Option ((List Int))) (p_data : List Int) (p_a : Int) (p_m : Int) (p_b : Int) (cm : Int → Int → Option Int) (md : Int) : Option (List Int) :=
      (bif (decide (md < p_m)) then
          some (p_data, (w64 ((w64 (md + p_m)) - p_b)), md)
        else
          some (p_data, p_a, p_m)).bind fun j23 =>
      (loopE (g_loop3 cm md p_m) (j23.1, j23.2.1, j23.2.2)).bind fun o29 =>
      (bif (decide (o29.2 < p_m)) then
          some (decide (p_m < (w64 ((w64 (md + p_m)) - o29.2))))
        else
          some false).bind fun c30 =>
      bif c30 then
        (g_rotate o29.1 o29.2 p_m (w64 ((w64 (md + p_m)) - o29.2)) cm).bind fun r31 =>
        g_rest again cm r31 p_a o29.2 md (w64 ((w64 (md + p_m)) - o29.2)) p_b
      else
        g_rest again cm o29.1 p_a o29.2 md (w64 ((w64 (md + p_m)) - o29.2)) p_b

section
variable {cm : Int → Int → Option Int} {lt : Int → Int → Prop}

theorem step_main (again : (List Int) → Int → Int → Int → (Int → Int → Option Int) → Option ((List Int))) (p_data : List Int) (p_a : Int) (p_m : Int) (p_b : Int) (cm : Int → Int → Option Int) (h1 : decide ((w64 (p_m - p_a)) = 1) = false) (h2 : decide ((w64 (p_b - p_m)) = 1) = false) :
    g_symMerge_step again p_data p_a p_m p_b cm = g_main again p_data p_a p_m p_b cm (w64 (shiftI .shr .u64 (IntKind.u64.wrap (w64 (p_a + p_b))) 1)) := by
  unfold g_symMerge_step
  rw [h1, h2]
  rfl

theorem take_lt (O : Ordr lt) {A : List Int} (hs : A.Pairwise lt) {q : Nat} {x y : Int} (h : A[q - 1]? = some y) (hyx : lt y x) : ∀ z ∈ A.take q, lt z x := by
  rw [List.pairwise_iff_getElem] at hs
  intro z hz
  obtain ⟨i, hi, rfl⟩ := List.getElem_of_mem hz
  rw [List.length_take] at hi
  rw [List.getElem_take]
  obtain ⟨hq, rfl⟩ := List.getElem?_eq_some_iff.1 h
  by_cases he : i = q - 1
  · subst he; exact hyx
  · exact O.trans (hs i (q - 1) (by omega) hq (by omega)) hyx
theorem drop_lt (O : Ordr lt) {B : List Int} (hs : B.Pairwise lt) {q : Nat} {x y : Int} (h : B[q]? = some y) (hxy : lt x y) : ∀ z ∈ B.drop q, lt x z := by
  rw [List.pairwise_iff_getElem] at hs
  intro z hz
  obtain ⟨i, hi, rfl⟩ := List.getElem_of_mem hz
  rw [List.length_drop] at hi
  rw [List.getElem_drop]
  obtain ⟨hq, rfl⟩ := List.getElem?_eq_some_iff.1 h
  by_cases he : i = 0
  · subst he; exact hxy
  · exact O.trans hxy (hs q (q + i) hq (by omega) (by omega))

theorem main_ok (O : Ordr lt) {again : (List Int) → Int → Int → Int → (Int → Int → Option Int) → Option ((List Int))} {k : Nat} {P A B S : List Int} (hA : A.Pairwise lt) (hB : B.Pairwise lt) (hR : ∀ a ∈ A, ∀ b ∈ B, Rq cm lt a b)
    (hA2 : 2 ≤ A.length) (hB2 : 2 ≤ B.length) (hl : (P ++ A ++ B ++ S).length ≤ 1000000)
    (IH : ∀ P A B S : List Int, A ≠ [] → B ≠ [] → A.Pairwise lt → B.Pairwise lt → (∀ a ∈ A, ∀ b ∈ B, Rq cm lt a b) → (P ++ A ++ B ++ S).length ≤ 1000000 → Merged lt (again (P ++ A ++ B ++ S) P.length ((P.length + A.length : Nat) : Int) ((P.length + A.length + B.length : Nat) : Int) cm) k P A B S)
    {mid : Nat} (hmid : mid = (P.length + (P.length + A.length + B.length)) / 2) :
    (∃ C, g_main again (P ++ A ++ B ++ S) P.length ((P.length + A.length : Nat) : Int) ((P.length + A.length + B.length : Nat) : Int) cm (mid : Int) = some (P ++ C ++ S) ∧ C.Perm (A ++ B) ∧ C.Pairwise lt) ∨
    (g_main again (P ++ A ++ B ++ S) P.length ((P.length + A.length : Nat) : Int) ((P.length + A.length + B.length : Nat) : Int) cm (mid : Int) = none ∧ k + 1 < A.length + B.length) := by
  have hl' : P.length + A.length + B.length + S.length ≤ 1000000 := by simp only [List.length_append] at hl; omega
  generalize hm : P.length + A.length = m at *
  have ga : ∀ h, P.length ≤ h → h < m → (P ++ A ++ B ++ S)[h]? = A[h - P.length]? := fun h h1 h2 => by
    have := get_A (P := P) (A := A) (R := B ++ S) (t := h - P.length) (by omega)
    rw [show P.length + (h - P.length) = h by omega] at this
    rw [← this]; simp
  have gb : ∀ h, m ≤ h → h < m + B.length → (P ++ A ++ B ++ S)[h]? = B[h - m]? := fun h h1 h2 => by
    have := get_B (P := P) (A := A) (B := B) (S := S) (t := h - m) (by omega)
    rw [show P.length + A.length + (h - m) = h by omega] at this
    exact this
  -- where the search runs
  obtain ⟨lo, hi, hj, hlo, hhi, hlohi, hAr, hBr, hloE, hhiE⟩ : ∃ lo hi : Nat, (bif (decide ((mid : Int) < (m : Int))) then
          some (P ++ A ++ B ++ S, (w64 ((w64 ((mid : Int) + (m : Int))) - ((m + B.length : Nat) : Int))), (mid : Int))
        else
          some (P ++ A ++ B ++ S, (P.length : Int), (m : Int))) = some (P ++ A ++ B ++ S, (lo : Int), (hi : Int)) ∧ P.length ≤ lo ∧ hi ≤ mid ∧ lo ≤ hi ∧ hi ≤ m ∧ mid ≤ lo + B.length ∧
          (lo = P.length ∨ mid = lo + B.length) ∧ (hi = m ∨ hi = mid) := by
    by_cases h : mid < m
    · refine ⟨mid + m - (m + B.length), mid, ?_, by omega, Nat.le_refl _, by omega, by omega, by omega, .inr (by omega), .inr rfl⟩
      rw [decide_eq_true (by omega), w64_of (x := (mid : Int) + (m : Int)) (by omega) (by omega), w64_of (by omega) (by omega)]
      simp only [cond_true]
      rw [show ((mid + m - (m + B.length) : Nat) : Int) = (mid : Int) + (m : Int) - ((m + B.length : Nat) : Int) by omega]
    · refine ⟨P.length, m, ?_, Nat.le_refl _, by omega, by omega, Nat.le_refl _, by omega, .inl rfl, .inl rfl⟩
      rw [decide_eq_false (by omega)]
      rfl
  unfold g_main
  rw [hj]
  simp only [Option.bind_some]
  let T : Nat → Bool := fun c => match (P ++ A ++ B ++ S)[mid + m - 1 - c]?, (P ++ A ++ B ++ S)[c]? with
    | some e1, some e2 => !(negC (cm e1 e2))
    | _, _ => false
  have at_c : ∀ c, lo ≤ c → c < hi → ∃ (u v : Int) (w : Int), A[c - P.length]? = some u ∧ B[mid - 1 - c]? = some v ∧ (P ++ A ++ B ++ S)[c]? = some u ∧ (P ++ A ++ B ++ S)[mid + m - 1 - c]? = some v ∧ cm v u = some w ∧ T c = !decide (w < 0) ∧ ((decide (w < 0) = true ∧ lt v u) ∨ (decide (w < 0) = false ∧ lt u v)) := by
    intro c h1 h2
    have l1 : c - P.length < A.length := by omega
    have l2 : mid - 1 - c < B.length := by omega
    have e1 : A[c - P.length]? = some (A[c - P.length]'l1) := by simp [l1]
    have e2 : B[mid - 1 - c]? = some (B[mid - 1 - c]'l2) := by simp [l2]
    have g1 := (ga c (by omega) (by omega)).trans e1
    have g2 : (P ++ A ++ B ++ S)[mid + m - 1 - c]? = some (B[mid - 1 - c]'l2) := by
      have := gb (mid + m - 1 - c) (by omega) (by omega)
      rw [show mid + m - 1 - c - m = mid - 1 - c by omega, e2] at this
      exact this
    obtain ⟨w, hw, hcase⟩ := cmp_of (hR _ (List.getElem_mem l1) _ (List.getElem_mem l2))
    exact ⟨_, _, w, e1, e2, g1, g2, hw, by simp only [T, g1, g2, hw, negC], hcase⟩
  obtain ⟨r, hr, h1, h2, h3, h4⟩ := bs_loop (D := P ++ A ++ B ++ S) (f := g_loop3 cm (mid : Int) (m : Int)) T lo hi (fun i j h1 h2 h3 => by
    have hh : w64 (shiftI .shr .u64 (IntKind.u64.wrap (w64 ((i : Int) + (j : Int)))) 1) = (((i + j) / 2 : Nat) : Int) := half_eq (by omega)
    generalize hq : (i + j) / 2 = h at *
    obtain ⟨u, v, w, _, _, g1, g2, hw, hT, _⟩ := at_c h (by omega) (by omega)
    have hp : w64 ((w64 ((w64 ((mid : Int) + (m : Int))) - 1)) - (h : Int)) = ((mid + m - 1 - h : Nat) : Int) := by
      rw [w64_of (x := (mid : Int) + (m : Int)) (by omega) (by omega), w64_of (x := (mid : Int) + (m : Int) - 1) (by omega) (by omega), w64_of (by omega) (by omega)]; omega
    unfold g_loop3
    simp only [hh, hp, decide_eq_true (show (i : Int) < (j : Int) by omega), cond_true, Int.toNat_natCast, g1, g2, Option.bind_some, hT]
    rw [in_rng (by omega) (by simp only [List.length_append]; omega), in_rng (by omega) (by simp only [List.length_append]; omega)]
    simp only [cond_true, Option.bind_some, hw]
    rw [w64_of (x := (h : Int) + 1) (by omega) (by omega)]
    cases decide (w < 0) <;> rfl) (fun i => by
    unfold g_loop3
    simp only [decide_eq_false (Int.lt_irrefl (i : Int)), cond_false]) (hi - lo) lo hi (Nat.le_refl _) (Nat.le_refl _) hlohi (Nat.le_refl _) (.inl rfl) (.inl rfl)
  rw [hr]
  simp only [Option.bind_some]
  have h3' : r = lo ∨ (lo < r ∧ T (r - 1) = true) := by
    by_cases e : r = lo
    · exact .inl e
    · exact .inr ⟨by omega, h3.resolve_left e⟩
  have h4' : r = hi ∨ (r < hi ∧ T r = false) := by
    by_cases e : r = hi
    · exact .inl e
    · exact .inr ⟨by omega, h4.resolve_left e⟩
  obtain ⟨s1, hs1⟩ : ∃ s1, s1 = r - P.length := ⟨_, rfl⟩
  obtain ⟨e1, he1⟩ : ∃ e1, e1 = mid - r := ⟨_, rfl⟩
  have ls1 : s1 ≤ A.length := by omega
  have le1 : e1 ≤ B.length := by omega
  have X1 : ∀ u ∈ A.take s1, ∀ v ∈ B.drop e1, lt u v := by
    rcases h3' with h | ⟨h, hT⟩
    · intro u hu v hv
      rcases hloE with h5 | h5
      · rw [show s1 = 0 by omega] at hu; simp at hu
      · rw [List.drop_of_length_le (by omega)] at hv; cases hv
    · obtain ⟨u0, v0, w, a1, b1, _, _, _, hw, hcase⟩ := at_c (r - 1) (by omega) (by omega)
      rw [hw] at hT
      have huv : lt u0 v0 := by
        rcases hcase with ⟨hc, _⟩ | ⟨_, hc⟩
        · rw [hc] at hT; cases hT
        · exact hc
      intro u hu v hv
      refine drop_lt O hB (q := e1) (y := v0) (by rw [← b1]; congr 1; omega) ?_ v hv
      exact take_lt O hA (q := s1) (y := u0) (by rw [← a1]; congr 1; omega) huv u hu
  have X2 : ∀ u ∈ B.take e1, ∀ v ∈ A.drop s1, lt u v := by
    rcases h4' with h | ⟨h, hT⟩
    · intro u hu v hv
      rcases hhiE with h5 | h5
      · rw [List.drop_of_length_le (by omega)] at hv; cases hv
      · rw [show e1 = 0 by omega] at hu; simp at hu
    · obtain ⟨u0, v0, w, a1, b1, _, _, _, hw, hcase⟩ := at_c r (by omega) (by omega)
      rw [hw] at hT
      have huv : lt v0 u0 := by
        rcases hcase with ⟨_, hc⟩ | ⟨hc, _⟩
        · exact hc
        · rw [hc] at hT; cases hT
      intro u hu v hv
      refine drop_lt O hA (q := s1) (y := u0) (by rw [← a1]; congr 1) ?_ v hv
      exact take_lt O hB (q := e1) (y := v0) (by rw [← b1]; congr 1; omega) huv u hu
  clear h3 h4 h3' h4' at_c ga gb hr
  have dA : A.take s1 ++ A.drop s1 = A := List.take_append_drop _ _
  have dB : B.take e1 ++ B.drop e1 = B := List.take_append_drop _ _
  have la : (A.take s1).length = s1 := by rw [List.length_take]; omega
  have lb : (B.take e1).length = e1 := by rw [List.length_take]; omega
  generalize hgA1 : A.take s1 = A1 at *
  generalize hgA2 : A.drop s1 = A2 at *
  generalize hgB1 : B.take e1 = B1 at *
  generalize hgB2 : B.drop e1 = B2 at *
  subst dA
  subst dB
  clear hgA1 hgA2 hgB1 hgB2 T
  rw [List.pairwise_append] at hA hB
  simp only [List.length_append] at hA2 hB2 hl' hm ls1 le1 hBr hmid
  have hst : (r : Int) = ((P.length + A1.length : Nat) : Int) := by omega
  have hmd : (mid : Int) = ((P.length + A1.length + B1.length : Nat) : Int) := by omega
  have hen : w64 ((w64 ((mid : Int) + (m : Int))) - (r : Int)) = ((P.length + A1.length + B1.length + A2.length : Nat) : Int) := by
    rw [w64_of (x := (mid : Int) + (m : Int)) (by omega) (by omega), w64_of (by omega) (by omega)]; omega
  have hbb : ((m + (B1 ++ B2).length : Nat) : Int) = ((P.length + A1.length + B1.length + A2.length + B2.length : Nat) : Int) := by simp only [List.length_append]; omega
  have rest := rest_ok (cm := cm) (lt := lt) (again := again) (k := k) (P := P) (A1 := A1) (B1 := B1) (A2 := A2) (B2 := B2) (S := S) (by omega) (by omega) hA.1 hB.1 hA.2.1 hB.2.1
    (fun n1 n2 S' hs => IH P A1 B1 S' n1 n2 hA.1 hB.1 (fun a ha b hb => hR a (List.mem_append_left _ ha) b (List.mem_append_left _ hb)) hs)
    (fun n1 n2 P' _ hs => IH P' A2 B2 S n1 n2 hA.2.1 hB.2.1 (fun a ha b hb => hR a (List.mem_append_right _ ha) b (List.mem_append_right _ hb)) hs)
    (fun x hx y hy => by
      rcases List.mem_append.1 hx with hx | hx <;> rcases List.mem_append.1 hy with hy | hy
      · exact hA.2.2 x hx y hy
      · exact X1 x hx y hy
      · exact X2 x hx y hy
      · exact hB.2.2 x hx y hy) rfl hst hmd hen hbb (by simp only [List.length_append]; omega)
  have perm : (A1 ++ B1 ++ (A2 ++ B2)).Perm (A1 ++ A2 ++ (B1 ++ B2)) := by
    simp only [List.append_assoc]
    refine (List.Perm.refl A1).append ?_
    rw [← List.append_assoc, ← List.append_assoc A2]
    exact (List.perm_append_comm).append (.refl _)
  have len : A1.length + B1.length + (A2.length + B2.length) = (A1 ++ A2).length + (B1 ++ B2).length := by simp only [List.length_append]; omega
  have fin : (∃ C, g_rest again cm (P ++ A1 ++ B1 ++ A2 ++ B2 ++ S) (P.length : Int) (r : Int) (mid : Int) (w64 ((w64 ((mid : Int) + (m : Int))) - (r : Int))) ((m + (B1 ++ B2).length : Nat) : Int) = some (P ++ C ++ S) ∧ C.Perm (A1 ++ A2 ++ (B1 ++ B2)) ∧ C.Pairwise lt) ∨
      (g_rest again cm (P ++ A1 ++ B1 ++ A2 ++ B2 ++ S) (P.length : Int) (r : Int) (mid : Int) (w64 ((w64 ((mid : Int) + (m : Int))) - (r : Int))) ((m + (B1 ++ B2).length : Nat) : Int) = none ∧ k + 1 < (A1 ++ A2).length + (B1 ++ B2).length) := by
    rcases rest with ⟨C, x1, x2, x3⟩ | ⟨x1, x2⟩
    · exact .inl ⟨C, x1, x2.trans perm, x3⟩
    · exact .inr ⟨x1, by omega⟩
  rw [and_dec]
  simp only [Option.bind_some]
  by_cases hne : A2 ≠ [] ∧ B1 ≠ []
  · have n1 := List.length_pos_iff.2 hne.1
    have n2 := List.length_pos_iff.2 hne.2
    rw [decide_eq_true (show (r : Int) < (m : Int) by omega), decide_eq_true (show (m : Int) < w64 ((w64 ((mid : Int) + (m : Int))) - (r : Int)) by rw [hen]; omega)]
    simp only [Bool.and_self, cond_true]
    have rot := rot_eq (cm := cm) (P := P ++ A1) (X := A2) (Y := B1) (S := B2 ++ S) hne.1 hne.2 (a := (r : Int)) (m := (m : Int)) (b := w64 ((w64 ((mid : Int) + (m : Int))) - (r : Int))) (by rw [hst, List.length_append]) (by rw [List.length_append]; omega) (by rw [hen, List.length_append]; omega) (by simp only [List.length_append]; omega)
    rw [show P ++ (A1 ++ A2) ++ (B1 ++ B2) ++ S = P ++ A1 ++ A2 ++ B1 ++ (B2 ++ S) by simp, rot]
    simp only [Option.bind_some]
    rw [show P ++ A1 ++ B1 ++ A2 ++ (B2 ++ S) = P ++ A1 ++ B1 ++ A2 ++ B2 ++ S by simp]
    exact fin
  · have he : A2 = [] ∨ B1 = [] := by
      by_cases h : A2 = []
      · exact .inl h
      · exact .inr (by by_cases h' : B1 = []; exact h'; exact absurd ⟨h, h'⟩ hne)
    have hd : (decide ((r : Int) < (m : Int)) && decide ((m : Int) < w64 ((w64 ((mid : Int) + (m : Int))) - (r : Int)))) = false := by
      rcases he with rfl | rfl
      · rw [decide_eq_false (show ¬ (r : Int) < (m : Int) by simp at hm; omega)]; rfl
      · rw [decide_eq_false (show ¬ (m : Int) < w64 ((w64 ((mid : Int) + (m : Int))) - (r : Int)) by rw [hen]; simp; omega)]; simp
    rw [hd]
    simp only [cond_false]
    have e : P ++ (A1 ++ A2) ++ (B1 ++ B2) ++ S = P ++ A1 ++ B1 ++ A2 ++ B2 ++ S := by
      rcases he with rfl | rfl <;> simp
    rw [e]
    exact fin
end
end Go.Ab
