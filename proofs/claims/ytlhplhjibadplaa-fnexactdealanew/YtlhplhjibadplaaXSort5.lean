/-
  Sorting by a comparison: the merge of two stretches, whole.
-/
import Derived.Test.YtlhplhjibadplaaXSort4
namespace Go.Ab
open Go

section
variable {cm : Int → Int → Option Int} {lt : Int → Int → Prop}

theorem get_A {P A R : List Int} {t : Nat} (h : t < A.length) : (P ++ A ++ R)[P.length + t]? = A[t]? := by
  rw [List.append_assoc, List.getElem?_append_right (by omega), Nat.add_sub_cancel_left, List.getElem?_append_left h]
theorem get_B {P A B S : List Int} {t : Nat} (h : t < B.length) : (P ++ A ++ B ++ S)[P.length + A.length + t]? = B[t]? := by
  have := get_A (P := P ++ A) (A := B) (R := S) h
  rw [List.length_append] at this
  exact this

def negC (o : Option Int) : Bool := match o with
  | some c => decide (c < 0)
  | none => false

theorem sym_left (O : Ordr lt) (again : (List Int) → Int → Int → Int → (Int → Int → Option Int) → Option ((List Int))) (P S B : List Int) (x : Int) (hB : B.Pairwise lt) (hR : ∀ b ∈ B, Rq cm lt x b) (hne : B ≠ []) (hl : (P ++ [x] ++ B ++ S).length ≤ 1000000) :
    ∃ C, g_symMerge_step again (P ++ [x] ++ B ++ S) P.length ((P.length + 1 : Nat) : Int) ((P.length + 1 + B.length : Nat) : Int) cm = some (P ++ C ++ S) ∧ C.Perm ([x] ++ B) ∧ C.Pairwise lt := by
  have hl' : P.length + 1 + B.length + S.length ≤ 1000000 := by simp only [List.length_append, List.length_cons, List.length_nil] at hl; omega
  unfold g_symMerge_step
  rw [w64_of (x := ((P.length + 1 : Nat) : Int) - (P.length : Int)) (by omega) (by omega), decide_eq_true (show ((P.length + 1 : Nat) : Int) - (P.length : Int) = 1 by omega)]
  simp only [cond_true]
  let D := P ++ [x] ++ B ++ S
  have gx : (P ++ [x] ++ B ++ S)[Int.toNat (P.length : Int)]? = some x := by rw [show P ++ [x] ++ B ++ S = P ++ x :: (B ++ S) by simp]; exact get_at rfl
  have gb : ∀ h, P.length + 1 ≤ h → h < P.length + 1 + B.length → (P ++ [x] ++ B ++ S)[h]? = B[h - (P.length + 1)]? := fun h h1 h2 => by
    have := get_B (P := P) (A := [x]) (B := B) (S := S) (t := h - (P.length + 1)) (by omega)
    simp only [List.length_cons, List.length_nil, Nat.zero_add] at this
    rw [show P.length + 1 + (h - (P.length + 1)) = h by omega] at this
    exact this
  let T : Nat → Bool := fun h => match (P ++ [x] ++ B ++ S)[h]? with
    | some e => negC (cm e x)
    | none => false
  refine Exists.elim (bs_loop (D := P ++ [x] ++ B ++ S) (f := fun (st2 : (List Int) × Int × Int) => (
        bif (decide (st2.2.1 < st2.2.2)) then
          bif decide (0 ≤ (w64 (shiftI .shr .u64 (IntKind.u64.wrap (w64 (st2.2.1 + st2.2.2))) 1))) && decide ((w64 (shiftI .shr .u64 (IntKind.u64.wrap (w64 (st2.2.1 + st2.2.2))) 1)) < (st2.1.length : Int)) then
            (st2.1[(Int.toNat (w64 (shiftI .shr .u64 (IntKind.u64.wrap (w64 (st2.2.1 + st2.2.2))) 1)))]?).bind fun e3 =>
            bif decide (0 ≤ (P.length : Int)) && decide ((P.length : Int) < (st2.1.length : Int)) then
              (st2.1[(Int.toNat (P.length : Int))]?).bind fun e4 =>
              (cm e3 e4).bind fun r5 =>
              bif (decide (r5 < 0)) then
                some (.inl (st2.1, (w64 ((w64 (shiftI .shr .u64 (IntKind.u64.wrap (w64 (st2.2.1 + st2.2.2))) 1)) + 1)), st2.2.2))
              else
                some (.inl (st2.1, st2.2.1, (w64 (shiftI .shr .u64 (IntKind.u64.wrap (w64 (st2.2.1 + st2.2.2))) 1))))
            else
              none
          else
            none
        else
          some (.inr (st2.1, st2.2.1)) : Option (((List Int) × Int × Int) ⊕ (((List Int) × Int))))) T (P.length + 1) (P.length + 1 + B.length) ?_ ?_ (B.length) (P.length + 1) (P.length + 1 + B.length) (by omega) (Nat.le_refl _) (by omega) (Nat.le_refl _) (.inl rfl) (.inl rfl)) ?_
  · intro i j h1 h2 h3
    have hh : w64 (shiftI .shr .u64 (IntKind.u64.wrap (w64 ((i : Int) + (j : Int)))) 1) = (((i + j) / 2 : Nat) : Int) := half_eq (by omega)
    generalize hq : (i + j) / 2 = h at *
    have hb := gb h (by omega) (by omega)
    have hlt : h - (P.length + 1) < B.length := by omega
    have hbv : B[h - (P.length + 1)]? = some (B[h - (P.length + 1)]'hlt) := by simp [hlt]
    obtain ⟨c, hc, _⟩ := cmp_of (hR _ (List.getElem_mem hlt))
    have hT : T h = decide (c < 0) := by simp only [T, hb, hbv, hc, negC]
    simp only [hh, decide_eq_true (show (i : Int) < (j : Int) by omega), cond_true, Int.toNat_natCast, hb, hbv, Option.bind_some, hc, hT]
    rw [in_rng (by omega) (by simp only [List.length_append, List.length_cons, List.length_nil]; omega), in_rng (by omega) (by simp only [List.length_append, List.length_cons, List.length_nil]; omega), show (P ++ [x] ++ B ++ S)[P.length]? = some x by simp]
    simp only [cond_true, Option.bind_some, hc]
    rw [w64_of (x := (h : Int) + 1) (by omega) (by omega)]
    cases decide (c < 0) <;> rfl
  · intro i
    simp only [decide_eq_false (Int.lt_irrefl (i : Int)), cond_false]
  · intro r hr
    obtain ⟨hr, h1, h2, h3, h4⟩ := hr
    rw [hr]
    simp only [Option.bind_some]
    have h3' : r = P.length + 1 ∨ (P.length + 1 < r ∧ T (r - 1) = true) := by
      by_cases e : r = P.length + 1
      · exact .inl e
      · exact .inr ⟨by omega, h3.resolve_left e⟩
    have h4' : r = P.length + 1 + B.length ∨ (r < P.length + 1 + B.length ∧ T r = false) := by
      by_cases e : r = P.length + 1 + B.length
      · exact .inl e
      · exact .inr ⟨by omega, h4.resolve_left e⟩
    have sp := split_at O hB (x := x) (q := r - (P.length + 1)) (h3'.imp (fun e => by omega) fun ⟨hlo, hT⟩ => by
        have hb := gb (r - 1) (by omega) (by omega)
        have hlt : r - 1 - (P.length + 1) < B.length := by omega
        have hbv : B[r - 1 - (P.length + 1)]? = some (B[r - 1 - (P.length + 1)]'hlt) := by simp [hlt]
        refine ⟨_, by rw [show r - (P.length + 1) - 1 = r - 1 - (P.length + 1) by omega]; exact hbv, ?_⟩
        obtain ⟨c, hc, hcase⟩ := cmp_of (hR _ (List.getElem_mem hlt))
        simp only [T, hb, hbv, hc, negC] at hT
        rcases hcase with ⟨_, h⟩ | ⟨h, _⟩
        · exact h
        · rw [h] at hT; cases hT) (h4'.imp (fun e => by omega) fun ⟨hbnd, hT⟩ => by
        have hb := gb r (by omega) hbnd
        have hlt : r - (P.length + 1) < B.length := by omega
        have hbv : B[r - (P.length + 1)]? = some (B[r - (P.length + 1)]'hlt) := by simp [hlt]
        refine ⟨_, hbv, ?_⟩
        obtain ⟨c, hc, hcase⟩ := cmp_of (hR _ (List.getElem_mem hlt))
        simp only [T, hb, hbv, hc, negC] at hT
        rcases hcase with ⟨h, _⟩ | ⟨_, h⟩
        · rw [h] at hT; cases hT
        · exact h)
    have hw : w64 ((r : Int) - 1) = ((P.length + (B.take (r - (P.length + 1))).length : Nat) : Int) := by
      rw [w64_of (by omega) (by omega), List.length_take]; omega
    have sh := shiftR_loop (B.drop (r - (P.length + 1)) ++ S) x (w64 ((r : Int) - 1)) (fun st8 => rfl) (B.take (r - (P.length + 1))) P hw (by simp only [List.length_append, List.length_cons, List.length_take, List.length_drop]; omega)
    have e0 : P ++ [x] ++ B ++ S = P ++ x :: B.take (r - (P.length + 1)) ++ (B.drop (r - (P.length + 1)) ++ S) := by
      simp only [List.append_assoc, List.cons_append, List.nil_append]
      rw [← List.append_assoc (B.take _), List.take_append_drop]
    refine ⟨B.take (r - (P.length + 1)) ++ x :: B.drop (r - (P.length + 1)), ?_, ?_, ?_⟩
    · rw [e0]
      refine (congrArg (fun z => z.bind fun o11 => some o11) sh).trans ?_
      simp
    · have := (List.perm_middle (a := x) (l₁ := B.take (r - (P.length + 1))) (l₂ := B.drop (r - (P.length + 1))))
      rw [List.take_append_drop] at this
      exact this
    · rw [← List.take_append_drop (r - (P.length + 1)) B, List.pairwise_append] at hB
      rw [List.pairwise_append, List.pairwise_cons]
      refine ⟨hB.1, ⟨sp.2, hB.2.1⟩, fun a ha y hy => ?_⟩
      rcases List.mem_cons.1 hy with rfl | hy
      · exact sp.1 a ha
      · exact hB.2.2 a ha y hy

theorem sym_right (O : Ordr lt) (again : (List Int) → Int → Int → Int → (Int → Int → Option Int) → Option ((List Int))) (P S A : List Int) (y : Int) (hA : A.Pairwise lt) (hR : ∀ a ∈ A, Rq cm lt a y) (hne : 2 ≤ A.length) (hl : (P ++ A ++ [y] ++ S).length ≤ 1000000) :
    ∃ C, g_symMerge_step again (P ++ A ++ [y] ++ S) P.length ((P.length + A.length : Nat) : Int) ((P.length + A.length + 1 : Nat) : Int) cm = some (P ++ C ++ S) ∧ C.Perm (A ++ [y]) ∧ C.Pairwise lt := by
  have hl' : P.length + A.length + 1 + S.length ≤ 1000000 := by simp only [List.length_append, List.length_cons, List.length_nil] at hl; omega
  unfold g_symMerge_step
  rw [w64_of (x := ((P.length + A.length : Nat) : Int) - (P.length : Int)) (by omega) (by omega), decide_eq_false (show ¬ ((P.length + A.length : Nat) : Int) - (P.length : Int) = 1 by omega),
    w64_of (x := ((P.length + A.length + 1 : Nat) : Int) - ((P.length + A.length : Nat) : Int)) (by omega) (by omega), decide_eq_true (show ((P.length + A.length + 1 : Nat) : Int) - ((P.length + A.length : Nat) : Int) = 1 by omega)]
  simp only [cond_true, cond_false]
  have gy : (P ++ A ++ [y] ++ S)[P.length + A.length]? = some y := by
    simp
  have ga : ∀ h, P.length ≤ h → h < P.length + A.length → (P ++ A ++ [y] ++ S)[h]? = A[h - P.length]? := fun h h1 h2 => by
    have := get_A (P := P) (A := A) (R := [y] ++ S) (t := h - P.length) (by omega)
    rw [show P.length + (h - P.length) = h by omega] at this
    rw [← this]; simp
  let T : Nat → Bool := fun h => match (P ++ A ++ [y] ++ S)[h]? with
    | some e => !(negC (cm y e))
    | none => false
  refine Exists.elim (bs_loop (D := P ++ A ++ [y] ++ S) (f := fun (st13 : (List Int) × Int × Int) => (
          bif (decide (st13.2.1 < st13.2.2)) then
            bif decide (0 ≤ ((P.length + A.length : Nat) : Int)) && decide (((P.length + A.length : Nat) : Int) < (st13.1.length : Int)) then
              (st13.1[(Int.toNat ((P.length + A.length : Nat) : Int))]?).bind fun e14 =>
              bif decide (0 ≤ (w64 (shiftI .shr .u64 (IntKind.u64.wrap (w64 (st13.2.1 + st13.2.2))) 1))) && decide ((w64 (shiftI .shr .u64 (IntKind.u64.wrap (w64 (st13.2.1 + st13.2.2))) 1)) < (st13.1.length : Int)) then
                (st13.1[(Int.toNat (w64 (shiftI .shr .u64 (IntKind.u64.wrap (w64 (st13.2.1 + st13.2.2))) 1)))]?).bind fun e15 =>
                (cm e14 e15).bind fun r16 =>
                bif (!(decide (r16 < 0))) then
                  some (.inl (st13.1, (w64 ((w64 (shiftI .shr .u64 (IntKind.u64.wrap (w64 (st13.2.1 + st13.2.2))) 1)) + 1)), st13.2.2))
                else
                  some (.inl (st13.1, st13.2.1, (w64 (shiftI .shr .u64 (IntKind.u64.wrap (w64 (st13.2.1 + st13.2.2))) 1))))
              else
                none
            else
              none
          else
            some (.inr (st13.1, st13.2.1)) : Option (((List Int) × Int × Int) ⊕ (((List Int) × Int))))) T P.length (P.length + A.length) ?_ ?_ (A.length) P.length (P.length + A.length) (by omega) (Nat.le_refl _) (by omega) (Nat.le_refl _) (.inl rfl) (.inl rfl)) ?_
  · intro i j h1 h2 h3
    have hh : w64 (shiftI .shr .u64 (IntKind.u64.wrap (w64 ((i : Int) + (j : Int)))) 1) = (((i + j) / 2 : Nat) : Int) := half_eq (by omega)
    generalize hq : (i + j) / 2 = h at *
    have hb := ga h (by omega) (by omega)
    have hlt : h - P.length < A.length := by omega
    have hbv : A[h - P.length]? = some (A[h - P.length]'hlt) := by simp [hlt]
    obtain ⟨c, hc, _⟩ := cmp_of (hR _ (List.getElem_mem hlt))
    have hT : T h = !decide (c < 0) := by simp only [T, hb, hbv, hc, negC]
    simp only [hh, decide_eq_true (show (i : Int) < (j : Int) by omega), cond_true, Int.toNat_natCast, gy, hb, hbv, Option.bind_some, hT]
    rw [in_rng (by omega) (by simp only [List.length_append, List.length_cons, List.length_nil]; omega), in_rng (by omega) (by simp only [List.length_append, List.length_cons, List.length_nil]; omega)]
    simp only [cond_true, Option.bind_some, hc]
    rw [w64_of (x := (h : Int) + 1) (by omega) (by omega)]
    cases decide (c < 0) <;> rfl
  · intro i
    simp only [decide_eq_false (Int.lt_irrefl (i : Int)), cond_false]
  · intro r hr
    obtain ⟨hr, h1, h2, h3, h4⟩ := hr
    rw [hr]
    simp only [Option.bind_some]
    have h3' : r = P.length ∨ (P.length < r ∧ T (r - 1) = true) := by
      by_cases e : r = P.length
      · exact .inl e
      · exact .inr ⟨by omega, h3.resolve_left e⟩
    have h4' : r = P.length + A.length ∨ (r < P.length + A.length ∧ T r = false) := by
      by_cases e : r = P.length + A.length
      · exact .inl e
      · exact .inr ⟨by omega, h4.resolve_left e⟩
    have sp := split_at O hA (x := y) (q := r - P.length) (h3'.imp (fun e => by omega) fun ⟨hlo, hT⟩ => by
        have hb := ga (r - 1) (by omega) (by omega)
        have hlt : r - 1 - P.length < A.length := by omega
        have hbv : A[r - 1 - P.length]? = some (A[r - 1 - P.length]'hlt) := by simp [hlt]
        refine ⟨_, by rw [show r - P.length - 1 = r - 1 - P.length by omega]; exact hbv, ?_⟩
        obtain ⟨c, hc, hcase⟩ := cmp_of (hR _ (List.getElem_mem hlt))
        simp only [T, hb, hbv, hc, negC] at hT
        rcases hcase with ⟨h, _⟩ | ⟨_, h⟩
        · rw [h] at hT; cases hT
        · exact h) (h4'.imp (fun e => by omega) fun ⟨hbnd, hT⟩ => by
        have hb := ga r (by omega) hbnd
        have hlt : r - P.length < A.length := by omega
        have hbv : A[r - P.length]? = some (A[r - P.length]'hlt) := by simp [hlt]
        refine ⟨_, hbv, ?_⟩
        obtain ⟨c, hc, hcase⟩ := cmp_of (hR _ (List.getElem_mem hlt))
        simp only [T, hb, hbv, hc, negC] at hT
        rcases hcase with ⟨_, h⟩ | ⟨h, _⟩
        · exact h
        · rw [h] at hT; cases hT)
    have hdl : (A.drop (r - P.length)).length = P.length + A.length - r := by rw [List.length_drop]; omega
    have htl : (A.take (r - P.length)).length = r - P.length := by rw [List.length_take]; omega
    have e0 : P ++ A ++ [y] ++ S = (P ++ A.take (r - P.length)) ++ A.drop (r - P.length) ++ y :: S := by
      simp only [List.append_assoc, List.cons_append, List.nil_append]
      rw [← List.append_assoc (A.take _), List.take_append_drop]
    have hr' : (r : Int) = ((P ++ A.take (r - P.length)).length : Int) := by rw [List.length_append, htl]; omega
    have sh := shiftL_loop (P ++ A.take (r - P.length)) y (fun st19 => rfl) _ (A.drop (r - P.length)) S rfl (by simp only [List.length_append, List.length_cons, htl, hdl]; omega)
    rw [← hr', show (((P ++ A.take (r - P.length)).length + (A.drop (r - P.length)).length : Nat) : Int) = ((P.length + A.length : Nat) : Int) by rw [List.length_append, htl, hdl]; omega] at sh
    refine ⟨A.take (r - P.length) ++ y :: A.drop (r - P.length), ?_, ?_, ?_⟩
    · rw [e0]
      refine (congrArg (fun z => z.bind fun o22 => some o22) sh).trans ?_
      simp
    · have := (List.perm_middle (a := y) (l₁ := A.take (r - P.length)) (l₂ := A.drop (r - P.length)))
      rw [List.take_append_drop] at this
      exact this.trans (List.perm_append_comm (l₁ := [y]) (l₂ := A))
    · rw [← List.take_append_drop (r - P.length) A, List.pairwise_append] at hA
      rw [List.pairwise_append, List.pairwise_cons]
      refine ⟨hA.1, ⟨sp.2, hA.2.1⟩, fun a ha z hz => ?_⟩
      rcases List.mem_cons.1 hz with rfl | hz
      · exact sp.1 a ha
      · exact hA.2.2 a ha z hz
end
end Go.Ab
