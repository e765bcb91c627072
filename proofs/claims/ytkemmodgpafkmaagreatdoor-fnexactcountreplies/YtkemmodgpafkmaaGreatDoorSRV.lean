/-
  Lines put together and taken apart.
-/
import Derived.Test.YtkemmodgpafkmaaGreatDoorXStr
namespace Go.Ab
open Go
def glue (ls : List Bytes) : Bytes := ls.flatMap fun x => x ++ [10]
theorem glue_cons (l : Bytes) (ls : List Bytes) : glue (l :: ls) = l ++ 10 :: glue ls := by simp [glue]
theorem glue_app (a b : List Bytes) : glue (a ++ b) = glue a ++ glue b := by simp [glue]
theorem cut_parts : ∀ s : Bytes, ∃ front last, cut 10 s = front ++ [last] ∧ s = glue front ++ last
  | [] => ⟨[], [], rfl, rfl⟩
  | x :: r => by
    obtain ⟨front, last, h1, h2⟩ := cut_parts r
    by_cases hx : x = 10
    · subst hx
      refine ⟨[] :: front, last, ?_, ?_⟩
      · unfold cut
        rw [decide_eq_true rfl, h1]
        rfl
      · rw [glue_cons, List.nil_append, List.cons_append, ← h2]
    · cases front with
      | nil =>
        refine ⟨[], x :: last, ?_, ?_⟩
        · unfold cut
          rw [decide_eq_false hx, h1]
          rfl
        · rw [h2]; rfl
      | cons y ys =>
        refine ⟨(x :: y) :: ys, last, ?_, ?_⟩
        · unfold cut
          rw [decide_eq_false hx, h1]
          rfl
        · rw [h2, glue_cons, glue_cons]; rfl
theorem cut_free : ∀ (s : Bytes), ∀ l ∈ cut 10 s, (10 : UInt8) ∉ l
  | [], l, h => by simp [cut] at h; rw [h]; simp
  | x :: r, l, h => by
    have ih := cut_free r
    unfold cut at h
    by_cases hx : x = 10
    · rw [decide_eq_true hx] at h
      simp only [cond_true, List.mem_cons] at h
      rcases h with h | h
      · rw [h]; simp
      · exact ih l h
    · rw [decide_eq_false hx] at h
      simp only [cond_false] at h
      have hx' : ¬ (10 : UInt8) = x := fun e => hx e.symm
      split at h
      · simp only [List.mem_singleton] at h
        rw [h]; simp [hx']
      · rename_i y ys e
        rw [e] at ih
        simp only [List.mem_cons] at h
        rcases h with h | h
        · have := ih y (by simp)
          rw [h, List.mem_cons]
          rintro (k | k)
          · exact hx' k
          · exact this k
        · exact ih l (List.mem_cons_of_mem _ h)
theorem glue_ends {s : Bytes} (h : s = [] ∨ s.getLast? = some 10) : glue (cut 10 s).dropLast = s := by
  obtain ⟨front, last, h1, h2⟩ := cut_parts s
  have hl : last = [] := by
    rcases h with rfl | h
    · have := congrArg List.length h2
      simp at this
      exact List.eq_nil_of_length_eq_zero (by omega)
    · obtain ⟨t, rfl⟩ : ∃ t, s = t ++ [10] := by
        rcases List.eq_nil_or_concat s with rfl | ⟨t, x, e⟩
        · cases h
        · have e : s = t ++ [x] := e.trans (by simp)
          rw [e] at h
          simp at h
          exact ⟨t, by rw [e, h]⟩
      rw [cut_last] at h1
      exact ((List.append_inj' h1 rfl).2 |> List.cons.inj).1.symm
  rw [h1, List.dropLast_concat]
  rw [hl, List.append_nil] at h2
  exact h2.symm
end Go.Ab
namespace Go.Ab
open Go
section
variable {S : Type} (f : S → Bytes → S × Bytes) (bad : Bytes → Bool)
def runV : S → List Bytes → S × List Bytes
  | s, [] => (s, [])
  | s, t :: r => ((runV (f s t).1 r).1, (f s t).2 :: (runV (f s t).1 r).2)
theorem run_len : ∀ (ls : List Bytes) (s : S), (runV f s ls).2.length = ls.length
  | [], _ => rfl
  | t :: r, s => by simp only [runV, List.length_cons, run_len r]
theorem run_app : ∀ (a b : List Bytes) (s : S), runV f s (a ++ b) = ((runV f (runV f s a).1 b).1, (runV f s a).2 ++ (runV f (runV f s a).1 b).2)
  | [], b, s => rfl
  | t :: r, b, s => by simp only [List.cons_append, runV, run_app r b]
theorem run_snoc (a : List Bytes) (t : Bytes) (s : S) : runV f s (a ++ [t]) = ((f (runV f s a).1 t).1, (runV f s a).2 ++ [(f (runV f s a).1 t).2]) := by rw [run_app]; rfl
def keepL : List Bytes → List Bytes → List Bytes
  | t :: ls, r :: rs => bif bad r then keepL ls rs else t :: keepL ls rs
  | _, _ => []
def badNos : Nat → List Bytes → List Int
  | _, [] => []
  | k, r :: rs => bif bad r then (k : Int) :: badNos (k + 1) rs else badNos (k + 1) rs
theorem badNos_len : ∀ (rs : List Bytes) (k : Nat), (badNos bad k rs).length = rs.countP bad
  | [], k => rfl
  | r :: rs, k => by
    have ih := badNos_len rs (k + 1)
    simp only [badNos, List.countP_cons]
    cases bad r with
    | false => simpa using ih
    | true => simp [ih]
theorem badNos_snoc : ∀ (rs : List Bytes) (k : Nat) (r : Bytes), badNos bad k (rs ++ [r]) = badNos bad k rs ++ (bif bad r then [((k + rs.length : Nat) : Int)] else [])
  | [], k, r => by simp only [List.nil_append, badNos]; cases bad r <;> rfl
  | x :: rs, k, r => by
    have ih := badNos_snoc rs (k + 1) r
    simp only [List.cons_append, badNos, ih, List.length_cons]
    rw [show k + 1 + rs.length = k + (rs.length + 1) by omega]
    cases bad x <;> rfl
end
end Go.Ab
