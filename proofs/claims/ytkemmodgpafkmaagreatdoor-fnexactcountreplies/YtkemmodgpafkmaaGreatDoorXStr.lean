/-
  Plain lemmas on texts: cutting at a letter.
-/
import Derived.Test.YtkemmodgpafkmaaGreatDoorXExt2
import Derived.Test.YtkemmodgpafkmaaGreatDoorXLaw
namespace Go.Ab
open Go Go.Lib
def cut (c : UInt8) : Bytes → List Bytes
  | [] => [[]]
  | x :: r => bif decide (x = c) then [] :: cut c r else match cut c r with
    | [] => [[x]]
    | y :: ys => (x :: y) :: ys
def onto (p : Bytes) : List Bytes → List Bytes
  | [] => [p]
  | y :: ys => (p ++ y) :: ys
theorem cut_ne (c : UInt8) : ∀ s : Bytes, cut c s ≠ []
  | [] => by simp [cut]
  | x :: r => by
    unfold cut
    cases decide (x = c) with
    | true => simp
    | false =>
      simp only [cond_false]
      split <;> simp
theorem onto_nil {l : List Bytes} (h : l ≠ []) : onto [] l = l := by
  cases l with
  | nil => exact absurd rfl h
  | cons y ys => simp [onto]
theorem onto_cut (c x : UInt8) (p r : Bytes) (h : x ≠ c) : onto p (cut c (x :: r)) = onto (p ++ [x]) (cut c r) := by
  have : decide (x = c) = false := by simpa using h
  have hne := cut_ne c r
  simp only [cut, this, cond_false]
  cases hc : cut c r with
  | nil => exact absurd hc hne
  | cons y ys => simp [onto]
theorem cut_len (c : UInt8) : ∀ s : Bytes, (cut c s).length ≤ s.length + 1
  | [] => by simp [cut]
  | x :: r => by
    have ih := cut_len c r
    unfold cut
    cases decide (x = c) with
    | true => simp; omega
    | false =>
      simp only [cond_false]
      split
      · simp
      · rename_i e
        rw [e] at ih
        simp only [List.length_cons] at ih ⊢; omega
theorem cut_last (c : UInt8) : ∀ s : Bytes, cut c (s ++ [c]) = cut c s ++ [[]]
  | [] => by simp [cut]
  | x :: r => by
    have ih := cut_last c r
    have hne := cut_ne c r
    simp only [List.cons_append]
    unfold cut
    cases decide (x = c) with
    | true => simp [ih]
    | false =>
      simp only [cond_false, ih]
      cases hc : cut c r with
      | nil => exact absurd hc hne
      | cons y ys => simp
theorem splitK_cut (c : UInt8) : ∀ s : Bytes, splitK [c] 0 (count s [c]) s = cut c s
  | [] => by rw [count_miss (by simp [index])]; rfl
  | b :: l => by
    have ih := splitK_cut c l
    by_cases h : b = c
    · subst h
      have hix : index (b :: l) [b] = ((0 : Nat) : Int) := by rw [index]; simp [List.isPrefixOf]
      rw [count_cons_eq, Nat.add_comm, splitK, hix]
      simp [cut, ih]
    · have hp : ([c] : List UInt8).isPrefixOf (b :: l) = false := by simp [List.isPrefixOf, Ne.symm h]
      have hix : index (b :: l) [c] = if index l [c] == -1 then -1 else index l [c] + 1 := by rw [index, hp]; simp
      have hd : decide (b = c) = false := by simpa using h
      rw [count_cons_ne b c l h]
      by_cases hm : index l [c] = -1
      · rw [count_miss hm] at ih ⊢
        simp only [splitK] at ih ⊢
        simp only [cut, hd, cond_false, ← ih]
      · have hge := index_ge l [c]
        obtain ⟨j, hj⟩ : ∃ j : Nat, index l [c] = j := ⟨(index l [c]).toNat, by omega⟩
        have hix' : index (b :: l) [c] = ((j + 1 : Nat) : Int) := by rw [hix, if_neg (fun e => hm (beq_iff_eq.1 e)), hj]; omega
        have hk : count l [c] = 1 + count (l.drop (j + 1)) [c] := by have := count_hit (s := l) (sub := [c]) (by simp) hj; simpa using this
        rw [hk, Nat.add_comm 1] at ih ⊢
        have n1 : ¬ ((index l [c] == -1) = true) := fun e => hm (beq_iff_eq.1 e)
        have n2 : ¬ ((index (b :: l) [c] == -1) = true) := fun e => by have := beq_iff_eq.1 e; rw [hix'] at this; omega
        rw [splitK, if_neg n1] at ih
        rw [splitK, if_neg n2]
        simp only [cut, hd, cond_false, ← ih, hix', hj]
        simp
theorem splitF_one {s : Bytes} {c : UInt8} (h : s.length < 4294967281) : splitF s [c] = some (cut c s) := by
  unfold splitF
  rw [if_pos ⟨h, by simp⟩]
  congr 1
  rw [splitB_data]
  exact splitK_cut c s
theorem sub_all {α : Type} {xs : List α} {k : Nat} (h : k ≤ xs.length) : sub xs (k : Int) (xs.length : Int) = some (xs.drop k) := by
  unfold sub
  rw [if_pos ⟨by omega, by omega, by omega⟩]
  simp
theorem sub_mid {α : Type} (a b c : List α) : sub (a ++ b ++ c) (a.length : Int) ((a.length + b.length : Nat) : Int) = some b := by
  unfold sub
  rw [if_pos ⟨by omega, by omega, by simp; omega⟩]
  simp only [Int.toNat_natCast]
  rw [List.take_append_of_le_length (by simp)]
  rw [List.take_of_length_le (by simp), List.drop_left]
theorem split_loop {s : Bytes} {b : Int} {c : UInt8} (hb : (c.toNat : Int) = b) (hl : s.length < 4294967290) :
    ((loopE (fun (st2 : (List Bytes) × Int × Int) => (
      bif (decide (st2.2.2 < (s.length : Int))) then
        (idx s st2.2.2).bind fun b3 =>
        bif (decide ((b3.toNat : Int) = b)) then
          (sub s st2.2.1 st2.2.2).bind fun l4 =>
          bif decide (List.length st2.1 + List.length [l4] ≤ lim) then
            some (.inl ((st2.1 ++ [l4]), (w64 (st2.2.2 + 1)), (w64 (st2.2.2 + 1))))
          else
            none
        else
          some (.inl (st2.1, st2.2.1, (w64 (st2.2.2 + 1))))
      else
        some (.inr (st2.1, st2.2.1)) : Option (((List Bytes) × Int × Int) ⊕ (((List Bytes) × Int))))) ([], 0, 0)).bind fun o5 =>
    (sub s o5.2 (s.length : Int)).bind fun l6 =>
    bif decide (List.length o5.1 + List.length [l6] ≤ lim) then
      some (o5.1 ++ [l6])
    else
      none) = some (cut c s) := by
  have hlim : lim = 4294967296 := rfl
  generalize hf : (fun (st2 : (List Bytes) × Int × Int) => (
      bif (decide (st2.2.2 < (s.length : Int))) then
        (idx s st2.2.2).bind fun b3 =>
        bif (decide ((b3.toNat : Int) = b)) then
          (sub s st2.2.1 st2.2.2).bind fun l4 =>
          bif decide (List.length st2.1 + List.length [l4] ≤ lim) then
            some (.inl ((st2.1 ++ [l4]), (w64 (st2.2.2 + 1)), (w64 (st2.2.2 + 1))))
          else
            none
        else
          some (.inl (st2.1, st2.2.1, (w64 (st2.2.2 + 1))))
      else
        some (.inr (st2.1, st2.2.1)) : Option (((List Bytes) × Int × Int) ⊕ (((List Bytes) × Int))))) = f
  have main : ∀ (r pre cur : Bytes) (out : List Bytes), s = pre ++ cur ++ r → out.length ≤ pre.length → ∃ o, loopE f (out, (pre.length : Int), ((pre.length + cur.length : Nat) : Int)) = some o ∧
      ∃ k : Nat, o.2 = (k : Int) ∧ k ≤ s.length ∧ o.1.length ≤ s.length ∧ o.1 ++ [s.drop k] = out ++ onto cur (cut c r) := by
    intro r
    induction r with
    | nil =>
      intro pre cur out e ho
      rw [List.append_nil] at e
      have hsl : s.length = pre.length + cur.length := by rw [e]; simp
      refine ⟨(out, (pre.length : Int)), loopE_done ?_, pre.length, rfl, by omega, by simp only; omega, ?_⟩
      · rw [← hf]
        simp only
        rw [show decide (((pre.length + cur.length : Nat) : Int) < (s.length : Int)) = false from decide_eq_false (by omega)]
        rfl
      · simp only [cut, onto]
        rw [e, List.drop_left]
        simp
    | cons x r ih =>
      intro pre cur out e ho
      have hsl : s.length = pre.length + cur.length + (r.length + 1) := by rw [e]; simp only [List.length_append, List.length_cons]
      have hx : idx s ((pre.length + cur.length : Nat) : Int) = some x := by
        rw [idx_get, e]
        rw [show pre ++ cur ++ x :: r = (pre ++ cur) ++ x :: r from rfl, List.getElem?_append_right (by simp)]
        simp
      have hw : w64 (((pre.length + cur.length : Nat) : Int) + 1) = ((pre.length + cur.length + 1 : Nat) : Int) := by rw [w64_of (by omega) (by omega)]; omega
      by_cases hxc : x = c
      · subst hxc
        have hstep : f (out, (pre.length : Int), ((pre.length + cur.length : Nat) : Int)) = some (.inl (out ++ [cur], ((pre ++ cur ++ [x]).length : Int), (((pre ++ cur ++ [x]).length + ([] : Bytes).length : Nat) : Int))) := by
          rw [← hf]
          simp only
          rw [show decide (((pre.length + cur.length : Nat) : Int) < (s.length : Int)) = true from decide_eq_true (by omega), hx]
          simp only [cond_true, Option.bind_some]
          rw [show decide ((x.toNat : Int) = b) = true by simpa using hb]
          have h4 : sub s (pre.length : Int) ((pre.length + cur.length : Nat) : Int) = some cur := by rw [e]; exact sub_mid pre cur (x :: r)
          simp only [cond_true, h4, Option.bind_some, List.length_cons, List.length_nil]
          rw [show decide (out.length + (0 + 1) ≤ lim) = true from decide_eq_true (by omega), hw]
          simp only [cond_true, List.length_append, List.length_cons, List.length_nil, Nat.zero_add, Nat.add_zero]
        obtain ⟨o, h1, k, h2, h3, h4, h5⟩ := ih (pre ++ cur ++ [x]) [] (out ++ [cur]) (by rw [e]; simp) (by simp; omega)
        refine ⟨o, (loopE_step hstep).trans h1, k, h2, h3, h4, h5.trans ?_⟩
        rw [onto_nil (cut_ne x r)]
        simp [cut, onto]
      · have hstep : f (out, (pre.length : Int), ((pre.length + cur.length : Nat) : Int)) = some (.inl (out, (pre.length : Int), ((pre.length + (cur ++ [x]).length : Nat) : Int))) := by
          rw [← hf]
          simp only
          rw [show decide (((pre.length + cur.length : Nat) : Int) < (s.length : Int)) = true from decide_eq_true (by omega), hx]
          simp only [cond_true, Option.bind_some]
          rw [show decide ((x.toNat : Int) = b) = false by
            rw [← hb]
            simp only [decide_eq_false_iff_not]
            intro h
            exact hxc (UInt8.toNat_inj.1 (by omega)), hw]
          simp only [cond_false, List.length_append, List.length_cons, List.length_nil]
          rfl
        obtain ⟨o, h1, k, h2, h3, h4, h5⟩ := ih pre (cur ++ [x]) out (by rw [e]; simp) ho
        refine ⟨o, (loopE_step hstep).trans h1, k, h2, h3, h4, h5.trans ?_⟩
        rw [onto_cut c x cur r hxc]
  obtain ⟨o, h1, k, h2, h3, h4, h5⟩ := main s [] [] [] rfl (Nat.le_refl _)
  have h1 : loopE f ([], 0, 0) = some o := h1
  rw [h1]
  simp only [Option.bind_some, h2]
  rw [sub_all h3]
  simp only [Option.bind_some, List.length_cons, List.length_nil]
  rw [show decide (o.1.length + (0 + 1) ≤ lim) = true from decide_eq_true (by omega), h5, onto_nil (cut_ne c s)]
  rfl
end Go.Ab
