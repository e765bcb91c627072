/-
  Plain lemmas for what the laws do around a call: copies, comparisons, marks.
-/
import Derived.Test.YtffmiefhnbkcbaaGreatXPlain
namespace Go.Ab
open Go
theorem all_loop {α β : Type} {l : List α} {f : Int → Option (Int ⊕ (Unit ⊕ β))} (t : α → Bool) (y : β)
    (hf : ∀ (i : Nat) x, l[i]? = some x → i < l.length → f i = some (bif t x then .inl ((i : Int) + 1) else .inr (.inr y))) (hend : f l.length = some (.inr (.inl ()))) :
    loopE f 0 = some (bif l.all t then .inl () else .inr y) := by
  rw [for_loop (a := l) (fun (_ : Unit) i => i) (fun _ _ x => some (bif t x then .inl () else .inr (.inr y))) (fun _ => .inl ()) () rfl (fun _ i x hi hx => ?_) (fun _ => hend)]
  · obtain ⟨h1, h2⟩ := all_res t (fun _ => y) l 0
    cases ha : l.all t with
    | true => rw [h1 ha]; rfl
    | false => obtain ⟨_, _, e⟩ := h2 ha; rw [e]; rfl
  · rw [hf i x hx hi]
    cases t x <;> rfl
def firstAt {α : Type} (t : α → Bool) : List α → Nat → Option Nat
  | [], _ => none
  | x :: r, i => bif t x then some i else firstAt t r (i + 1)
theorem find_loop {α : Type} {l : List α} {f : Int → Option (Int ⊕ (Unit ⊕ Int))} (t : α → Bool)
    (hf : ∀ (i : Nat) x, l[i]? = some x → i < l.length → f i = some (bif t x then .inr (.inr (i : Int)) else .inl ((i : Int) + 1))) (hend : f l.length = some (.inr (.inl ()))) :
    loopE f 0 = some (match firstAt t l 0 with | some i => .inr (i : Int) | none => .inl ()) := by
  rw [for_loop (a := l) (fun (_ : Unit) i => i) (fun _ i x => some (bif t x then .inr (.inr (i : Int)) else .inl ())) (fun _ => .inl ()) () rfl (fun _ i x hi hx => ?_) (fun _ => hend)]
  · have main : ∀ (r : List α) (i : Nat), forRes (ρ := Unit ⊕ Int) (fun (_ : Unit) i x => some (bif t x then .inr (.inr (i : Int)) else .inl ())) (fun _ => .inl ()) () i r = some (match firstAt t r i with | some i => .inr (i : Int) | none => .inl ()) := by
      intro r
      induction r with
      | nil => intro i; rfl
      | cons x r ih =>
        intro i
        simp only [forRes, firstAt, Option.bind_some]
        cases t x with
        | true => rfl
        | false => exact ih (i + 1)
    exact main l 0
  · rw [hf i x hx hi]
    cases t x <;> rfl
theorem all_loop_at {β : Type} {n : Nat} {f : Int → Option (Int ⊕ (Unit ⊕ β))} (T : Nat → Bool) (y : β)
    (hf : ∀ (i : Nat), i < n → f i = some (bif T i then .inl ((i : Int) + 1) else .inr (.inr y))) (hend : f n = some (.inr (.inl ()))) :
    loopE f 0 = some (bif (List.range n).all T then .inl () else .inr y) := by
  refine all_loop (l := List.range n) T y (fun i x hx hi => ?_) (by rw [List.length_range]; exact hend)
  rw [List.length_range] at hi
  rw [List.getElem?_range hi] at hx
  cases hx
  exact hf i hi
theorem firstAt_take {α : Type} (t : α → Bool) : ∀ (l : List α) (i k : Nat) (x : α), l[i]? = some x → t x = true → (firstAt t l k = some (k + i) ↔ firstAt t (l.take i) k = none)
  | [], i, _, _, h, _ => by simp at h
  | y :: l, 0, k, x, h, hx => by
    simp at h
    subst h
    simp [firstAt, hx]
  | y :: l, i + 1, k, x, h, hx => by
    have ih := firstAt_take t l i (k + 1) x (by simpa using h) hx
    simp only [firstAt, List.take_succ_cons]
    cases hy : t y with
    | true =>
      simp only [cond_true, Option.some.injEq]
      exact ⟨fun h => by omega, fun h => by cases h⟩
    | false =>
      simp only [cond_false]
      rw [show k + (i + 1) = k + 1 + i by omega]
      exact ih
theorem copy_loop {α β : Type} {l : List α} {z : β} (g : α → β) {f : List β × Int → Option ((List β × Int) ⊕ List β)} (hl : l.length ≤ 1048576)
    (hf : ∀ (out : List β) (i : Nat) x, l[i]? = some x → i < l.length → f (out, (i : Int)) = bif decide (0 ≤ (i : Int)) && decide ((i : Int) < (out.length : Int)) then some (.inl (out.set (Int.toNat (i : Int)) (g x), w64 ((i : Int) + 1))) else none)
    (hend : ∀ out, f (out, (l.length : Int)) = some (.inr out)) : loopE f (List.replicate (Int.toNat (l.length : Int)) z, 0) = some (l.map g) := by
  rw [for_loop (a := l) Prod.mk (fun (out : List β) i x => if i < out.length then some (.inl (out.set i (g x))) else none) (fun out => out) (List.replicate l.length z) ?_ ?_ ?_]
  · have := copy_res g l [] (List.replicate l.length z) (by simp)
    simpa using this
  · rfl
  · intro out i x hi hx
    rw [hf out i x hx hi, w64_of (by omega) (by omega)]
    by_cases h2 : i < out.length
    · rw [if_pos h2, show (decide (0 ≤ (i : Int)) && decide ((i : Int) < (out.length : Int))) = true by simp; omega]
      rfl
    · rw [if_neg h2, show (decide (0 ≤ (i : Int)) && decide ((i : Int) < (out.length : Int))) = false by simp; omega]
      rfl
  · intro out; exact hend out
theorem copy_guard {n : Nat} (h : n ≤ 1048576) : (decide (0 ≤ (n : Int)) && decide ((n : Int) ≤ (n : Int)) && decide ((n : Int) ≤ lim)) = true := by
  have hlim : (lim : Int) = 4294967296 := rfl
  simp; omega
end Go.Ab
