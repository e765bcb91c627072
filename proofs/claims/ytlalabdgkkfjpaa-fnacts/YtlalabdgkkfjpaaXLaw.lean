/-
  Plain lemmas for what the laws do around a call: copies, comparisons, marks.
-/
import Derived.Test.YtlalabdgkkfjpaaXPlain
namespace Go.Ab
open Go
theorem all_loop {α β : Type} {l : List α} {f : Int → Option (Int ⊕ (Unit ⊕ β))} (t : α → Bool) (y : β)
    (hf : ∀ (i : Nat) x, l[i]? = some x → i < l.length → f i = some (bif t x then .inl ((i : Int) + 1) else .inr (.inr y))) (hend : f l.length = some (.inr (.inl ()))) :
    loopE f 0 = some (bif l.all t then .inl () else .inr y) := by
  rw [for_loop (a := l) (fun (_ : Unit) i => i) (fun _ _ x => some (bif t x then .inl () else .inr (.inr y))) (fun _ => .inl ()) () rfl (fun _ i x hi hx => ?_) (fun _ => hend)]
  · obtain ⟨h1, h2⟩ := all_res t (fun _ => y) l 0
    cases ha : l.all t with
    | true => rw [h1 ha]; rfl
    | false => obtain ⟨_, _, e⟩ := h2 ha; rw [e]; rfl
  · rw [hf i x hx hi]
    cases t x <;> rfl
def firstAt {α : Type} (t : α → Bool) : List α → Nat → Option Nat
  | [], _ => none
  | x :: r, i => bif t x then some i else firstAt t r (i + 1)
theorem find_loop {α : Type} {l : List α} {f : Int → Option (Int ⊕ (Unit ⊕ Int))} (t : α → Bool)
    (hf : ∀ (i : Nat) x, l[i]? = some x → i < l.length → f i = some (bif t x then .inr (.inr (i : Int)) else .inl ((i : Int) + 1))) (hend : f l.length = some (.inr (.inl ()))) :
    loopE f 0 = some (match firstAt t l 0 with | some i => .inr (i : Int) | none => .inl ()) := by
  rw [for_loop (a := l) (fun (_ : Unit) i => i) (fun _ i x => some (bif t x then .inr (.inr (i : Int)) else .inl ())) (fun _ => .inl ()) () rfl (fun _ i x hi hx => ?_) (fun _ => hend)]
  · have main : ∀ (r : List α) (i : Nat), forRes (ρ := Unit ⊕ Int) (fun (_ : Unit) i x => some (bif t x then .inr (.inr (i : Int)) else .inl ())) (fun _ => .inl ()) () i r = some (match firstAt t r i with | some i => .inr (i : Int) | none => .inl ()) := by
      intro r
      induction r with
      | nil => intro i; rfl
      | cons x r ih =>
        intro i
        simp only [forRes, firstAt, Option.bind_some]
        cases t x with
        | true => rfl
        | false => exact ih (i + 1)
    exact main l 0
  · rw [hf i x hx hi]
    cases t x <;> rfl
def total {α : Type} (cnt : α → Nat) : List α → Nat
  | [] => 0
  | x :: r => cnt x + total cnt r
theorem all_loop_at {β : Type} {n : Nat} {f : Int → Option (Int ⊕ (Unit ⊕ β))} (T : Nat → Bool) (y : β)
    (hf : ∀ (i : Nat), i < n → f i = some (bif T i then .inl ((i : Int) + 1) else .inr (.inr y))) (hend : f n = some (.inr (.inl ()))) :
    loopE f 0 = some (bif (List.range n).all T then .inl () else .inr y) := by
  refine all_loop (l := List.range n) T y (fun i x hx hi => ?_) (by rw [List.length_range]; exact hend)
  rw [List.length_range] at hi
  rw [List.getElem?_range hi] at hx
  cases hx
  exact hf i hi
theorem one_loop {τ ρ : Type} {n : Nat} {f : τ → Option (τ ⊕ ρ)} (R : Nat → τ → Prop) (Q : ρ → Prop)
    (step : ∀ i a, i < n → R i a → (∃ a', f a = some (.inl a') ∧ R (i + 1) a') ∨ ∃ y, f a = some (.inr y) ∧ Q y)
    (fin : ∀ a, R n a → ∃ y, f a = some (.inr y) ∧ Q y) :
    ∀ (k i : Nat) (a : τ), i + k = n → R i a → ∃ y, loopE f a = some y ∧ Q y
  | 0, i, a, h, r => by
    obtain rfl : i = n := by omega
    obtain ⟨y, h1, h3⟩ := fin a r
    exact ⟨y, loopE_done h1, h3⟩
  | k + 1, i, a, h, r => by
    rcases step i a (by omega) r with ⟨a', h1, h3⟩ | ⟨y, h1, h3⟩
    · rw [loopE_step h1]
      exact one_loop R Q step fin k (i + 1) a' (by omega) h3
    · exact ⟨y, loopE_done h1, h3⟩
end Go.Ab
