/-
  Plain lemmas: loops without a bound, numbers that turn over.
-/
import Derived.Test.YtbbfieonkkgkkaaXAbs
namespace Go.Ab
open Go

theorem LoopTo.det {α β : Type} {f : α → Option (α ⊕ β)} {a : α} {b c : β} (h : LoopTo f a b) (k : LoopTo f a c) : b = c := by
  induction h with
  | done h => cases k with
    | done k => rw [h] at k; cases k; rfl
    | step k _ => rw [h] at k; cases k
  | step h _ ih => cases k with
    | done k => rw [h] at k; cases k
    | step k k' => rw [h] at k; cases k; exact ih k'

theorem loopE_of {α β : Type} {f : α → Option (α ⊕ β)} {a : α} {b : β} (h : LoopTo f a b) : loopE f a = some b := by
  unfold loopE
  have hx : ∃ b, LoopTo f a b := ⟨b, h⟩
  rw [dif_pos hx]
  exact congrArg some ((Classical.choose_spec hx).det h)

theorem loopE_to {α β : Type} {f : α → Option (α ⊕ β)} {a : α} {b : β} (h : loopE f a = some b) : LoopTo f a b := by
  unfold loopE at h
  split at h
  · rename_i hx; cases h; exact Classical.choose_spec hx
  · cases h

theorem loopE_done {α β : Type} {f : α → Option (α ⊕ β)} {a : α} {b : β} (h : f a = some (.inr b)) : loopE f a = some b := loopE_of (.done h)

theorem loopE_step {α β : Type} {f : α → Option (α ⊕ β)} {a a' : α} (h : f a = some (.inl a')) : loopE f a = loopE f a' := by
  cases e : loopE f a' with
  | some b => exact loopE_of (.step h (loopE_to e))
  | none =>
    cases e2 : loopE f a with
    | none => rfl
    | some b =>
      have := loopE_to e2
      cases this with
      | done k => rw [h] at k; cases k
      | step k k' => rw [h] at k; cases k; rw [loopE_of k'] at e; cases e

theorem w64_eq (x : Int) : w64 x = (x + 9223372036854775808) % 18446744073709551616 - 9223372036854775808 := by
  simp only [w64, IntKind.wrap, IntKind.signed, IntKind.bits]
  simp
  omega

theorem w64_of {x : Int} (h1 : -9223372036854775808 ≤ x) (h2 : x ≤ 9223372036854775807) : w64 x = x := by rw [w64_eq]; omega
theorem w64_add_left (a b : Int) : w64 (w64 a + b) = w64 (a + b) := by simp only [w64_eq]; omega
theorem w64_add_right (a b : Int) : w64 (a + w64 b) = w64 (a + b) := by simp only [w64_eq]; omega
theorem w64_sub_left (a b : Int) : w64 (w64 a - b) = w64 (a - b) := by simp only [w64_eq]; omega
theorem w64_sub_right (a b : Int) : w64 (a - w64 b) = w64 (a - b) := by simp only [w64_eq]; omega
theorem w64_range (x : Int) : -9223372036854775808 ≤ w64 x ∧ w64 x ≤ 9223372036854775807 := by rw [w64_eq]; omega
end Go.Ab
