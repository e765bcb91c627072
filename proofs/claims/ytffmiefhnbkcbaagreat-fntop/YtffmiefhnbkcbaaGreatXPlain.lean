/-
  Plain lemmas: loops without a bound, numbers that turn over.
-/
import Derived.Test.YtffmiefhnbkcbaaGreatXRel
namespace Go.Ab
open Go
theorem LoopTo.det {α β : Type} {f : α → Option (α ⊕ β)} {a : α} {b c : β} (h : LoopTo f a b) (k : LoopTo f a c) : b = c := by
  induction h with
  | done h => cases k with
    | done k => rw [h] at k; cases k; rfl
    | step k _ => rw [h] at k; cases k
  | step h _ ih => cases k with
    | done k => rw [h] at k; cases k
    | step k k' => rw [h] at k; cases k; exact ih k'
theorem loopE_of {α β : Type} {f : α → Option (α ⊕ β)} {a : α} {b : β} (h : LoopTo f a b) : loopE f a = some b := by
  unfold loopE
  have hx : ∃ b, LoopTo f a b := ⟨b, h⟩
  rw [dif_pos hx]
  exact congrArg some ((Classical.choose_spec hx).det h)
theorem loopE_to {α β : Type} {f : α → Option (α ⊕ β)} {a : α} {b : β} (h : loopE f a = some b) : LoopTo f a b := by
  unfold loopE at h
  split at h
  · rename_i hx; cases h; exact Classical.choose_spec hx
  · cases h
theorem loopE_done {α β : Type} {f : α → Option (α ⊕ β)} {a : α} {b : β} (h : f a = some (.inr b)) : loopE f a = some b := loopE_of (.done h)
theorem loopE_step {α β : Type} {f : α → Option (α ⊕ β)} {a a' : α} (h : f a = some (.inl a')) : loopE f a = loopE f a' := by
  cases e : loopE f a' with
  | some b => exact loopE_of (.step h (loopE_to e))
  | none =>
    cases e2 : loopE f a with
    | none => rfl
    | some b =>
      have := loopE_to e2
      cases this with
      | done k => rw [h] at k; cases k
      | step k k' => rw [h] at k; cases k; rw [loopE_of k'] at e; cases e
theorem w64_eq (x : Int) : w64 x = (x + 9223372036854775808) % 18446744073709551616 - 9223372036854775808 := by
  simp only [w64, IntKind.wrap, IntKind.signed, IntKind.bits]
  simp
  omega
theorem w64_of {x : Int} (h1 : -9223372036854775808 ≤ x) (h2 : x ≤ 9223372036854775807) : w64 x = x := by rw [w64_eq]; omega
theorem loopE_none {α β : Type} {f : α → Option (α ⊕ β)} {a : α} (h : f a = none) : loopE f a = none := by
  cases e : loopE f a with
  | none => rfl
  | some b =>
    have := loopE_to e
    cases this with
    | done k => rw [h] at k; cases k
    | step k _ => rw [h] at k; cases k
theorem idx_get {α : Type} {xs : List α} {i : Nat} : idx xs (i : Int) = xs[i]? := by
  unfold idx
  rw [if_neg (by omega)]
  rfl
def forRes {α σ ρ : Type} (step : σ → Nat → α → Option (σ ⊕ ρ)) (fin : σ → ρ) : σ → Nat → List α → Option ρ
  | s, _, [] => some (fin s)
  | s, i, x :: r => (step s i x).bind fun z => match z with
    | .inl s' => forRes step fin s' (i + 1) r
    | .inr y => some y
theorem for_loop {α σ τ ρ : Type} {a : List α} {f : τ → Option (τ ⊕ ρ)} {init : τ} (mk : σ → Int → τ) (step : σ → Nat → α → Option (σ ⊕ ρ)) (fin : σ → ρ) (s : σ) (hinit : init = mk s 0)
    (hf : ∀ s i x, i < a.length → a[i]? = some x → f (mk s i) = (step s i x).bind fun z => match z with
      | .inl s' => some (.inl (mk s' ((i : Int) + 1)))
      | .inr y => some (.inr y)) (hend : ∀ s, f (mk s a.length) = some (.inr (fin s))) : loopE f init = forRes step fin s 0 a := by
  have main : ∀ (r pre : List α) (s : σ), a = pre ++ r → loopE f (mk s pre.length) = forRes step fin s pre.length r := by
    intro r
    induction r with
    | nil =>
      intro pre s e
      rw [List.append_nil] at e
      subst e
      exact loopE_done (hend s)
    | cons x r ih =>
      intro pre s e
      have hx : a[pre.length]? = some x := by rw [e]; simp
      have hlt : pre.length < a.length := by rw [e]; simp
      have h := hf s pre.length x hlt hx
      simp only [forRes]
      cases hs : step s pre.length x with
      | none => rw [hs] at h; exact loopE_none h
      | some z =>
        rw [hs] at h
        cases z with
        | inr y => exact loopE_done h
        | inl s' =>
          rw [loopE_step h]
          have := ih (pre ++ [x]) s' (by rw [e]; simp)
          simp only [List.length_append, List.length_cons, List.length_nil, Nat.zero_add] at this
          exact this
  rw [hinit]
  exact main a [] s rfl
theorem copy_res {α β : Type} (g : α → β) : ∀ (r : List α) (pre suf : List β), suf.length = r.length →
    forRes (ρ := List β) (fun (out : List β) i x => if i < out.length then some (.inl (out.set i (g x))) else none) (fun out => out) (pre ++ suf) pre.length r = some (pre ++ r.map g)
  | [], pre, suf, h => by
    have : suf = [] := List.eq_nil_of_length_eq_zero h
    subst this
    simp [forRes]
  | x :: r, pre, suf, h => by
    cases suf with
    | nil => cases h
    | cons y suf =>
      have ih := copy_res g r (pre ++ [g x]) suf (by simpa using h)
      simp only [forRes]
      rw [if_pos (by simp)]
      simp only [Option.bind_some]
      have e : (pre ++ y :: suf).set pre.length (g x) = pre ++ [g x] ++ suf := by
        rw [List.set_append_right _ _ (Nat.le_refl _)]
        simp
      rw [e]
      simp only [List.length_append, List.length_cons, List.length_nil, Nat.zero_add] at ih
      rw [ih]
      simp
theorem all_res {α β : Type} (t : α → Bool) (g : Nat → β) : ∀ (r : List α) (i : Nat),
    (r.all t = true → forRes (ρ := Unit ⊕ β) (fun (_ : Unit) i x => some (bif t x then .inl () else .inr (.inr (g i)))) (fun _ => .inl ()) () i r = some (.inl ())) ∧
    (r.all t = false → ∃ j, i ≤ j ∧ forRes (ρ := Unit ⊕ β) (fun (_ : Unit) i x => some (bif t x then .inl () else .inr (.inr (g i)))) (fun _ => .inl ()) () i r = some (.inr (g j)))
  | [], i => ⟨fun _ => rfl, (fun h => by cases h)⟩
  | x :: r, i => by
    obtain ⟨h1, h2⟩ := all_res t g r (i + 1)
    simp only [List.all_cons, forRes, Option.bind_some]
    cases t x with
    | false => exact ⟨(fun h => by cases h), fun _ => ⟨i, Nat.le_refl _, rfl⟩⟩
    | true =>
      refine ⟨fun h => h1 h, fun h => ?_⟩
      obtain ⟨j, hj, e⟩ := h2 h
      exact ⟨j, by omega, e⟩
end Go.Ab
