/-
  Plain lemmas: loops without a bound, numbers that turn over.
-/
import Derived.Test.YtkemmodgpafkmaaGreatDoorXRel
namespace Go.Ab
open Go
theorem LoopTo.det {α β : Type} {f : α → Option (α ⊕ β)} {a : α} {b c : β} (h : LoopTo f a b) (k : LoopTo f a c) : b = c := by
  induction h with
  | done h => cases k with
    | done k => rw [h] at k; cases k; rfl
    | step k _ => rw [h] at k; cases k
  | step h _ ih => cases k with
    | done k => rw [h] at k; cases k
    | step k k' => rw [h] at k; cases k; exact ih k'
theorem loopE_of {α β : Type} {f : α → Option (α ⊕ β)} {a : α} {b : β} (h : LoopTo f a b) : loopE f a = some b := by
  unfold loopE
  have hx : ∃ b, LoopTo f a b := ⟨b, h⟩
  rw [dif_pos hx]
  exact congrArg some ((Classical.choose_spec hx).det h)
theorem loopE_to {α β : Type} {f : α → Option (α ⊕ β)} {a : α} {b : β} (h : loopE f a = some b) : LoopTo f a b := by
  unfold loopE at h
  split at h
  · rename_i hx; cases h; exact Classical.choose_spec hx
  · cases h
theorem loopE_done {α β : Type} {f : α → Option (α ⊕ β)} {a : α} {b : β} (h : f a = some (.inr b)) : loopE f a = some b := loopE_of (.done h)
theorem loopE_step {α β : Type} {f : α → Option (α ⊕ β)} {a a' : α} (h : f a = some (.inl a')) : loopE f a = loopE f a' := by
  cases e : loopE f a' with
  | some b => exact loopE_of (.step h (loopE_to e))
  | none =>
    cases e2 : loopE f a with
    | none => rfl
    | some b =>
      have := loopE_to e2
      cases this with
      | done k => rw [h] at k; cases k
      | step k k' => rw [h] at k; cases k; rw [loopE_of k'] at e; cases e
theorem w64_eq (x : Int) : w64 x = (x + 9223372036854775808) % 18446744073709551616 - 9223372036854775808 := by
  simp only [w64, IntKind.wrap, IntKind.signed, IntKind.bits]
  simp
  omega
theorem w64_of {x : Int} (h1 : -9223372036854775808 ≤ x) (h2 : x ≤ 9223372036854775807) : w64 x = x := by rw [w64_eq]; omega
theorem loopE_none {α β : Type} {f : α → Option (α ⊕ β)} {a : α} (h : f a = none) : loopE f a = none := by
  cases e : loopE f a with
  | none => rfl
  | some b =>
    have := loopE_to e
    cases this with
    | done k => rw [h] at k; cases k
    | step k _ => rw [h] at k; cases k
theorem idx_get {α : Type} {xs : List α} {i : Nat} : idx xs (i : Int) = xs[i]? := by
  unfold idx
  rw [if_neg (by omega)]
  rfl
def forRes {α σ ρ : Type} (step : σ → Nat → α → Option (σ ⊕ ρ)) (fin : σ → ρ) : σ → Nat → List α → Option ρ
  | s, _, [] => some (fin s)
  | s, i, x :: r => (step s i x).bind fun z => match z with
    | .inl s' => forRes step fin s' (i + 1) r
    | .inr y => some y
theorem for_loop {α σ τ ρ : Type} {a : List α} {f : τ → Option (τ ⊕ ρ)} {init : τ} (mk : σ → Int → τ) (step : σ → Nat → α → Option (σ ⊕ ρ)) (fin : σ → ρ) (s : σ) (hinit : init = mk s 0)
    (hf : ∀ s i x, i < a.length → a[i]? = some x → f (mk s i) = (step s i x).bind fun z => match z with
      | .inl s' => some (.inl (mk s' ((i : Int) + 1)))
      | .inr y => some (.inr y)) (hend : ∀ s, f (mk s a.length) = some (.inr (fin s))) : loopE f init = forRes step fin s 0 a := by
  have main : ∀ (r pre : List α) (s : σ), a = pre ++ r → loopE f (mk s pre.length) = forRes step fin s pre.length r := by
    intro r
    induction r with
    | nil =>
      intro pre s e
      rw [List.append_nil] at e
      subst e
      exact loopE_done (hend s)
    | cons x r ih =>
      intro pre s e
      have hx : a[pre.length]? = some x := by rw [e]; simp
      have hlt : pre.length < a.length := by rw [e]; simp
      have h := hf s pre.length x hlt hx
      simp only [forRes]
      cases hs : step s pre.length x with
      | none => rw [hs] at h; exact loopE_none h
      | some z =>
        rw [hs] at h
        cases z with
        | inr y => exact loopE_done h
        | inl s' =>
          rw [loopE_step h]
          have := ih (pre ++ [x]) s' (by rw [e]; simp)
          simp only [List.length_append, List.length_cons, List.length_nil, Nat.zero_add] at this
          exact this
  rw [hinit]
  exact main a [] s rfl
theorem copy_res {α β : Type} (g : α → β) : ∀ (r : List α) (pre suf : List β), suf.length = r.length →
    forRes (ρ := List β) (fun (out : List β) i x => if i < out.length then some (.inl (out.set i (g x))) else none) (fun out => out) (pre ++ suf) pre.length r = some (pre ++ r.map g)
  | [], pre, suf, h => by
    have : suf = [] := List.eq_nil_of_length_eq_zero h
    subst this
    simp [forRes]
  | x :: r, pre, suf, h => by
    cases suf with
    | nil => cases h
    | cons y suf =>
      have ih := copy_res g r (pre ++ [g x]) suf (by simpa using h)
      simp only [forRes]
      rw [if_pos (by simp)]
      simp only [Option.bind_some]
      have e : (pre ++ y :: suf).set pre.length (g x) = pre ++ [g x] ++ suf := by
        rw [List.set_append_right _ _ (Nat.le_refl _)]
        simp
      rw [e]
      simp only [List.length_append, List.length_cons, List.length_nil, Nat.zero_add] at ih
      rw [ih]
      simp
theorem all_res {α β : Type} (t : α → Bool) (g : Nat → β) : ∀ (r : List α) (i : Nat),
    (r.all t = true → forRes (ρ := Unit ⊕ β) (fun (_ : Unit) i x => some (bif t x then .inl () else .inr (.inr (g i)))) (fun _ => .inl ()) () i r = some (.inl ())) ∧
    (r.all t = false → ∃ j, i ≤ j ∧ forRes (ρ := Unit ⊕ β) (fun (_ : Unit) i x => some (bif t x then .inl () else .inr (.inr (g i)))) (fun _ => .inl ()) () i r = some (.inr (g j)))
  | [], i => ⟨fun _ => rfl, (fun h => by cases h)⟩
  | x :: r, i => by
    obtain ⟨h1, h2⟩ := all_res t g r (i + 1)
    simp only [List.all_cons, forRes, Option.bind_some]
    cases t x with
    | false => exact ⟨(fun h => by cases h), fun _ => ⟨i, Nat.le_refl _, rfl⟩⟩
    | true =>
      refine ⟨fun h => h1 h, fun h => ?_⟩
      obtain ⟨j, hj, e⟩ := h2 h
      exact ⟨j, by omega, e⟩
end Go.Ab
namespace Go.Ab
open Go
theorem all_loop {α β : Type} {l : List α} {f : Int → Option (Int ⊕ (Unit ⊕ β))} (t : α → Bool) (y : β)
    (hf : ∀ (i : Nat) x, l[i]? = some x → i < l.length → f i = some (bif t x then .inl ((i : Int) + 1) else .inr (.inr y))) (hend : f l.length = some (.inr (.inl ()))) :
    loopE f 0 = some (bif l.all t then .inl () else .inr y) := by
  rw [for_loop (a := l) (fun (_ : Unit) i => i) (fun _ _ x => some (bif t x then .inl () else .inr (.inr y))) (fun _ => .inl ()) () rfl (fun _ i x hi hx => ?_) (fun _ => hend)]
  · obtain ⟨h1, h2⟩ := all_res t (fun _ => y) l 0
    cases ha : l.all t with
    | true => rw [h1 ha]; rfl
    | false => obtain ⟨_, _, e⟩ := h2 ha; rw [e]; rfl
  · rw [hf i x hx hi]
    cases t x <;> rfl
def firstAt {α : Type} (t : α → Bool) : List α → Nat → Option Nat
  | [], _ => none
  | x :: r, i => bif t x then some i else firstAt t r (i + 1)
theorem find_loop {α : Type} {l : List α} {f : Int → Option (Int ⊕ (Unit ⊕ Int))} (t : α → Bool)
    (hf : ∀ (i : Nat) x, l[i]? = some x → i < l.length → f i = some (bif t x then .inr (.inr (i : Int)) else .inl ((i : Int) + 1))) (hend : f l.length = some (.inr (.inl ()))) :
    loopE f 0 = some (match firstAt t l 0 with | some i => .inr (i : Int) | none => .inl ()) := by
  rw [for_loop (a := l) (fun (_ : Unit) i => i) (fun _ i x => some (bif t x then .inr (.inr (i : Int)) else .inl ())) (fun _ => .inl ()) () rfl (fun _ i x hi hx => ?_) (fun _ => hend)]
  · have main : ∀ (r : List α) (i : Nat), forRes (ρ := Unit ⊕ Int) (fun (_ : Unit) i x => some (bif t x then .inr (.inr (i : Int)) else .inl ())) (fun _ => .inl ()) () i r = some (match firstAt t r i with | some i => .inr (i : Int) | none => .inl ()) := by
      intro r
      induction r with
      | nil => intro i; rfl
      | cons x r ih =>
        intro i
        simp only [forRes, firstAt, Option.bind_some]
        cases t x with
        | true => rfl
        | false => exact ih (i + 1)
    exact main l 0
  · rw [hf i x hx hi]
    cases t x <;> rfl
def total {α : Type} (cnt : α → Nat) : List α → Nat
  | [] => 0
  | x :: r => cnt x + total cnt r
theorem all_loop_at {β : Type} {n : Nat} {f : Int → Option (Int ⊕ (Unit ⊕ β))} (T : Nat → Bool) (y : β)
    (hf : ∀ (i : Nat), i < n → f i = some (bif T i then .inl ((i : Int) + 1) else .inr (.inr y))) (hend : f n = some (.inr (.inl ()))) :
    loopE f 0 = some (bif (List.range n).all T then .inl () else .inr y) := by
  refine all_loop (l := List.range n) T y (fun i x hx hi => ?_) (by rw [List.length_range]; exact hend)
  rw [List.length_range] at hi
  rw [List.getElem?_range hi] at hx
  cases hx
  exact hf i hi
theorem firstAt_ge {α : Type} (t : α → Bool) : ∀ (l : List α) (k i : Nat), firstAt t l k = some i → k ≤ i
  | [], _, _, h => by cases h
  | x :: l, k, i, h => by
    simp only [firstAt] at h
    cases hx : t x with
    | true => rw [hx] at h; cases h; exact Nat.le_refl _
    | false => rw [hx] at h; have := firstAt_ge t l (k + 1) i h; omega
theorem firstAt_take {α : Type} (t : α → Bool) : ∀ (l : List α) (i k : Nat) (x : α), l[i]? = some x → t x = true → (firstAt t l k = some (k + i) ↔ firstAt t (l.take i) k = none)
  | [], i, _, _, h, _ => by simp at h
  | y :: l, 0, k, x, h, hx => by
    simp at h
    subst h
    simp [firstAt, hx]
  | y :: l, i + 1, k, x, h, hx => by
    have ih := firstAt_take t l i (k + 1) x (by simpa using h) hx
    simp only [firstAt, List.take_succ_cons]
    cases hy : t y with
    | true =>
      simp only [cond_true, Option.some.injEq]
      exact ⟨fun h => by omega, fun h => by cases h⟩
    | false =>
      simp only [cond_false]
      rw [show k + (i + 1) = k + 1 + i by omega]
      exact ih
theorem copy_loop {α β : Type} {l : List α} {z : β} (g : α → β) {f : List β × Int → Option ((List β × Int) ⊕ List β)} (hl : l.length ≤ 1048576)
    (hf : ∀ (out : List β) (i : Nat) x, l[i]? = some x → i < l.length → f (out, (i : Int)) = bif decide (0 ≤ (i : Int)) && decide ((i : Int) < (out.length : Int)) then some (.inl (out.set (Int.toNat (i : Int)) (g x), w64 ((i : Int) + 1))) else none)
    (hend : ∀ out, f (out, (l.length : Int)) = some (.inr out)) : loopE f (List.replicate (Int.toNat (l.length : Int)) z, 0) = some (l.map g) := by
  rw [for_loop (a := l) Prod.mk (fun (out : List β) i x => if i < out.length then some (.inl (out.set i (g x))) else none) (fun out => out) (List.replicate l.length z) ?_ ?_ ?_]
  · have := copy_res g l [] (List.replicate l.length z) (by simp)
    simpa using this
  · rfl
  · intro out i x hi hx
    rw [hf out i x hx hi, w64_of (by omega) (by omega)]
    by_cases h2 : i < out.length
    · rw [if_pos h2, show (decide (0 ≤ (i : Int)) && decide ((i : Int) < (out.length : Int))) = true by simp; omega]
      rfl
    · rw [if_neg h2, show (decide (0 ≤ (i : Int)) && decide ((i : Int) < (out.length : Int))) = false by simp; omega]
      rfl
  · intro out; exact hend out
theorem copy_guard {n : Nat} (h : n ≤ 1048576) : (decide (0 ≤ (n : Int)) && decide ((n : Int) ≤ (n : Int)) && decide ((n : Int) ≤ lim)) = true := by
  have hlim : (lim : Int) = 4294967296 := rfl
  simp; omega
theorem one_loop {τ ρ : Type} {n : Nat} {f : τ → Option (τ ⊕ ρ)} (R : Nat → τ → Prop) (Q : ρ → Prop)
    (step : ∀ i a, i < n → R i a → (∃ a', f a = some (.inl a') ∧ R (i + 1) a') ∨ ∃ y, f a = some (.inr y) ∧ Q y)
    (fin : ∀ a, R n a → ∃ y, f a = some (.inr y) ∧ Q y) :
    ∀ (k i : Nat) (a : τ), i + k = n → R i a → ∃ y, loopE f a = some y ∧ Q y
  | 0, i, a, h, r => by
    obtain rfl : i = n := by omega
    obtain ⟨y, h1, h3⟩ := fin a r
    exact ⟨y, loopE_done h1, h3⟩
  | k + 1, i, a, h, r => by
    rcases step i a (by omega) r with ⟨a', h1, h3⟩ | ⟨y, h1, h3⟩
    · rw [loopE_step h1]
      exact one_loop R Q step fin k (i + 1) a' (by omega) h3
    · exact ⟨y, loopE_done h1, h3⟩
end Go.Ab
