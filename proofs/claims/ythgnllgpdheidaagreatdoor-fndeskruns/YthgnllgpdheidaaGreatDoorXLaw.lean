/-
  Plain lemmas for what the laws do around a call: copies, comparisons, marks.
-/
import Derived.Test.YthgnllgpdheidaaGreatDoorXPlain
namespace Go.Ab
open Go

theorem get_mid {α : Type} (pre : List α) (x : α) (suf : List α) : (pre ++ x :: suf)[Int.toNat (pre.length : Int)]? = some x := by simp
theorem set_mid {α : Type} (pre : List α) (x y : α) (suf : List α) : (pre ++ x :: suf).set (Int.toNat (pre.length : Int)) y = pre ++ y :: suf := by
  rw [Int.toNat_natCast, List.set_append_right _ _ (Nat.le_refl _)]
  simp

/-- a loop that asks one thing of all -/
theorem all_loop {α β : Type} {l : List α} {f : Int → Option (Int ⊕ (Unit ⊕ β))} (t : α → Bool) (y : β)
    (hf : ∀ (i : Nat) x, l[i]? = some x → i < l.length → f i = some (bif t x then .inl ((i : Int) + 1) else .inr (.inr y))) (hend : f l.length = some (.inr (.inl ()))) :
    loopE f 0 = some (bif l.all t then .inl () else .inr y) := by
  rw [for_loop (a := l) (fun (_ : Unit) i => i) (fun _ _ x => some (bif t x then .inl () else .inr (.inr y))) (fun _ => .inl ()) () rfl (fun _ i x hi hx => ?_) (fun _ => hend)]
  · obtain ⟨h1, h2⟩ := all_res t (fun _ => y) l 0
    cases ha : l.all t with
    | true => rw [h1 ha]; rfl
    | false => obtain ⟨_, _, e⟩ := h2 ha; rw [e]; rfl
  · rw [hf i x hx hi]
    cases t x <;> rfl

/-- the place of the first that has it -/
def firstAt {α : Type} (t : α → Bool) : List α → Nat → Option Nat
  | [], _ => none
  | x :: r, i => bif t x then some i else firstAt t r (i + 1)

/-- a loop that looks for the first -/
theorem find_loop {α : Type} {l : List α} {f : Int → Option (Int ⊕ (Unit ⊕ Int))} (t : α → Bool)
    (hf : ∀ (i : Nat) x, l[i]? = some x → i < l.length → f i = some (bif t x then .inr (.inr (i : Int)) else .inl ((i : Int) + 1))) (hend : f l.length = some (.inr (.inl ()))) :
    loopE f 0 = some (match firstAt t l 0 with | some i => .inr (i : Int) | none => .inl ()) := by
  rw [for_loop (a := l) (fun (_ : Unit) i => i) (fun _ i x => some (bif t x then .inr (.inr (i : Int)) else .inl ())) (fun _ => .inl ()) () rfl (fun _ i x hi hx => ?_) (fun _ => hend)]
  · have main : ∀ (r : List α) (i : Nat), forRes (ρ := Unit ⊕ Int) (fun (_ : Unit) i x => some (bif t x then .inr (.inr (i : Int)) else .inl ())) (fun _ => .inl ()) () i r = some (match firstAt t r i with | some i => .inr (i : Int) | none => .inl ()) := by
      intro r
      induction r with
      | nil => intro i; rfl
      | cons x r ih =>
        intro i
        simp only [forRes, firstAt, Option.bind_some]
        cases t x with
        | true => rfl
        | false => exact ih (i + 1)
    exact main l 0
  · rw [hf i x hx hi]
    cases t x <;> rfl

/-- marking: each element is written over with numbers from k on -/
def marked {α : Type} (wr : α → Int → α × Int) : List α → Int → List α
  | [], _ => []
  | x :: r, k => (wr x k).1 :: marked wr r (wr x k).2
def total {α : Type} (cnt : α → Nat) : List α → Nat
  | [] => 0
  | x :: r => cnt x + total cnt r

theorem marked_len {α : Type} (wr : α → Int → α × Int) : ∀ (l : List α) (k : Int), (marked wr l k).length = l.length
  | [], _ => rfl
  | x :: r, k => by simp [marked, marked_len wr r]

theorem mark_loop {α : Type} (wr : α → Int → α × Int) (cnt : α → Nat) {B : Int} {f : List α × Int × Int → Option ((List α × Int × Int) ⊕ (List α × Int))} (hk : ∀ x k, (wr x k).2 = k + cnt x)
    (hend : ∀ l k, f (l, k, (l.length : Int)) = some (.inr (l, k))) :
    ∀ (suf pre : List α) (k : Int), (∀ x ∈ suf, ∀ pre suf k, 0 ≤ k → k + cnt x ≤ B → (pre ++ x :: suf).length ≤ 4194304 → f (pre ++ x :: suf, k, (pre.length : Int)) = some (.inl (pre ++ (wr x k).1 :: suf, (wr x k).2, (pre.length : Int) + 1))) →
      0 ≤ k → k + total cnt suf ≤ B → (pre ++ suf).length ≤ 4194304 → loopE f (pre ++ suf, k, (pre.length : Int)) = some (pre ++ marked wr suf k, k + total cnt suf)
  | [], pre, k, _, _, _, _ => by
    have := loopE_done (hend pre k)
    simpa [marked, total] using this
  | x :: r, pre, k, hf, h0, hB, hl => by
    simp only [total] at hB
    have h1 := hf x (by simp) pre r k h0 (by omega) hl
    rw [loopE_step h1]
    have hl2 : (pre ++ x :: r).length = (pre ++ [(wr x k).1] ++ r).length := by simp
    have ih := mark_loop wr cnt hk hend r (pre ++ [(wr x k).1]) (wr x k).2 (fun y hy => hf y (List.mem_cons_of_mem _ hy)) (by rw [hk]; omega) (by rw [hk]; omega) (by rw [← hl2]; exact hl)
    have e1 : pre ++ [(wr x k).1] ++ r = pre ++ (wr x k).1 :: r := by simp
    have e2 : ((pre ++ [(wr x k).1]).length : Int) = (pre.length : Int) + 1 := by simp
    rw [e1, e2] at ih
    rw [ih, hk]
    simp only [marked, total, List.append_assoc, List.singleton_append, hk]
    congr 2
    omega

/-- what has been marked is found so -/
theorem held_res {α : Type} (wr : α → Int → α × Int) (cnt : α → Nat) (hd : Int → Nat → α → Option (Int ⊕ (Int ⊕ Int))) (hk : ∀ x k, (wr x k).2 = k + cnt x) {B : Int} :
    ∀ (l : List α) (k : Int) (i : Nat), (∀ x ∈ l, ∀ k i, 0 ≤ k → k + cnt x ≤ B → hd k i (wr x k).1 = some (.inl (k + cnt x))) → 0 ≤ k → k + total cnt l ≤ B → forRes hd (fun k => .inl k) k i (marked wr l k) = some (.inl (k + total cnt l))
  | [], k, i, _, _, _ => by simp [marked, forRes, total]
  | x :: r, k, i, h, h0, hB => by
    simp only [total] at hB
    simp only [marked, forRes, h x (by simp) k i h0 (by omega), Option.bind_some, hk]
    have ih := held_res wr cnt hd hk r (k + cnt x) (i + 1) (fun y hy => h y (List.mem_cons_of_mem _ hy)) (by omega) (by omega)
    rw [ih]
    simp only [total]
    congr 2
    omega

theorem total_const {α : Type} (c : Nat) : ∀ l : List α, total (fun _ => c) l = c * l.length
  | [] => rfl
  | x :: r => by simp [total, total_const c r, Nat.mul_add, Nat.add_comm]

/-- a loop that asks one thing of all places -/
theorem all_loop_at {β : Type} {n : Nat} {f : Int → Option (Int ⊕ (Unit ⊕ β))} (T : Nat → Bool) (y : β)
    (hf : ∀ (i : Nat), i < n → f i = some (bif T i then .inl ((i : Int) + 1) else .inr (.inr y))) (hend : f n = some (.inr (.inl ()))) :
    loopE f 0 = some (bif (List.range n).all T then .inl () else .inr y) := by
  refine all_loop (l := List.range n) T y (fun i x hx hi => ?_) (by rw [List.length_range]; exact hend)
  rw [List.length_range] at hi
  rw [List.getElem?_range hi] at hx
  cases hx
  exact hf i hi

theorem firstAt_ge {α : Type} (t : α → Bool) : ∀ (l : List α) (k i : Nat), firstAt t l k = some i → k ≤ i
  | [], _, _, h => by cases h
  | x :: l, k, i, h => by
    simp only [firstAt] at h
    cases hx : t x with
    | true => rw [hx] at h; cases h; exact Nat.le_refl _
    | false => rw [hx] at h; have := firstAt_ge t l (k + 1) i h; omega

theorem firstAt_take {α : Type} (t : α → Bool) : ∀ (l : List α) (i k : Nat) (x : α), l[i]? = some x → t x = true → (firstAt t l k = some (k + i) ↔ firstAt t (l.take i) k = none)
  | [], i, _, _, h, _ => by simp at h
  | y :: l, 0, k, x, h, hx => by
    simp at h
    subst h
    simp [firstAt, hx]
  | y :: l, i + 1, k, x, h, hx => by
    have ih := firstAt_take t l i (k + 1) x (by simpa using h) hx
    simp only [firstAt, List.take_succ_cons]
    cases hy : t y with
    | true =>
      simp only [cond_true, Option.some.injEq]
      exact ⟨fun h => by omega, fun h => by cases h⟩
    | false =>
      simp only [cond_false]
      rw [show k + (i + 1) = k + 1 + i by omega]
      exact ih

/-- copying element by element -/
theorem copy_loop {α β : Type} {l : List α} {z : β} (g : α → β) {f : List β × Int → Option ((List β × Int) ⊕ List β)} (hl : l.length ≤ 1048576)
    (hf : ∀ (out : List β) (i : Nat) x, l[i]? = some x → i < l.length → f (out, (i : Int)) = bif decide (0 ≤ (i : Int)) && decide ((i : Int) < (out.length : Int)) then some (.inl (out.set (Int.toNat (i : Int)) (g x), w64 ((i : Int) + 1))) else none)
    (hend : ∀ out, f (out, (l.length : Int)) = some (.inr out)) : loopE f (List.replicate (Int.toNat (l.length : Int)) z, 0) = some (l.map g) := by
  rw [for_loop (a := l) Prod.mk (fun (out : List β) i x => if i < out.length then some (.inl (out.set i (g x))) else none) (fun out => out) (List.replicate l.length z) ?_ ?_ ?_]
  · have := copy_res g l [] (List.replicate l.length z) (by simp)
    simpa using this
  · rfl
  · intro out i x hi hx
    rw [hf out i x hx hi, w64_of (by omega) (by omega)]
    by_cases h2 : i < out.length
    · rw [if_pos h2, show (decide (0 ≤ (i : Int)) && decide ((i : Int) < (out.length : Int))) = true by simp; omega]
      rfl
    · rw [if_neg h2, show (decide (0 ≤ (i : Int)) && decide ((i : Int) < (out.length : Int))) = false by simp; omega]
      rfl
  · intro out; exact hend out
theorem copy_guard {n : Nat} (h : n ≤ 1048576) : (decide (0 ≤ (n : Int)) && decide ((n : Int) ≤ (n : Int)) && decide ((n : Int) ≤ lim)) = true := by
  have hlim : (lim : Int) = 4294967296 := rfl
  simp; omega
/-- two loops that count alike -/
theorem two_loops {τ τ' ρ ρ' : Type} {n : Nat} {f : τ → Option (τ ⊕ ρ)} {g : τ' → Option (τ' ⊕ ρ')} (R : Nat → τ → τ' → Prop) (Q : ρ → ρ' → Prop)
    (step : ∀ i a b, i < n → R i a b → (∃ a' b', f a = some (.inl a') ∧ g b = some (.inl b') ∧ R (i + 1) a' b') ∨ ∃ y z, f a = some (.inr y) ∧ g b = some (.inr z) ∧ Q y z)
    (fin : ∀ a b, R n a b → ∃ y z, f a = some (.inr y) ∧ g b = some (.inr z) ∧ Q y z) :
    ∀ (k i : Nat) (a : τ) (b : τ'), i + k = n → R i a b → ∃ y z, loopE f a = some y ∧ loopE g b = some z ∧ Q y z
  | 0, i, a, b, h, r => by
    obtain rfl : i = n := by omega
    obtain ⟨y, z, h1, h2, h3⟩ := fin a b r
    exact ⟨y, z, loopE_done h1, loopE_done h2, h3⟩
  | k + 1, i, a, b, h, r => by
    rcases step i a b (by omega) r with ⟨a', b', h1, h2, h3⟩ | ⟨y, z, h1, h2, h3⟩
    · rw [loopE_step h1, loopE_step h2]
      exact two_loops R Q step fin k (i + 1) a' b' (by omega) h3
    · exact ⟨y, z, loopE_done h1, loopE_done h2, h3⟩

/-- one loop that counts -/
theorem one_loop {τ ρ : Type} {n : Nat} {f : τ → Option (τ ⊕ ρ)} (R : Nat → τ → Prop) (Q : ρ → Prop)
    (step : ∀ i a, i < n → R i a → (∃ a', f a = some (.inl a') ∧ R (i + 1) a') ∨ ∃ y, f a = some (.inr y) ∧ Q y)
    (fin : ∀ a, R n a → ∃ y, f a = some (.inr y) ∧ Q y) :
    ∀ (k i : Nat) (a : τ), i + k = n → R i a → ∃ y, loopE f a = some y ∧ Q y
  | 0, i, a, h, r => by
    obtain rfl : i = n := by omega
    obtain ⟨y, h1, h3⟩ := fin a r
    exact ⟨y, loopE_done h1, h3⟩
  | k + 1, i, a, h, r => by
    rcases step i a (by omega) r with ⟨a', h1, h3⟩ | ⟨y, h1, h3⟩
    · rw [loopE_step h1]
      exact one_loop R Q step fin k (i + 1) a' (by omega) h3
    · exact ⟨y, loopE_done h1, h3⟩
end Go.Ab
