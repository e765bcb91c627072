/-
  ReadMessage: the ways to read, both ways the same.
-/
import Derived.Test.YtkemmodgpafkmaaGreatDoorSPK5
namespace Go.Proofs.YtkemmodgpafkmaaGreatDoor.Sh
open Go Go.Ab Go.Proofs
theorem begins_same {a : List Int} (h : a.length ≤ maxLen) (b : List Int) : i_begins a b = s_bkBegins a b := by
  unfold i_begins s_bkBegins
  simp only [Q.i_same h, Q.s_same h]
theorem ways_same (b : GBook) (s : List Int) : i_readings b s = s_spWays b s := rfl
end Go.Proofs.YtkemmodgpafkmaaGreatDoor.Sh
namespace Go.Ab
theorem countP_one {α : Type} {p : α → Bool} : ∀ {l : List α}, l.Pairwise (fun a b => ¬ (p a = true ∧ p b = true)) → l.countP p ≤ 1
  | [], _ => Nat.zero_le _
  | x :: l, h => by
    rw [List.pairwise_cons] at h
    have ih := countP_one h.2
    rw [List.countP_cons]
    cases hx : p x with
    | false => simpa using ih
    | true =>
      have : l.countP p = 0 := by
        rw [List.countP_eq_zero]
        exact fun y hy hp => h.1 y hy ⟨hx, hp⟩
      simp [this]
theorem firstAt_no {α : Type} {t : α → Bool} : ∀ {l : List α} {k : Nat}, firstAt t l k = none → ∀ x ∈ l, t x = false
  | [], _, _, _, h => by cases h
  | y :: l, k, h, x, hx => by
    simp only [firstAt] at h
    cases hy : t y with
    | true => rw [hy] at h; cases h
    | false =>
      rw [hy] at h
      rcases List.mem_cons.1 hx with rfl | hx
      · exact hy
      · exact firstAt_no h x hx
theorem firstAt_some {α : Type} {t : α → Bool} : ∀ {l : List α} (k : Nat) {x : α}, x ∈ l → t x = true → ∃ i, firstAt t l k = some i
  | [], _, _, h, _ => by cases h
  | y :: l, k, x, hx, ht => by
    simp only [firstAt]
    cases hy : t y with
    | true => exact ⟨k, rfl⟩
    | false =>
      rcases List.mem_cons.1 hx with rfl | hx
      · rw [hy] at ht; cases ht
      · exact firstAt_some (k + 1) hx ht
end Go.Ab
namespace Go.Proofs.YtkemmodgpafkmaaGreatDoor.Sh.Q
open Go Go.Ab Go.Proofs
def beg (a b : List Int) : Bool := decide ((a.length : Int) ≤ (b.length : Int)) && decide (a = b.take a.length)
theorem beg_len {a b : List Int} (h : beg a b = true) : a.length ≤ b.length := by
  unfold beg at h
  simp only [Bool.and_eq_true, decide_eq_true_eq] at h
  omega
theorem sigs_in {b : GBook} (hb : isBook b = true) : ∀ x ∈ b.1, 1 ≤ x.2.1.length ∧ x.2.1.length ≤ 3 := fun x hx => by
  have := good_mem hb hx
  simp only [isSignals, inB, Bool.and_eq_true, decide_eq_true_eq] at this
  omega
theorem sigs_apart {b : GBook} (hb : isBook b = true) : b.1.Pairwise (fun x y => x.2.1 ≠ y.2.1) := by
  rw [List.pairwise_iff_getElem]
  intro i j hi hj hij e
  simp only [isBook, Bool.and_eq_true, List.all_eq_true] at hb
  have h := hb.1 j (List.mem_range.2 hj)
  have ej : b.1[j]? = some b.1[j] := by simp [hj]
  simp only [goodAt, ej, Bool.and_eq_true, Option.isNone_iff_eq_none] at h
  have := firstAt_no h.2 b.1[i] (by rw [List.mem_take_iff_getElem]; exact ⟨i, by omega, rfl⟩)
  rw [e] at this
  simp at this
theorem hits_split {ps : List GPhrase} (hp : ∀ x ∈ ps, 1 ≤ x.2.1.length ∧ x.2.1.length ≤ 3) (p : GPhrase → Bool) :
    ps.countP p = ps.countP (fun x => p x && decide (x.2.1.length = 1)) + ps.countP (fun x => p x && decide (x.2.1.length = 2)) + ps.countP (fun x => p x && decide (x.2.1.length = 3)) := by
  induction ps with
  | nil => rfl
  | cons x ps ih =>
    have h1 := hp x (by simp)
    have ih := ih fun y hy => hp y (List.mem_cons_of_mem _ hy)
    simp only [List.countP_cons, ih]
    cases p x with
    | false => simp
    | true =>
      have : x.2.1.length = 1 ∨ x.2.1.length = 2 ∨ x.2.1.length = 3 := by omega
      rcases this with e | e | e <;> simp [e] <;> omega
theorem hits_le {b : GBook} (hb : isBook b = true) (s : List Int) : b.1.countP (fun x => beg x.2.1 s) ≤ 3 := by
  rw [hits_split (sigs_in hb)]
  have key : ∀ k : Nat, b.1.countP (fun x => beg x.2.1 s && decide (x.2.1.length = k)) ≤ 1 := fun k => countP_one ((sigs_apart hb).imp fun {x y} hne h => by
    simp only [beg, Bool.and_eq_true, decide_eq_true_eq] at h
    exact hne (h.1.1.2.trans ((by rw [h.1.2, h.2.2] : s.take x.2.1.length = s.take y.2.1.length).trans h.2.1.2.symm)))
  have k1 := key 1
  have k2 := key 2
  have k3 := key 3
  omega
theorem s_beg {a : List Int} (ha : a.length ≤ maxLen) (b : List Int) : s_bkBegins a b = some (beg a b) := by
  unfold s_bkBegins beg
  by_cases h : (a.length : Int) ≤ (b.length : Int)
  · rw [decide_eq_true h]
    have e : sub b 0 (a.length : Int) = some (b.take a.length) := by
      unfold sub
      rw [if_pos ⟨by omega, by omega, by omega⟩]
      simp
    simp only [cond_true, e, Option.bind_some, s_same ha, Bool.true_and]
  · rw [decide_eq_false h]
    rfl
end Go.Proofs.YtkemmodgpafkmaaGreatDoor.Sh.Q
