/-
  Books and letters, in plain Lean.
-/
import Derived.Test.YtlhplhjibadplaaXLaw
import Derived.Test.YtlhplhjibadplaaUFns
namespace Go.Proofs.Ytlhplhjibadplaa.Sh.Q
open Go Go.Ab Go.Proofs

def inB (n lo hi : Int) : Bool := decide (lo ≤ n) && decide (n ≤ hi)
theorem l1In_eq (n lo hi : Int) : s_l1In n lo hi = some (inB n lo hi) := by
  unfold s_l1In inB
  cases decide (lo ≤ n) <;> rfl
theorem within_eq (n lo hi : Int) : i_within n lo hi = some (inB n lo hi) := by
  unfold i_within inB
  cases decide (lo ≤ n) <;> rfl

/-- a list's places are below 2^63 -/
theorem at_lt {n i : Nat} (hi : i < n) : decide ((i : Int) < (n : Int)) = true := decide_eq_true (by omega)
theorem up {n i : Nat} (hn : n ≤ maxLen) (hi : i < n) : w64 ((i : Int) + 1) = (i : Int) + 1 := by unfold maxLen at hn; exact w64_of (by omega) (by omega)
theorem no_lt (n : Nat) : decide ((n : Int) < (n : Int)) = false := decide_eq_false (by omega)

theorem s_all {l : List Int} {lo hi : Int} (h : l.length ≤ maxLen) : s_l1All l lo hi = some (l.all fun x => inB x lo hi) := by
  unfold s_l1All
  rw [all_loop (l := l) (fun x => inB x lo hi) false ?_ ?_]
  · cases l.all fun x => inB x lo hi <;> rfl
  · intro i x hx hi'
    simp only [idx_get, hx, Option.bind_some, l1In_eq, at_lt hi', up h hi']
    cases inB x lo hi <;> rfl
  · simp
theorem i_all {l : List Int} {lo hi : Int} (h : l.length ≤ maxLen) : i_allWithin l lo hi = some (l.all fun x => inB x lo hi) := by
  unfold i_allWithin
  rw [all_loop (l := l) (fun x => inB x lo hi) false ?_ ?_]
  · cases l.all fun x => inB x lo hi <;> rfl
  · intro i x hx hi'
    simp only [idx_get, hx, Option.bind_some, within_eq, at_lt hi', up h hi']
    cases inB x lo hi <;> rfl
  · simp

def low (b : UInt8) : Bool := !(decide ((b.toNat : Int) < 97) || decide (122 < (b.toNat : Int)))
theorem s_letters {s : Bytes} (h : s.length ≤ maxLen) : s_bkLetters s = some (s.all low && decide ((s.length : Int) ≤ 12)) := by
  unfold s_bkLetters
  rw [all_loop (l := s) low false ?_ ?_]
  · cases s.all low <;> rfl
  · intro i x hx hi'
    simp only [idx_get, hx, Option.bind_some, at_lt hi', up h hi', low]
    cases decide ((x.toNat : Int) < 97) <;> cases decide (122 < (x.toNat : Int)) <;> rfl
  · simp
theorem i_small {s : Bytes} (h : s.length ≤ maxLen) : i_isSmall s = some (s.all low) := by
  unfold i_isSmall
  rw [all_loop (l := s) low false ?_ ?_]
  · cases s.all low <;> rfl
  · intro i x hx hi'
    simp only [idx_get, hx, Option.bind_some, at_lt hi', up h hi', low]
    cases decide ((x.toNat : Int) < 97) <;> cases decide (122 < (x.toNat : Int)) <;> rfl
  · simp

def isText (s : Bytes) : Bool := s.all low && (decide ((s.length : Int) ≤ 12) && !decide (s = []))
theorem s_text {s : Bytes} (h : s.length ≤ maxLen) : s_bkPhraseText s = some (isText s) := by
  unfold s_bkPhraseText isText
  rw [s_letters h]
  simp only [Option.bind_some]
  cases s.all low <;> cases decide ((s.length : Int) ≤ 12) <;> rfl
theorem i_text {s : Bytes} (h : s.length ≤ maxLen) : i_IsPhraseText s = some (isText s) := by
  unfold i_IsPhraseText isText
  rw [i_small h]
  have : decide (1 ≤ (s.length : Int)) = !decide (s = []) := by
    cases s with
    | nil => rfl
    | cons x s => simp; omega
  rw [this]
  simp only [Option.bind_some]
  cases s.all low <;> cases decide ((s.length : Int) ≤ 12) <;> cases decide (s = []) <;> rfl

def isSignals (l : List Int) : Bool := inB (l.length : Int) 1 3 && l.all fun x => inB x 1 60
theorem s_signals {l : List Int} (h : l.length ≤ maxLen) : s_bkSignals l = some (isSignals l) := by
  unfold s_bkSignals isSignals
  rw [l1In_eq, s_all h]
  simp only [Option.bind_some]
  cases inB (l.length : Int) 1 3 <;> rfl
theorem i_phrase {x : GPhrase} (h1 : x.1.length ≤ maxLen) (h2 : x.2.1.length ≤ maxLen) : i_isPhrase x = some (isText x.1 && isSignals x.2.1) := by
  unfold i_isPhrase isSignals
  rw [i_text h1, within_eq, i_all h2]
  simp only [Option.bind_some]
  cases isText x.1 <;> cases inB (x.2.1.length : Int) 1 3 <;> rfl

theorem zip_same : ∀ (a b : List Int), a.length = b.length → ((List.range a.length).all fun i => decide (a[i]? = b[i]?)) = decide (a = b) := fun a b h => by
  by_cases e : a = b
  · subst e; simp
  · rw [decide_eq_false e]
    refine Bool.eq_false_iff.2 fun hall => e ?_
    rw [List.all_eq_true] at hall
    apply List.ext_getElem?
    intro i
    by_cases hi : i < a.length
    · exact of_decide_eq_true (hall i (List.mem_range.2 hi))
    · rw [List.getElem?_eq_none (by omega), List.getElem?_eq_none (by omega)]
theorem s_same {a b : List Int} (h : a.length ≤ maxLen) : s_l1Same a b = some (decide (a = b)) := by
  unfold s_l1Same
  by_cases hl : a.length = b.length
  · rw [show decide ((a.length : Int) = (b.length : Int)) = true from decide_eq_true (by omega)]
    simp only [Bool.not_true, cond_false]
    rw [all_loop_at (n := a.length) (fun i => decide (a[i]? = b[i]?)) false ?_ ?_, zip_same a b hl]
    · cases decide (a = b) <;> rfl
    · intro i hi
      have e1 : a[i]? = some a[i] := by simp [hi]
      have e2 : b[i]? = some (b[i]'(by omega)) := by simp [show i < b.length by omega]
      simp only [idx_get, e1, e2, Option.bind_some, at_lt hi, up h hi, Option.some.injEq]
      cases decide (a[i] = b[i]) <;> rfl
    · simp
  · rw [show decide ((a.length : Int) = (b.length : Int)) = false from decide_eq_false (by omega), decide_eq_false (fun e => hl (by rw [e]))]
    rfl
theorem i_same {a b : List Int} (h : a.length ≤ maxLen) : slices_Equal_int a b = some (decide (a = b)) := by
  unfold slices_Equal_int
  by_cases hl : a.length = b.length
  · rw [show decide ((a.length : Int) = (b.length : Int)) = true from decide_eq_true (by omega)]
    simp only [Bool.not_true, cond_false]
    rw [all_loop_at (n := a.length) (fun i => decide (a[i]? = b[i]?)) false ?_ ?_, zip_same a b hl]
    · cases decide (a = b) <;> rfl
    · intro i hi
      have e1 : a[i]? = some a[i] := by simp [hi]
      have e2 : b[i]? = some (b[i]'(by omega)) := by simp [show i < b.length by omega]
      simp only [idx_get, e1, e2, Option.bind_some, at_lt hi, up h hi, Option.some.injEq]
      cases decide (a[i] = b[i]) <;> rfl
    · simp
  · rw [show decide ((a.length : Int) = (b.length : Int)) = false from decide_eq_false (by omega), decide_eq_false (fun e => hl (by rw [e]))]
    rfl
structure Fine (b : GBook) : Prop where
  len : b.1.length ≤ maxLen
  text : ∀ x ∈ b.1, x.1.length ≤ maxLen
  sig : ∀ x ∈ b.1, x.2.1.length ≤ maxLen

theorem s_of {b : GBook} (h : Fine b) (l : List Int) : s_bkOf b l = some (match firstAt (fun x : GPhrase => decide (x.2.1 = l)) b.1 0 with | some i => (i : Int) | none => -1) := by
  unfold s_bkOf
  rw [find_loop (l := b.1) (fun x : GPhrase => decide (x.2.1 = l)) ?_ ?_]
  · cases firstAt (fun x : GPhrase => decide (x.2.1 = l)) b.1 0 <;> rfl
  · intro i x hx hi
    simp only [idx_get, hx, Option.bind_some, at_lt hi, up h.len hi, s_same (h.sig x (List.mem_of_getElem? hx))]
    cases decide (x.2.1 = l) <;> rfl
  · simp
theorem i_of {ps : List GPhrase} (h1 : ps.length ≤ maxLen) (h2 : ∀ x ∈ ps, x.2.1.length ≤ maxLen) (l : List Int) : i_phraseIndex (ps, ()) l = some (match firstAt (fun x : GPhrase => decide (x.2.1 = l)) ps 0 with | some i => (i : Int) | none => -1) := by
  unfold i_phraseIndex slices_IndexFunc_Phrase_128
  rw [find_loop (l := ps) (fun x : GPhrase => decide (x.2.1 = l)) ?_ ?_]
  · cases firstAt (fun x : GPhrase => decide (x.2.1 = l)) ps 0 <;> rfl
  · intro i x hx hi
    simp only [idx_get, hx, Option.bind_some, at_lt hi, up h1 hi, i_phraseIndex_1, i_same (h2 x (List.mem_of_getElem? hx))]
    cases decide (x.2.1 = l) <;> rfl
  · simp

/-- what is asked of the phrase at place i -/
def goodAt (b : GBook) (i : Nat) : Bool :=
  match b.1[i]? with
  | some x => isText x.1 && isSignals x.2.1 && (bif decide (0 < (i : Int)) then (match b.1[i - 1]? with | some y => Op.bytesLess y.1 x.1 | none => false) else true) && (firstAt (fun y : GPhrase => decide (y.2.1 = x.2.1)) (b.1.take i) 0).isNone
  | none => false
def isBook (b : GBook) : Bool := (List.range b.1.length).all (goodAt b) && inB (b.1.length : Int) 1 40

theorem prev {b : GBook} (h : Fine b) {i : Nat} (hi : i < b.1.length) (h0 : 0 < i) : idx b.1 (w64 ((i : Int) - 1)) = b.1[i - 1]? := by
  have := h.len
  unfold maxLen at this
  rw [w64_of (by omega) (by omega), show (i : Int) - 1 = ((i - 1 : Nat) : Int) by omega, idx_get]

theorem s_good {b : GBook} (h : Fine b) : s_bkGood b = some (isBook b) := by
  unfold s_bkGood isBook
  rw [all_loop_at (n := b.1.length) (goodAt b) false ?_ ?_]
  · cases (List.range b.1.length).all (goodAt b) with
    | true => simp only [cond_true, Option.bind_some, l1In_eq, Bool.true_and]
    | false => rfl
  · intro i hi
    have hx : b.1[i]? = some b.1[i] := by simp [hi]
    generalize hxx : b.1[i] = x at hx
    have hmem := List.mem_of_getElem? hx
    have hft := firstAt_take (fun y : GPhrase => decide (y.2.1 = x.2.1)) b.1 i 0 x hx (by simp)
    rw [Nat.zero_add] at hft
    have hof : (decide ((match firstAt (fun y : GPhrase => decide (y.2.1 = x.2.1)) b.1 0 with | some k => (k : Int) | none => -1) = (i : Int))) = (firstAt (fun y : GPhrase => decide (y.2.1 = x.2.1)) (b.1.take i) 0).isNone := by
      cases h1 : firstAt (fun y : GPhrase => decide (y.2.1 = x.2.1)) (b.1.take i) 0 with
      | none => rw [hft.2 h1]; simp
      | some k =>
        have : firstAt (fun y : GPhrase => decide (y.2.1 = x.2.1)) b.1 0 ≠ some i := fun e => by rw [hft.1 e] at h1; cases h1
        cases h2 : firstAt (fun y : GPhrase => decide (y.2.1 = x.2.1)) b.1 0 with
        | none => simp
        | some j => rw [h2] at this; simp; intro e; exact this (congrArg some (by omega))
    simp only [idx_get, hx, Option.bind_some, at_lt hi, up h.len hi, s_text (h.text x hmem), s_signals (h.sig x hmem), s_of h, hof, goodAt, cond_true]
    cases isText x.1 with
    | false => rfl
    | true =>
    cases isSignals x.2.1 with
    | false => rfl
    | true =>
    cases (firstAt (fun y : GPhrase => decide (y.2.1 = x.2.1)) (b.1.take i) 0).isNone <;> by_cases h0 : 0 < i
    all_goals first
      | (rw [show decide ((0 : Int) < (i : Int)) = false from decide_eq_false (by omega)]; rfl)
      | (rw [show decide ((0 : Int) < (i : Int)) = true from decide_eq_true (by omega), prev h hi h0]
         have hy : b.1[i - 1]? = some (b.1[i - 1]'(by omega)) := by simp [show i - 1 < b.1.length by omega]
         rw [hy]
         simp only [cond_true, Option.bind_some, Bool.not_true, cond_false]
         cases Op.bytesLess (b.1[i - 1]'(by omega)).1 x.1 <;> rfl)
  · simp

theorem i_good {b : GBook} (h : Fine b) : i_IsBook b = some (isBook b) := by
  unfold i_IsBook isBook
  rw [within_eq]
  simp only [Option.bind_some]
  cases hin : inB (b.1.length : Int) 1 40 with
  | false => simp
  | true =>
  simp only [Bool.not_true, cond_false, Bool.and_true]
  rw [all_loop_at (n := b.1.length) (goodAt b) false ?_ ?_]
  · cases (List.range b.1.length).all (goodAt b) <;> rfl
  · intro i hi
    have hx : b.1[i]? = some b.1[i] := by simp [hi]
    generalize hxx : b.1[i] = x at hx
    have hmem := List.mem_of_getElem? hx
    have hsub : sub b.1 0 (i : Int) = some (b.1.take i) := by
      unfold sub
      rw [if_pos ⟨by omega, by omega, by omega⟩]
      simp
    have hof : decide (0 ≤ (match firstAt (fun y : GPhrase => decide (y.2.1 = x.2.1)) (b.1.take i) 0 with | some k => (k : Int) | none => -1)) = !(firstAt (fun y : GPhrase => decide (y.2.1 = x.2.1)) (b.1.take i) 0).isNone := by
      cases firstAt (fun y : GPhrase => decide (y.2.1 = x.2.1)) (b.1.take i) 0 with
      | none => rfl
      | some k => simp
    have hlen : (b.1.take i).length ≤ maxLen := by have := h.len; rw [List.length_take]; omega
    simp only [idx_get, hx, Option.bind_some, at_lt hi, up h.len hi, i_phrase (h.text x hmem) (h.sig x hmem), hsub, i_of hlen (fun y hy => h.sig y (List.mem_of_mem_take hy)), hof, goodAt, cond_true]
    cases isText x.1 with
    | false => rfl
    | true =>
    cases isSignals x.2.1 with
    | false => rfl
    | true =>
    cases (firstAt (fun y : GPhrase => decide (y.2.1 = x.2.1)) (b.1.take i) 0).isNone <;> by_cases h0 : 0 < i
    all_goals first
      | (rw [show decide ((0 : Int) < (i : Int)) = false from decide_eq_false (by omega)]; rfl)
      | (rw [show decide ((0 : Int) < (i : Int)) = true from decide_eq_true (by omega), prev h hi h0]
         have hy : b.1[i - 1]? = some (b.1[i - 1]'(by omega)) := by simp [show i - 1 < b.1.length by omega]
         rw [hy]
         simp only [cond_true, Option.bind_some, Bool.and_self, Bool.not_true, cond_false]
         cases Op.bytesLess (b.1[i - 1]'(by omega)).1 x.1 <;> rfl)
  · simp

/-! sizes, copies -/

structure Small (b : GBook) : Prop where
  len : b.1.length ≤ 1048576
  sig : ∀ x ∈ b.1, x.2.1.length ≤ 1048576

theorem fine_of {b : GBook} (h : good TGBook b) : Fine b := ⟨h.1.1, fun x hx => (h.1.2 x hx).1, fun x hx => (h.1.2 x hx).2.1.1⟩
end Go.Proofs.Ytlhplhjibadplaa.Sh.Q
