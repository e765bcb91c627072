/-
  Books and letters, in plain Lean.
-/
import Derived.Test.YtlhplhjibadplaaXLaw
import Derived.Test.YtlhplhjibadplaaSFns
namespace Go.Proofs.Ytlhplhjibadplaa.Sh.Q
open Go Go.Ab Go.Proofs

def inB (n lo hi : Int) : Bool := decide (lo ≤ n) && decide (n ≤ hi)
theorem l1In_eq (n lo hi : Int) : s_l1In n lo hi = some (inB n lo hi) := by
  unfold s_l1In inB
  cases decide (lo ≤ n) <;> rfl
theorem within_eq (n lo hi : Int) : i_within n lo hi = some (inB n lo hi) := by
  unfold i_within inB
  cases decide (lo ≤ n) <;> rfl

/-- a list's places are below 2^63 -/
theorem at_lt {n i : Nat} (hi : i < n) : decide ((i : Int) < (n : Int)) = true := decide_eq_true (by omega)
theorem up {n i : Nat} (hn : n ≤ maxLen) (hi : i < n) : w64 ((i : Int) + 1) = (i : Int) + 1 := by unfold maxLen at hn; exact w64_of (by omega) (by omega)
theorem no_lt (n : Nat) : decide ((n : Int) < (n : Int)) = false := decide_eq_false (by omega)

theorem s_all {l : List Int} {lo hi : Int} (h : l.length ≤ maxLen) : s_l1All l lo hi = some (l.all fun x => inB x lo hi) := by
  unfold s_l1All
  rw [all_loop (l := l) (fun x => inB x lo hi) false ?_ ?_]
  · cases l.all fun x => inB x lo hi <;> rfl
  · intro i x hx hi'
    simp only [idx_get, hx, Option.bind_some, l1In_eq, at_lt hi', up h hi']
    cases inB x lo hi <;> rfl
  · simp
theorem i_all {l : List Int} {lo hi : Int} (h : l.length ≤ maxLen) : i_allWithin l lo hi = some (l.all fun x => inB x lo hi) := by
  unfold i_allWithin
  rw [all_loop (l := l) (fun x => inB x lo hi) false ?_ ?_]
  · cases l.all fun x => inB x lo hi <;> rfl
  · intro i x hx hi'
    simp only [idx_get, hx, Option.bind_some, within_eq, at_lt hi', up h hi']
    cases inB x lo hi <;> rfl
  · simp

def low (b : UInt8) : Bool := !(decide ((b.toNat : Int) < 97) || decide (122 < (b.toNat : Int)))
theorem s_letters {s : Bytes} (h : s.length ≤ maxLen) : s_bkLetters s = some (s.all low && decide ((s.length : Int) ≤ 12)) := by
  unfold s_bkLetters
  rw [all_loop (l := s) low false ?_ ?_]
  · cases s.all low <;> rfl
  · intro i x hx hi'
    simp only [idx_get, hx, Option.bind_some, at_lt hi', up h hi', low]
    cases decide ((x.toNat : Int) < 97) <;> cases decide (122 < (x.toNat : Int)) <;> rfl
  · simp
theorem i_small {s : Bytes} (h : s.length ≤ maxLen) : i_isSmall s = some (s.all low) := by
  unfold i_isSmall
  rw [all_loop (l := s) low false ?_ ?_]
  · cases s.all low <;> rfl
  · intro i x hx hi'
    simp only [idx_get, hx, Option.bind_some, at_lt hi', up h hi', low]
    cases decide ((x.toNat : Int) < 97) <;> cases decide (122 < (x.toNat : Int)) <;> rfl
  · simp

def isText (s : Bytes) : Bool := s.all low && (decide ((s.length : Int) ≤ 12) && !decide (s = []))
theorem s_text {s : Bytes} (h : s.length ≤ maxLen) : s_bkPhraseText s = some (isText s) := by
  unfold s_bkPhraseText isText
  rw [s_letters h]
  simp only [Option.bind_some]
  cases s.all low <;> cases decide ((s.length : Int) ≤ 12) <;> rfl
theorem i_text {s : Bytes} (h : s.length ≤ maxLen) : i_IsPhraseText s = some (isText s) := by
  unfold i_IsPhraseText isText
  rw [i_small h]
  have : decide (1 ≤ (s.length : Int)) = !decide (s = []) := by
    cases s with
    | nil => rfl
    | cons x s => simp; omega
  rw [this]
  simp only [Option.bind_some]
  cases s.all low <;> cases decide ((s.length : Int) ≤ 12) <;> cases decide (s = []) <;> rfl

def isSignals (l : List Int) : Bool := inB (l.length : Int) 1 3 && l.all fun x => inB x 1 60
theorem s_signals {l : List Int} (h : l.length ≤ maxLen) : s_bkSignals l = some (isSignals l) := by
  unfold s_bkSignals isSignals
  rw [l1In_eq, s_all h]
  simp only [Option.bind_some]
  cases inB (l.length : Int) 1 3 <;> rfl
theorem i_phrase {x : GPhrase} (h1 : x.1.length ≤ maxLen) (h2 : x.2.1.length ≤ maxLen) : i_isPhrase x = some (isText x.1 && isSignals x.2.1) := by
  unfold i_isPhrase isSignals
  rw [i_text h1, within_eq, i_all h2]
  simp only [Option.bind_some]
  cases isText x.1 <;> cases inB (x.2.1.length : Int) 1 3 <;> rfl

theorem zip_same : ∀ (a b : List Int), a.length = b.length → ((List.range a.length).all fun i => decide (a[i]? = b[i]?)) = decide (a = b) := fun a b h => by
  by_cases e : a = b
  · subst e; simp
  · rw [decide_eq_false e]
    refine Bool.eq_false_iff.2 fun hall => e ?_
    rw [List.all_eq_true] at hall
    apply List.ext_getElem?
    intro i
    by_cases hi : i < a.length
    · exact of_decide_eq_true (hall i (List.mem_range.2 hi))
    · rw [List.getElem?_eq_none (by omega), List.getElem?_eq_none (by omega)]
theorem s_same {a b : List Int} (h : a.length ≤ maxLen) : s_l1Same a b = some (decide (a = b)) := by
  unfold s_l1Same
  by_cases hl : a.length = b.length
  · rw [show decide ((a.length : Int) = (b.length : Int)) = true from decide_eq_true (by omega)]
    simp only [Bool.not_true, cond_false]
    rw [all_loop_at (n := a.length) (fun i => decide (a[i]? = b[i]?)) false ?_ ?_, zip_same a b hl]
    · cases decide (a = b) <;> rfl
    · intro i hi
      have e1 : a[i]? = some a[i] := by simp [hi]
      have e2 : b[i]? = some (b[i]'(by omega)) := by simp [show i < b.length by omega]
      simp only [idx_get, e1, e2, Option.bind_some, at_lt hi, up h hi, Option.some.injEq]
      cases decide (a[i] = b[i]) <;> rfl
    · simp
  · rw [show decide ((a.length : Int) = (b.length : Int)) = false from decide_eq_false (by omega), decide_eq_false (fun e => hl (by rw [e]))]
    rfl
theorem i_same {a b : List Int} (h : a.length ≤ maxLen) : slices_Equal_int a b = some (decide (a = b)) := by
  unfold slices_Equal_int
  by_cases hl : a.length = b.length
  · rw [show decide ((a.length : Int) = (b.length : Int)) = true from decide_eq_true (by omega)]
    simp only [Bool.not_true, cond_false]
    rw [all_loop_at (n := a.length) (fun i => decide (a[i]? = b[i]?)) false ?_ ?_, zip_same a b hl]
    · cases decide (a = b) <;> rfl
    · intro i hi
      have e1 : a[i]? = some a[i] := by simp [hi]
      have e2 : b[i]? = some (b[i]'(by omega)) := by simp [show i < b.length by omega]
      simp only [idx_get, e1, e2, Option.bind_some, at_lt hi, up h hi, Option.some.injEq]
      cases decide (a[i] = b[i]) <;> rfl
    · simp
  · rw [show decide ((a.length : Int) = (b.length : Int)) = false from decide_eq_false (by omega), decide_eq_false (fun e => hl (by rw [e]))]
    rfl
structure Fine (b : GBook) : Prop where
  len : b.1.length ≤ maxLen
  text : ∀ x ∈ b.1, x.1.length ≤ maxLen
  sig : ∀ x ∈ b.1, x.2.1.length ≤ maxLen

theorem s_of {b : GBook} (h : Fine b) (l : List Int) : s_bkOf b l = some (match firstAt (fun x : GPhrase => decide (x.2.1 = l)) b.1 0 with | some i => (i : Int) | none => -1) := by
  unfold s_bkOf
  rw [find_loop (l := b.1) (fun x : GPhrase => decide (x.2.1 = l)) ?_ ?_]
  · cases firstAt (fun x : GPhrase => decide (x.2.1 = l)) b.1 0 <;> rfl
  · intro i x hx hi
    simp only [idx_get, hx, Option.bind_some, at_lt hi, up h.len hi, s_same (h.sig x (List.mem_of_getElem? hx))]
    cases decide (x.2.1 = l) <;> rfl
  · simp
theorem i_of {ps : List GPhrase} (h1 : ps.length ≤ maxLen) (h2 : ∀ x ∈ ps, x.2.1.length ≤ maxLen) (l : List Int) : i_phraseIndex (ps, ()) l = some (match firstAt (fun x : GPhrase => decide (x.2.1 = l)) ps 0 with | some i => (i : Int) | none => -1) := by
  unfold i_phraseIndex slices_IndexFunc_Phrase_128
  rw [find_loop (l := ps) (fun x : GPhrase => decide (x.2.1 = l)) ?_ ?_]
  · cases firstAt (fun x : GPhrase => decide (x.2.1 = l)) ps 0 <;> rfl
  · intro i x hx hi
    simp only [idx_get, hx, Option.bind_some, at_lt hi, up h1 hi, i_phraseIndex_1, i_same (h2 x (List.mem_of_getElem? hx))]
    cases decide (x.2.1 = l) <;> rfl
  · simp

/-- what is asked of the phrase at place i -/
def goodAt (b : GBook) (i : Nat) : Bool :=
  match b.1[i]? with
  | some x => isText x.1 && isSignals x.2.1 && (bif decide (0 < (i : Int)) then (match b.1[i - 1]? with | some y => Op.bytesLess y.1 x.1 | none => false) else true) && (firstAt (fun y : GPhrase => decide (y.2.1 = x.2.1)) (b.1.take i) 0).isNone
  | none => false
def isBook (b : GBook) : Bool := (List.range b.1.length).all (goodAt b) && inB (b.1.length : Int) 1 40

theorem prev {b : GBook} (h : Fine b) {i : Nat} (hi : i < b.1.length) (h0 : 0 < i) : idx b.1 (w64 ((i : Int) - 1)) = b.1[i - 1]? := by
  have := h.len
  unfold maxLen at this
  rw [w64_of (by omega) (by omega), show (i : Int) - 1 = ((i - 1 : Nat) : Int) by omega, idx_get]

theorem s_good {b : GBook} (h : Fine b) : s_bkGood b = some (isBook b) := by
  unfold s_bkGood isBook
  rw [all_loop_at (n := b.1.length) (goodAt b) false ?_ ?_]
  · cases (List.range b.1.length).all (goodAt b) with
    | true => simp only [cond_true, Option.bind_some, l1In_eq, Bool.true_and]
    | false => rfl
  · intro i hi
    have hx : b.1[i]? = some b.1[i] := by simp [hi]
    generalize hxx : b.1[i] = x at hx
    have hmem := List.mem_of_getElem? hx
    have hft := firstAt_take (fun y : GPhrase => decide (y.2.1 = x.2.1)) b.1 i 0 x hx (by simp)
    rw [Nat.zero_add] at hft
    have hof : (decide ((match firstAt (fun y : GPhrase => decide (y.2.1 = x.2.1)) b.1 0 with | some k => (k : Int) | none => -1) = (i : Int))) = (firstAt (fun y : GPhrase => decide (y.2.1 = x.2.1)) (b.1.take i) 0).isNone := by
      cases h1 : firstAt (fun y : GPhrase => decide (y.2.1 = x.2.1)) (b.1.take i) 0 with
      | none => rw [hft.2 h1]; simp
      | some k =>
        have : firstAt (fun y : GPhrase => decide (y.2.1 = x.2.1)) b.1 0 ≠ some i := fun e => by rw [hft.1 e] at h1; cases h1
        cases h2 : firstAt (fun y : GPhrase => decide (y.2.1 = x.2.1)) b.1 0 with
        | none => simp
        | some j => rw [h2] at this; simp; intro e; exact this (congrArg some (by omega))
    simp only [idx_get, hx, Option.bind_some, at_lt hi, up h.len hi, s_text (h.text x hmem), s_signals (h.sig x hmem), s_of h, hof, goodAt, cond_true]
    cases isText x.1 with
    | false => rfl
    | true =>
    cases isSignals x.2.1 with
    | false => rfl
    | true =>
    cases (firstAt (fun y : GPhrase => decide (y.2.1 = x.2.1)) (b.1.take i) 0).isNone <;> by_cases h0 : 0 < i
    all_goals first
      | (rw [show decide ((0 : Int) < (i : Int)) = false from decide_eq_false (by omega)]; rfl)
      | (rw [show decide ((0 : Int) < (i : Int)) = true from decide_eq_true (by omega), prev h hi h0]
         have hy : b.1[i - 1]? = some (b.1[i - 1]'(by omega)) := by simp [show i - 1 < b.1.length by omega]
         rw [hy]
         simp only [cond_true, Option.bind_some, Bool.not_true, cond_false]
         cases Op.bytesLess (b.1[i - 1]'(by omega)).1 x.1 <;> rfl)
  · simp

theorem i_good {b : GBook} (h : Fine b) : i_IsBook b = some (isBook b) := by
  unfold i_IsBook isBook
  rw [within_eq]
  simp only [Option.bind_some]
  cases hin : inB (b.1.length : Int) 1 40 with
  | false => simp
  | true =>
  simp only [Bool.not_true, cond_false, Bool.and_true]
  rw [all_loop_at (n := b.1.length) (goodAt b) false ?_ ?_]
  · cases (List.range b.1.length).all (goodAt b) <;> rfl
  · intro i hi
    have hx : b.1[i]? = some b.1[i] := by simp [hi]
    generalize hxx : b.1[i] = x at hx
    have hmem := List.mem_of_getElem? hx
    have hsub : sub b.1 0 (i : Int) = some (b.1.take i) := by
      unfold sub
      rw [if_pos ⟨by omega, by omega, by omega⟩]
      simp
    have hof : decide (0 ≤ (match firstAt (fun y : GPhrase => decide (y.2.1 = x.2.1)) (b.1.take i) 0 with | some k => (k : Int) | none => -1)) = !(firstAt (fun y : GPhrase => decide (y.2.1 = x.2.1)) (b.1.take i) 0).isNone := by
      cases firstAt (fun y : GPhrase => decide (y.2.1 = x.2.1)) (b.1.take i) 0 with
      | none => rfl
      | some k => simp
    have hlen : (b.1.take i).length ≤ maxLen := by have := h.len; rw [List.length_take]; omega
    simp only [idx_get, hx, Option.bind_some, at_lt hi, up h.len hi, i_phrase (h.text x hmem) (h.sig x hmem), hsub, i_of hlen (fun y hy => h.sig y (List.mem_of_mem_take hy)), hof, goodAt, cond_true]
    cases isText x.1 with
    | false => rfl
    | true =>
    cases isSignals x.2.1 with
    | false => rfl
    | true =>
    cases (firstAt (fun y : GPhrase => decide (y.2.1 = x.2.1)) (b.1.take i) 0).isNone <;> by_cases h0 : 0 < i
    all_goals first
      | (rw [show decide ((0 : Int) < (i : Int)) = false from decide_eq_false (by omega)]; rfl)
      | (rw [show decide ((0 : Int) < (i : Int)) = true from decide_eq_true (by omega), prev h hi h0]
         have hy : b.1[i - 1]? = some (b.1[i - 1]'(by omega)) := by simp [show i - 1 < b.1.length by omega]
         rw [hy]
         simp only [cond_true, Option.bind_some, Bool.and_self, Bool.not_true, cond_false]
         cases Op.bytesLess (b.1[i - 1]'(by omega)).1 x.1 <;> rfl)
  · simp

/-! sizes, copies -/

structure Small (b : GBook) : Prop where
  len : b.1.length ≤ 1048576
  sig : ∀ x ∈ b.1, x.2.1.length ≤ 1048576

theorem fine_of {b : GBook} (h : good TGBook b) : Fine b := ⟨h.1.1, fun x hx => (h.1.2 x hx).1, fun x hx => (h.1.2 x hx).2.1.1⟩
end Go.Proofs.Ytlhplhjibadplaa.Sh.Q

namespace Go.Proofs.Ytlhplhjibadplaa.Sh.Q
open Go Go.Ab Go.Proofs

/-- does the phrase begin the text at place i? -/
def hit (s : Bytes) (i : Nat) (x : GPhrase) : Bool := decide ((x.1.length : Int) ≤ ((s.drop i).length : Int)) && decide ((s.drop i).take x.1.length = x.1)

theorem sub_drop {s : Bytes} {i : Nat} (h : i ≤ s.length) : sub s (i : Int) (s.length : Int) = some (s.drop i) := by
  unfold sub
  rw [if_pos ⟨by omega, by omega, by omega⟩]
  simp
theorem sub_take {s : Bytes} {m : Nat} (h : m ≤ s.length) : sub s 0 (m : Int) = some (s.take m) := by
  unfold sub
  rw [if_pos ⟨by omega, by omega, by omega⟩]
  simp
theorem s_begins (s : Bytes) (i : Nat) (x : GPhrase) : s_spBegins (s.drop i) x.1 = some (hit s i x) := by
  unfold s_spBegins hit
  by_cases h : (x.1.length : Int) ≤ ((s.drop i).length : Int)
  · rw [decide_eq_true h, sub_take (by omega)]
    rfl
  · rw [decide_eq_false h]
    rfl
theorem i_begins (s : Bytes) (i : Nat) (x : GPhrase) : strings_HasPrefix (s.drop i) x.1 = some (hit s i x) := by
  unfold strings_HasPrefix internal_stringslite_HasPrefix hit
  by_cases h : (x.1.length : Int) ≤ ((s.drop i).length : Int)
  · rw [decide_eq_true h, sub_take (by omega)]
    rfl
  · rw [decide_eq_false h]
    rfl

/-- one phrase, in the first table -/
def sIn (s : Bytes) (i : Nat) (A : List Int) (_ : Nat) (x : GPhrase) : Option (List Int ⊕ List Int) :=
  (bif (!hit s i x) then
      some true
    else
      bif decide (0 ≤ (w64 ((i : Int) + (x.1.length : Int)))) && decide ((w64 ((i : Int) + (x.1.length : Int))) < (A.length : Int)) then
        (A[(Int.toNat (w64 ((i : Int) + (x.1.length : Int))))]?).bind fun e8 =>
        some (decide (e8 < 0))
      else
        none).bind fun c9 =>
  bif c9 then
    some (.inl A)
  else
    bif decide (0 ≤ (w64 ((i : Int) + (x.1.length : Int)))) && decide ((w64 ((i : Int) + (x.1.length : Int))) < (A.length : Int)) then
      (A[(Int.toNat (w64 ((i : Int) + (x.1.length : Int))))]?).bind fun e10 =>
      bif decide (0 ≤ (i : Int)) && decide ((i : Int) < (A.length : Int)) then
        (A[(Int.toNat (i : Int))]?).bind fun e11 =>
        (bif (decide (e11 < 0)) then
            some true
          else
            bif decide (0 ≤ (i : Int)) && decide ((i : Int) < (A.length : Int)) then
              (A[(Int.toNat (i : Int))]?).bind fun e12 =>
              some (decide ((w64 ((x.2.1.length : Int) + e10)) < e12))
            else
              none).bind fun c13 =>
        bif c13 then
          bif decide (0 ≤ (i : Int)) && decide ((i : Int) < (A.length : Int)) then
            some (.inl (A.set (Int.toNat (i : Int)) (w64 ((x.2.1.length : Int) + e10))))
          else
            none
        else
          some (.inl A)
      else
        none
    else
      none
/-- one phrase, in the second pair of tables -/
def iIn (s : Bytes) (i : Nat) (p : List Int × List Int) (j : Nat) (x : GPhrase) : Option ((List Int × List Int) ⊕ (List Int × List Int)) :=
  bif (!hit s i x) then
    some (.inl p)
  else
    bif decide (0 ≤ (w64 ((i : Int) + (x.1.length : Int)))) && decide ((w64 ((i : Int) + (x.1.length : Int))) < (p.1.length : Int)) then
      (p.1[(Int.toNat (w64 ((i : Int) + (x.1.length : Int))))]?).bind fun e8 =>
      bif decide (0 ≤ (i : Int)) && decide ((i : Int) < (p.1.length : Int)) then
        (p.1[(Int.toNat (i : Int))]?).bind fun e9 =>
        bif (decide ((w64 (e8 + (x.2.1.length : Int))) < e9)) then
          bif decide (0 ≤ (i : Int)) && decide ((i : Int) < (p.1.length : Int)) then
            bif decide (0 ≤ (i : Int)) && decide ((i : Int) < (p.2.length : Int)) then
              some (.inl ((p.1.set (Int.toNat (i : Int)) (w64 (e8 + (x.2.1.length : Int)))), (p.2.set (Int.toNat (i : Int)) (j : Int))))
            else
              none
          else
            none
        else
          some (.inl p)
      else
        none
    else
      none

def sTab (s : Bytes) (ps : List GPhrase) : Nat → List Int → Option (List Int)
  | 0, A => some A
  | m + 1, A => if m < A.length then (forRes (sIn s m) (fun A => A) (A.set m (-1)) 0 ps).bind (sTab s ps m) else none
def iTab (s : Bytes) (ps : List GPhrase) : Nat → List Int × List Int → Option (List Int × List Int)
  | 0, p => some p
  | m + 1, p => if m < p.1.length then (forRes (iIn s m) (fun p => p) (p.1.set m 1073741824, p.2) 0 ps).bind (iTab s ps m) else none

theorem down_loop {σ : Type} {N : Nat} {f : σ × Int → Option ((σ × Int) ⊕ σ)} {tab : Nat → σ → Option σ} {len : σ → Nat} {stp : Nat → σ → Option σ} (h0 : ∀ A, tab 0 A = some A) (h1 : ∀ m A, tab (m + 1) A = if m < len A then (stp m A).bind (tab m) else none)
    (hf : ∀ (i : Nat) A, i < N → f (A, (i : Int)) = if i < len A then (stp i A).bind fun A' => some (.inl (A', (i : Int) - 1)) else none) (hend : ∀ A, f (A, -1) = some (.inr A)) :
    ∀ (m : Nat) (A : σ), m ≤ N → loopE f (A, (m : Int) - 1) = tab m A
  | 0, A, _ => by rw [h0]; exact loopE_done (hend A)
  | m + 1, A, hm => by
    have h := hf m A (by omega)
    rw [show ((m + 1 : Nat) : Int) - 1 = (m : Int) by omega, h1]
    by_cases hl : m < len A
    · rw [if_pos hl] at h ⊢
      cases hs : stp m A with
      | none => rw [hs] at h; exact loopE_none h
      | some A' =>
        rw [hs] at h
        rw [loopE_step h]
        exact down_loop h0 h1 hf hend m A' (by omega)
    · rw [if_neg hl] at h ⊢
      exact loopE_none h

theorem s_table {b : GBook} (h : Fine b) {s : Bytes} (hs : s.length ≤ 1000) : s_spTable b s = sTab s b.1 s.length (List.replicate (s.length + 1) 0) := by
  unfold s_spTable
  have hlim : (lim : Int) = 4294967296 := rfl
  rw [w64_of (x := (s.length : Int) + 1) (by omega) (by omega)]
  rw [show (decide (0 ≤ (s.length : Int) + 1) && decide ((s.length : Int) + 1 ≤ (s.length : Int) + 1) && decide ((s.length : Int) + 1 ≤ lim)) = true by simp; omega, cond_true, w64_of (x := (s.length : Int) - 1) (by omega) (by omega)]
  rw [down_loop (N := s.length) (tab := sTab s b.1) (len := List.length) (stp := fun m A => forRes (sIn s m) (fun A => A) (A.set m (-1)) 0 b.1) (fun _ => rfl) (fun _ _ => rfl) ?_ ?_ s.length _ (Nat.le_refl _)]
  · rw [show Int.toNat ((s.length : Int) + 1) = s.length + 1 by omega]
    cases sTab s b.1 s.length (List.replicate (s.length + 1) 0) <;> rfl
  · intro i A hi
    by_cases hlt : i < A.length
    · rw [if_pos hlt]
      simp only [show decide ((0 : Int) ≤ (i : Int)) = true from decide_eq_true (by omega), show decide ((i : Int) < (A.length : Int)) = true from decide_eq_true (by omega), cond_true, Bool.and_self]
      rw [for_loop (a := b.1) Prod.mk (sIn s i) (fun A => A) (A.set i (-1)) ?_ ?_ ?_]
      · rw [w64_of (x := (i : Int) - 1) (by omega) (by omega)]
      · rw [Int.toNat_natCast]
      · intro A' j x hj hx
        simp only [idx_get, hx, Option.bind_some, at_lt hj, up h.len hj, cond_true, sub_drop (Nat.le_of_lt hi), s_begins, sIn, show decide ((0 : Int) ≤ (i : Int)) = true from decide_eq_true (by omega), Bool.true_and]
        cases hit s i x with
        | false => rfl
        | true =>
          simp only [Bool.not_true, cond_false]
          generalize (decide (0 ≤ (w64 ((i : Int) + (x.1.length : Int)))) && decide ((w64 ((i : Int) + (x.1.length : Int))) < (A'.length : Int))) = g1
          cases g1 with
          | false => rfl
          | true =>
            simp only [cond_true]
            cases A'[(Int.toNat (w64 ((i : Int) + (x.1.length : Int))))]? with
            | none => rfl
            | some e8 =>
              simp only [Option.bind_some]
              cases decide (e8 < 0) with
              | true => rfl
              | false =>
                simp only [cond_false]
                generalize (decide ((i : Int) < (A'.length : Int))) = g2
                cases g2 with
                | false => rfl
                | true =>
                  simp only [cond_true]
                  cases A'[(Int.toNat (i : Int))]? with
                  | none => rfl
                  | some e11 =>
                    simp only [Option.bind_some]
                    cases decide (e11 < 0) <;> cases decide ((w64 ((x.2.1.length : Int) + e8)) < e11) <;> rfl
      · intro A'; simp
    · rw [if_neg hlt]
      simp only [show decide ((0 : Int) ≤ (i : Int)) = true from decide_eq_true (by omega), show decide ((i : Int) < (A.length : Int)) = false from decide_eq_false (by omega)]
      rfl
  · intro A; rfl

/-! the two tables compared -/

def reach (v : Int) : Int := if v < 0 then 1073741824 else v

/-- what holds of the first table from place i on -/
structure TblOk (s : Bytes) (i : Nat) (A : List Int) : Prop where
  len : A.length = s.length + 1
  val : ∀ k, i ≤ k → k ≤ s.length → ∃ v, A[k]? = some v ∧ -1 ≤ v ∧ v ≤ 3 * ((s.length : Int) - k)
/-- what holds of the choices from place i on -/
def ChOk (s : Bytes) (ps : List GPhrase) (i : Nat) (A C : List Int) : Prop :=
  C.length = s.length + 1 ∧ ∀ k v, i ≤ k → k < s.length → A[k]? = some v → 0 ≤ v → ∃ (j : Nat) (x : GPhrase) (u : Int), C[k]? = some (j : Int) ∧ ps[j]? = some x ∧ hit s k x = true ∧ A[k + x.1.length]? = some u ∧ 0 ≤ u ∧ v = (x.2.1.length : Int) + u

theorem hit_len {s : Bytes} {i : Nat} {x : GPhrase} (h : hit s i x = true) (hi : i ≤ s.length) : i + x.1.length ≤ s.length := by
  unfold hit at h
  simp only [Bool.and_eq_true, decide_eq_true_eq, List.length_drop] at h
  omega

/-- what the two looks through the phrases end in -/
def InnerEnd (s : Bytes) (ps : List GPhrase) (i : Nat) (A : List Int) (j : Nat) (v : Int) (C : List Int) (r : List GPhrase) : Prop :=
  ∃ v' C', forRes (sIn s i) (fun A => A) (A.set i v) j r = some (A.set i v') ∧ forRes (iIn s i) (fun p => p) ((A.map reach).set i (reach v), C) j r = some ((A.map reach).set i (reach v'), C') ∧ -1 ≤ v' ∧ v' ≤ 3 * ((s.length : Int) - i) ∧ C'.length = s.length + 1 ∧ (∀ k, k ≠ i → C'[k]? = C[k]?) ∧
        (0 ≤ v' → ∃ (j : Nat) (x : GPhrase) (u : Int), C'[i]? = some (j : Int) ∧ ps[j]? = some x ∧ hit s i x = true ∧ A[i + x.1.length]? = some u ∧ 0 ≤ u ∧ v' = (x.2.1.length : Int) + u)
/-- one place: both tables look through the phrases -/
theorem inner_same {s : Bytes} {ps : List GPhrase} (hs : s.length ≤ 1000) {i : Nat} (hi : i < s.length) (hp : ∀ x ∈ ps, 1 ≤ x.1.length ∧ x.2.1.length ≤ 3) {A : List Int} (hA : TblOk s (i + 1) A) :
    ∀ (r : List GPhrase) (j : Nat) (v : Int) (C : List Int), (∀ k x, r[k]? = some x → ps[j + k]? = some x) → -1 ≤ v → v ≤ 3 * ((s.length : Int) - i) → C.length = s.length + 1 →
      (0 ≤ v → ∃ (j : Nat) (x : GPhrase) (u : Int), C[i]? = some (j : Int) ∧ ps[j]? = some x ∧ hit s i x = true ∧ A[i + x.1.length]? = some u ∧ 0 ≤ u ∧ v = (x.2.1.length : Int) + u) →
      InnerEnd s ps i A j v C r
  | [], j, v, C, _, h1, h2, h3, h4 => ⟨v, C, rfl, rfl, h1, h2, h3, fun _ _ => rfl, h4⟩
  | x :: r, j, v, C, hr, h1, h2, h3, h4 => by
    have hx : ps[j]? = some x := hr 0 x rfl
    have hr' : ∀ k y, r[k]? = some y → ps[j + 1 + k]? = some y := fun k y hk => by
      rw [show j + 1 + k = j + (k + 1) by omega]
      exact hr (k + 1) y (by simpa using hk)
    obtain ⟨p1, p2⟩ := hp x (List.mem_of_getElem? hx)
    have hAl := hA.len
    -- either both go on as they are, or both take the new value
    have go : ∀ (v1 : Int) (C1 : List Int), sIn s i (A.set i v) j x = some (.inl (A.set i v1)) → iIn s i ((A.map reach).set i (reach v), C) j x = some (.inl ((A.map reach).set i (reach v1), C1)) → -1 ≤ v1 → v1 ≤ 3 * ((s.length : Int) - i) → C1.length = s.length + 1 → (∀ k, k ≠ i → C1[k]? = C[k]?) →
        (0 ≤ v1 → ∃ (j : Nat) (x : GPhrase) (u : Int), C1[i]? = some (j : Int) ∧ ps[j]? = some x ∧ hit s i x = true ∧ A[i + x.1.length]? = some u ∧ 0 ≤ u ∧ v1 = (x.2.1.length : Int) + u) → InnerEnd s ps i A j v C (x :: r) := fun v1 C1 e1 e2 q1 q2 q3 q4 q5 => by
      obtain ⟨v', C', k1, k2, k3, k4, k5, k6, k7⟩ := inner_same hs hi hp hA r (j + 1) v1 C1 hr' q1 q2 q3 q5
      exact ⟨v', C', by simp only [forRes, e1, Option.bind_some]; exact k1, by simp only [forRes, e2, Option.bind_some]; exact k2, k3, k4, k5, fun k hk => (k6 k hk).trans (q4 k hk), k7⟩
    cases hh : hit s i x with
    | false =>
      exact go v C (by unfold sIn; rw [hh]; rfl) (by unfold iIn; rw [hh]; rfl) h1 h2 h3 (fun _ _ => rfl) h4
    | true =>
      have ht := hit_len hh (Nat.le_of_lt hi)
      obtain ⟨u, hu, u1, u2⟩ := hA.val (i + x.1.length) (by omega) ht
      have ew : w64 ((i : Int) + (x.1.length : Int)) = ((i + x.1.length : Nat) : Int) := by rw [w64_of (by omega) (by omega)]; omega
      have l1 : (A.set i v).length = s.length + 1 := by simp [hAl]
      have l2 : ((A.map reach).set i (reach v)).length = s.length + 1 := by simp [hAl]
      have g1 : (decide (0 ≤ ((i + x.1.length : Nat) : Int)) && decide (((i + x.1.length : Nat) : Int) < ((s.length + 1 : Nat) : Int))) = true := by simp; omega
      have g2 : (decide (0 ≤ (i : Int)) && decide ((i : Int) < ((s.length + 1 : Nat) : Int))) = true := by simp; omega
      have a1 : (A.set i v)[i + x.1.length]? = some u := by rw [List.getElem?_set_ne (by omega)]; exact hu
      have a2 : (A.set i v)[i]? = some v := by rw [List.getElem?_set_self (by omega)]
      have b1 : ((A.map reach).set i (reach v))[i + x.1.length]? = some (reach u) := by rw [List.getElem?_set_ne (by omega), List.getElem?_map, hu]; rfl
      have b2 : ((A.map reach).set i (reach v))[i]? = some (reach v) := by rw [List.getElem?_set_self (by simp; omega)]
      have ub : (u : Int) ≤ 3000 := by omega
      have vb : (v : Int) ≤ 3000 := by omega
      by_cases hu0 : u < 0
      · refine go v C ?_ ?_ h1 h2 h3 (fun _ _ => rfl) h4
        · unfold sIn
          rw [hh, ew, l1, g1, Int.toNat_natCast, a1]
          simp only [Bool.not_true, cond_false, cond_true, Option.bind_some, decide_eq_true hu0]
        · unfold iIn
          rw [hh, ew, l2, g1, g2, Int.toNat_natCast, Int.toNat_natCast, b1, b2]
          simp only [Bool.not_true, cond_false, cond_true, Option.bind_some]
          have : decide (w64 (reach u + (x.2.1.length : Int)) < reach v) = false := by
            refine decide_eq_false ?_
            unfold reach
            rw [if_pos hu0, w64_of (by omega) (by omega)]
            split <;> omega
          rw [this]
          rfl
      · have hru : reach u = u := if_neg hu0
        have cand : w64 ((x.2.1.length : Int) + u) = (x.2.1.length : Int) + u := w64_of (by omega) (by omega)
        have cand2 : w64 (u + (x.2.1.length : Int)) = (x.2.1.length : Int) + u := by rw [w64_of (by omega) (by omega)]; omega
        by_cases hbet : v < 0 ∨ (x.2.1.length : Int) + u < v
        · have hrc : reach ((x.2.1.length : Int) + u) = (x.2.1.length : Int) + u := if_neg (by omega)
          refine go ((x.2.1.length : Int) + u) (C.set i (j : Int)) ?_ ?_ (by omega) (by omega) (by simpa using h3) (fun k hk => by rw [List.getElem?_set_ne (fun e => hk e.symm)]) (fun _ => ⟨j, x, u, by rw [List.getElem?_set_self (by omega)], hx, hh, hu, by omega, rfl⟩)
          · unfold sIn
            rw [hh, ew, l1, g1, g2, Int.toNat_natCast, Int.toNat_natCast, a1, a2]
            simp only [Bool.not_true, cond_false, cond_true, Option.bind_some, decide_eq_false hu0, cand]
            have : (bif decide (v < 0) then some true else some (decide ((x.2.1.length : Int) + u < v))) = some true := by
              rcases hbet with hb | hb
              · rw [decide_eq_true hb]; rfl
              · cases decide (v < 0)
                · rw [decide_eq_true hb]; rfl
                · rfl
            rw [this]
            simp only [Option.bind_some, cond_true, List.set_set]
          · unfold iIn
            rw [hh, ew, l2, g1, g2, Int.toNat_natCast, Int.toNat_natCast, b1, b2, hru]
            have hc3 : (decide (0 ≤ (i : Int)) && decide ((i : Int) < (C.length : Int))) = true := by rw [h3]; exact g2
            simp only [Bool.not_true, cond_false, cond_true, Option.bind_some, hc3, cand2]
            have : decide ((x.2.1.length : Int) + u < reach v) = true := by
              refine decide_eq_true ?_
              unfold reach
              split <;> omega
            rw [this, hrc]
            simp only [cond_true, List.set_set]
        · refine go v C ?_ ?_ h1 h2 h3 (fun _ _ => rfl) h4
          · unfold sIn
            rw [hh, ew, l1, g1, g2, Int.toNat_natCast, Int.toNat_natCast, a1, a2]
            simp only [Bool.not_true, cond_false, cond_true, Option.bind_some, decide_eq_false hu0, cand]
            rw [show decide (v < 0) = false from decide_eq_false (by omega), show decide ((x.2.1.length : Int) + u < v) = false from decide_eq_false (by omega)]
            rfl
          · unfold iIn
            rw [hh, ew, l2, g1, g2, Int.toNat_natCast, Int.toNat_natCast, b1, b2, hru]
            simp only [Bool.not_true, cond_false, cond_true, Option.bind_some, cand2]
            have : decide ((x.2.1.length : Int) + u < reach v) = false := by
              refine decide_eq_false ?_
              unfold reach
              split <;> omega
            rw [this]
            rfl
end Go.Proofs.Ytlhplhjibadplaa.Sh.Q

namespace Go.Proofs.Ytlhplhjibadplaa.Sh.Q
open Go Go.Ab Go.Proofs

theorem down_loop' {σ τ : Type} (mk : σ → Int → τ) {N : Nat} {f : τ → Option (τ ⊕ σ)} {tab : Nat → σ → Option σ} {len : σ → Nat} {stp : Nat → σ → Option σ} (h0 : ∀ A, tab 0 A = some A) (h1 : ∀ m A, tab (m + 1) A = if m < len A then (stp m A).bind (tab m) else none)
    (hf : ∀ (i : Nat) A, i < N → f (mk A (i : Int)) = if i < len A then (stp i A).bind fun A' => some (.inl (mk A' ((i : Int) - 1))) else none) (hend : ∀ A, f (mk A (-1)) = some (.inr A)) :
    ∀ (m : Nat) (A : σ), m ≤ N → loopE f (mk A ((m : Int) - 1)) = tab m A
  | 0, A, _ => by rw [h0]; exact loopE_done (hend A)
  | m + 1, A, hm => by
    have h := hf m A (by omega)
    rw [show ((m + 1 : Nat) : Int) - 1 = (m : Int) by omega, h1]
    by_cases hl : m < len A
    · rw [if_pos hl] at h ⊢
      cases hs : stp m A with
      | none => rw [hs] at h; exact loopE_none h
      | some A' =>
        rw [hs] at h
        rw [loopE_step h]
        exact down_loop' mk h0 h1 hf hend m A' (by omega)
    · rw [if_neg hl] at h ⊢
      exact loopE_none h

/-- the loop that reads the choices -/
def walk (b : GBook) (s : Bytes) : (List Int) × (List Int) × Int → Option (((List Int) × (List Int) × Int) ⊕ List Int) := fun st14 =>
  bif (decide (st14.2.2 < (s.length : Int))) then
    bif decide (0 ≤ st14.2.2) && decide (st14.2.2 < (st14.1.length : Int)) then
      (st14.1[(Int.toNat st14.2.2)]?).bind fun e15 =>
      bif decide (List.length st14.2.1 + List.length [e15] ≤ lim) then
        bif decide (0 ≤ st14.2.2) && decide (st14.2.2 < (st14.1.length : Int)) then
          (st14.1[(Int.toNat st14.2.2)]?).bind fun e16 =>
          (idx b.1 e16).bind fun e17 =>
          some (.inl (st14.1, (st14.2.1 ++ [e15]), (w64 (st14.2.2 + (e17.1.length : Int)))))
        else
          none
      else
        none
    else
      none
  else
    some (.inr st14.2.1)

/-- the program's spelling by its tables -/
noncomputable def spelt (b : GBook) (s : Bytes) (p : List Int × List Int) : Option ((List Int) × Bool) :=
  (p.1[0]?).bind fun e12 => bif (decide (1073741824 ≤ e12)) then some ([], false) else (loopE (walk b s) (p.2, [], 0)).bind fun o18 => some (o18, true)

theorem i_table {b : GBook} (h : Fine b) {s : Bytes} (hs : s.length ≤ 1000) : i_spell b s = (iTab s b.1 s.length (List.replicate (s.length + 1) 0, List.replicate (s.length + 1) 0)).bind (spelt b s) := by
  unfold i_spell
  have hlim : (lim : Int) = 4294967296 := rfl
  rw [w64_of (x := (s.length : Int) + 1) (by omega) (by omega)]
  rw [show (decide (0 ≤ (s.length : Int) + 1) && decide ((s.length : Int) + 1 ≤ (s.length : Int) + 1) && decide ((s.length : Int) + 1 ≤ lim)) = true by simp; omega, cond_true, w64_of (x := (s.length : Int) - 1) (by omega) (by omega)]
  rw [cond_true]
  rw [down_loop' (fun (A : List Int × List Int) (i : Int) => (A.1, A.2, i)) (A := ((List.replicate (Int.toNat ((s.length : Int) + 1)) 0), (List.replicate (Int.toNat ((s.length : Int) + 1)) 0))) (N := s.length) (tab := iTab s b.1) (len := fun A => A.1.length) (stp := fun m A => forRes (iIn s m) (fun p => p) (A.1.set m 1073741824, A.2) 0 b.1) (fun _ => rfl) (fun _ _ => rfl) ?_ ?_ s.length (Nat.le_refl _)]
  · rw [show Int.toNat ((s.length : Int) + 1) = s.length + 1 by omega]
    cases iTab s b.1 s.length (List.replicate (s.length + 1) 0, List.replicate (s.length + 1) 0) with
    | none => rfl
    | some p =>
      simp only [Option.bind_some]
      unfold spelt
      cases p.1 with
      | nil => rfl
      | cons x l =>
        rw [show (decide (0 ≤ 0) && decide ((0 : Int) < ((x :: l).length : Int))) = true by simp]
        rfl
  · intro i A hi
    obtain ⟨A, C⟩ := A
    by_cases hlt : i < A.length
    · rw [if_pos hlt]
      simp only [show decide ((0 : Int) ≤ (i : Int)) = true from decide_eq_true (by omega), show decide ((i : Int) < (A.length : Int)) = true from decide_eq_true (by omega), cond_true, Bool.and_self]
      rw [for_loop (a := b.1) (fun (A : List Int × List Int) (i : Int) => (A.1, A.2, i)) (iIn s i) (fun A => A) (A.set i 1073741824, C) ?_ ?_ ?_]
      · rw [w64_of (x := (i : Int) - 1) (by omega) (by omega)]
      · rw [Int.toNat_natCast]
      · intro A' j x hj hx
        obtain ⟨A', C'⟩ := A'
        simp only [idx_get, hx, Option.bind_some, at_lt hj, up h.len hj, cond_true, sub_drop (Nat.le_of_lt hi), i_begins, iIn, show decide ((0 : Int) ≤ (i : Int)) = true from decide_eq_true (by omega), Bool.true_and]
        cases hit s i x with
        | false => rfl
        | true =>
          simp only [Bool.not_true, cond_false]
          generalize (decide (0 ≤ (w64 ((i : Int) + (x.1.length : Int)))) && decide ((w64 ((i : Int) + (x.1.length : Int))) < (A'.length : Int))) = g1
          cases g1 with
          | false => rfl
          | true =>
            simp only [cond_true]
            cases A'[(Int.toNat (w64 ((i : Int) + (x.1.length : Int))))]? with
            | none => rfl
            | some e8 =>
              simp only [Option.bind_some]
              generalize (decide ((i : Int) < (A'.length : Int))) = g2
              cases g2 with
              | false => rfl
              | true =>
                simp only [cond_true]
                cases A'[(Int.toNat (i : Int))]? with
                | none => rfl
                | some e11 =>
                  simp only [Option.bind_some]
                  generalize (decide ((i : Int) < (C'.length : Int))) = g3
                  cases decide (w64 (e8 + (x.2.1.length : Int)) < e11) <;> cases g3 <;> rfl
      · intro A'; simp
    · rw [if_neg hlt]
      simp only [show decide ((0 : Int) ≤ (i : Int)) = true from decide_eq_true (by omega), show decide ((i : Int) < (A.length : Int)) = false from decide_eq_false (by omega)]
      rfl
  · intro A; rfl

/-- both tables, to the end -/
theorem tables_same {s : Bytes} {ps : List GPhrase} (hs : s.length ≤ 1000) (hp : ∀ x ∈ ps, 1 ≤ x.1.length ∧ x.2.1.length ≤ 3) :
    ∀ (m : Nat) (A C : List Int), m ≤ s.length → TblOk s m A → ChOk s ps m A C → ∃ A' C', sTab s ps m A = some A' ∧ iTab s ps m (A.map reach, C) = some (A'.map reach, C') ∧ TblOk s 0 A' ∧ ChOk s ps 0 A' C'
  | 0, A, C, _, hA, hC => ⟨A, C, rfl, rfl, hA, hC⟩
  | m + 1, A, C, hm, hA, hC => by
    have hl := hA.len
    obtain ⟨v, C1, h1, h2, h3, h4, h5, h6, h7⟩ := inner_same hs (i := m) (by omega) hp hA ps 0 (-1) C (fun k x h => by rw [Nat.zero_add]; exact h) (by omega) (by omega) hC.1 (fun h => by omega)
    have hr : reach (-1) = 1073741824 := rfl
    rw [hr] at h2
    have e2 : (A.map reach).set m (reach v) = (A.set m v).map reach := by rw [List.map_set]
    rw [e2] at h2
    obtain ⟨A', C', k1, k2, k3, k4⟩ := tables_same hs hp m (A.set m v) C1 (by omega) ⟨by simp [hl], fun k hk1 hk2 => by
        by_cases e : k = m
        · subst e
          exact ⟨v, by rw [List.getElem?_set_self (by omega)], h3, h4⟩
        · obtain ⟨u, q1, q2, q3⟩ := hA.val k (by omega) hk2
          exact ⟨u, by rw [List.getElem?_set_ne (fun x => e x.symm)]; exact q1, q2, q3⟩⟩ ⟨h5, fun k u hk1 hk2 hu h0 => by
        by_cases e : k = m
        · subst e
          rw [List.getElem?_set_self (by omega)] at hu
          obtain rfl := Option.some.inj hu
          obtain ⟨j, x, w, q1, q2, q3, q4, q5, q6⟩ := h7 h0
          refine ⟨j, x, w, q1, q2, q3, ?_, q5, q6⟩
          have := (hp x (List.mem_of_getElem? q2)).1
          rw [List.getElem?_set_ne (by omega)]
          exact q4
        · rw [List.getElem?_set_ne (fun x => e x.symm)] at hu
          obtain ⟨j, x, w, q1, q2, q3, q4, q5, q6⟩ := hC.2 k u (by omega) hk2 hu h0
          exact ⟨j, x, w, by rw [h6 k e]; exact q1, q2, q3, by rw [List.getElem?_set_ne (by omega)]; exact q4, q5, q6⟩⟩
    refine ⟨A', C', ?_, ?_, k3, k4⟩
    · unfold sTab
      rw [if_pos (by omega), h1]
      exact k1
    · unfold iTab
      rw [if_pos (by simp; omega)]
      simp only []
      rw [h2]
      exact k2

/-- the chosen phrases have so many signals -/
def Codes (ps : List GPhrase) : List Int → Int → Prop
  | [], n => n = 0
  | j :: L, n => ∃ (k : Nat) (x : GPhrase), j = (k : Int) ∧ ps[k]? = some x ∧ Codes ps L (n - (x.2.1.length : Int))

theorem walk_ok {b : GBook} {s : Bytes} {A C : List Int} (hs : s.length ≤ 1000) (hp : ∀ x ∈ b.1, 1 ≤ x.1.length ∧ x.2.1.length ≤ 3) (hA : TblOk s 0 A) (hC : ChOk s b.1 0 A C) :
    ∀ (n i : Nat) (v : Int) (acc : List Int), s.length ≤ i + n → i ≤ s.length → A[i]? = some v → 0 ≤ v → acc.length ≤ i → ∃ L, loopE (walk b s) (C, acc, (i : Int)) = some (acc ++ L) ∧ Codes b.1 L v ∧ L.length + i ≤ s.length
  | 0, i, v, acc, hn, hi, hv, h0, ha => by
    obtain ⟨u, q1, q2, q3⟩ := hA.val i (by omega) hi
    rw [hv] at q1
    obtain rfl := Option.some.inj q1
    refine ⟨[], loopE_done ?_, by show v = 0; omega, by simp; omega⟩
    unfold walk
    rw [show decide ((i : Int) < (s.length : Int)) = false from decide_eq_false (by omega)]
    simp
  | n + 1, i, v, acc, hn, hi, hv, h0, ha => by
    by_cases hlt : i < s.length
    · obtain ⟨j, x, u, q1, q2, q3, q4, q5, q6⟩ := hC.2 i v (by omega) hlt hv h0
      have hx := hp x (List.mem_of_getElem? q2)
      have ht := hit_len q3 hi
      obtain ⟨L, k1, k2, k3⟩ := walk_ok hs hp hA hC n (i + x.1.length) u (acc ++ [(j : Int)]) (by omega) ht q4 q5 (by simp; omega)
      refine ⟨(j : Int) :: L, ?_, ⟨j, x, rfl, q2, by rw [show v - (x.2.1.length : Int) = u by omega]; exact k2⟩, by simp; omega⟩
      have st : walk b s (C, acc, (i : Int)) = some (.inl (C, acc ++ [(j : Int)], ((i + x.1.length : Nat) : Int))) := by
        unfold walk
        have hlim : lim = 4294967296 := rfl
        have hcl := hC.1
        rw [show decide ((i : Int) < (s.length : Int)) = true from decide_eq_true (by omega), show (decide ((0 : Int) ≤ (i : Int)) && decide ((i : Int) < (C.length : Int))) = true by simp; omega, Int.toNat_natCast, q1]
        simp only [cond_true, Option.bind_some, idx_get, q2]
        rw [show decide (acc.length + [(j : Int)].length ≤ lim) = true from decide_eq_true (by simp only [List.length_cons, List.length_nil]; omega), cond_true, w64_of (by omega) (by omega)]
        rfl
      rw [loopE_step st, k1]
      simp
    · exact walk_ok hs hp hA hC 0 i v acc (by omega) hi hv h0 ha

/-- the loop that gathers the signals -/
def gather (b : GBook) (n : Nat) : (List Int) × (List Int) × Int → Option (((List Int) × (List Int) × Int) ⊕ List Int) := fun st3 =>
  bif (decide (st3.2.2 < (n : Int))) then
    bif decide (0 ≤ st3.2.2) && decide (st3.2.2 < (st3.2.1.length : Int)) then
      (st3.2.1[(Int.toNat st3.2.2)]?).bind fun e4 =>
      (idx b.1 e4).bind fun e5 =>
      bif decide (List.length st3.1 + List.length e5.2.1 ≤ lim) then
        some (.inl ((st3.1 ++ e5.2.1), st3.2.1, (w64 (st3.2.2 + 1))))
      else
        none
    else
      none
  else
    some (.inr st3.1)

theorem codes_pos {ps : List GPhrase} : ∀ {L : List Int} {n : Int}, Codes ps L n → 0 ≤ n
  | [], n, h => by have : n = 0 := h; omega
  | j :: L, n, ⟨k, x, _, _, h⟩ => by
    have := codes_pos h
    omega

theorem gather_ok {b : GBook} {M : List Int} (hM : M.length ≤ 5000) : ∀ (L : List Int) (pre acc : List Int) (v : Int), M = pre ++ L → Codes b.1 L v → (acc.length : Int) + v ≤ 1000000 → ∃ out, loopE (gather b M.length) (acc, M, (pre.length : Int)) = some out ∧ (out.length : Int) = acc.length + v
  | [], pre, acc, v, e, h, hb => by
    have hv : v = 0 := h
    refine ⟨acc, loopE_done ?_, by omega⟩
    unfold gather
    rw [show decide ((pre.length : Int) < (M.length : Int)) = false from decide_eq_false (by rw [e]; simp)]
    rfl
  | j :: L, pre, acc, v, e, ⟨k, x, hj, hx, h⟩, hb => by
    have hv := codes_pos h
    have hlim : lim = 4294967296 := rfl
    have hml : M.length = pre.length + (L.length + 1) := by rw [e]; simp
    have hat : M[pre.length]? = some j := by rw [e]; simp
    obtain ⟨out, k1, k2⟩ := gather_ok hM L (pre ++ [j]) (acc ++ x.2.1) (v - (x.2.1.length : Int)) (by rw [e]; simp) h (by simp; omega)
    refine ⟨out, ?_, by rw [k2]; simp; omega⟩
    have st : gather b M.length (acc, M, (pre.length : Int)) = some (.inl (acc ++ x.2.1, M, ((pre ++ [j]).length : Int))) := by
      unfold gather
      rw [show decide ((pre.length : Int) < (M.length : Int)) = true from decide_eq_true (by omega), show decide ((0 : Int) ≤ (pre.length : Int)) = true from decide_eq_true (by omega), Int.toNat_natCast, hat]
      simp only [cond_true, Option.bind_some, Bool.and_self, hj, idx_get, hx]
      rw [show decide (acc.length + x.2.1.length ≤ lim) = true from decide_eq_true (by omega), cond_true, w64_of (by omega) (by omega)]
      simp
    rw [loopE_step st]
    exact k1

theorem s_lets {s : Bytes} (h : s.length ≤ maxLen) : s_spLetters s = some (s.all low && decide ((s.length : Int) ≤ 40)) := by
  unfold s_spLetters
  rw [all_loop (l := s) low false ?_ ?_]
  · cases s.all low <;> rfl
  · intro i x hx hi'
    simp only [idx_get, hx, Option.bind_some, at_lt hi', up h hi', low]
    cases decide ((x.toNat : Int) < 97) <;> cases decide (122 < (x.toNat : Int)) <;> rfl
  · simp
theorem i_lets {s : Bytes} (h : s.length ≤ maxLen) : i_isLetters s = some (s.all low && decide ((s.length : Int) ≤ 40)) := by
  unfold i_isLetters
  rw [i_small h]
  cases s.all low <;> cases decide ((s.length : Int) ≤ 40) <;> rfl

theorem book_phrase {b : GBook} (hb : isBook b = true) : b.1.length ≤ 40 ∧ ∀ x ∈ b.1, 1 ≤ x.1.length ∧ x.2.1.length ≤ 3 := by
  simp only [isBook, Bool.and_eq_true, List.all_eq_true, inB, decide_eq_true_eq] at hb
  refine ⟨by omega, fun x hx => ?_⟩
  obtain ⟨i, hi, rfl⟩ := List.getElem_of_mem hx
  have := hb.1 i (List.mem_range.2 hi)
  have e : b.1[i]? = some b.1[i] := by simp [hi]
  simp only [goodAt, e, Bool.and_eq_true, isSignals, isText, inB, decide_eq_true_eq, Bool.not_eq_true'] at this
  refine ⟨?_, by omega⟩
  have h2 := this.1.1.1.2.2
  cases ht : b.1[i].1 with
  | nil => rw [ht] at h2; simp at h2
  | cons y l => simp

theorem least_same {b : GBook} (h : Fine b) {s : Bytes} (hs : s.length ≤ maxLen) : ∃ n ok, s_LeastSignals b s = some (n, ok) ∧ i_LeastSignals b s = some (n, ok) ∧ 0 ≤ n ∧ n ≤ 120 := by
  unfold s_LeastSignals i_LeastSignals i_EncodeMessage i_SpellMessage s_spAsked
  rw [s_good h, s_lets hs, i_good h, i_lets hs]
  simp only [Option.bind_some]
  have none_case : ∀ (x : Option ((List Int) × Bool)), x = some ([], false) → ((x.bind fun (r1 : List Int × Bool) => (loopE (gather b r1.1.length) ([], r1.1, 0)).bind fun o6 => some (o6, r1.2)).bind fun (r1 : List Int × Bool) => some ((r1.1.length : Int), r1.2)) = some ((0 : Int), false) := fun x e => by
    rw [e]
    simp only [Option.bind_some]
    rw [loopE_done (b := []) rfl]
    rfl
  cases hb : isBook b with
  | false =>
    refine ⟨0, false, rfl, ?_, by omega, by omega⟩
    exact none_case _ rfl
  | true =>
  obtain ⟨hlen, hp⟩ := book_phrase hb
  cases hl : (s.all low && decide ((s.length : Int) ≤ 40)) with
  | false =>
    refine ⟨0, false, rfl, ?_, by omega, by omega⟩
    exact none_case _ rfl
  | true =>
  simp only [Bool.and_eq_true, decide_eq_true_eq] at hl
  have hs4 : s.length ≤ 40 := by omega
  have z0 : TblOk s s.length (List.replicate (s.length + 1) 0) := ⟨by simp, fun k h1 h2 => ⟨0, by rw [List.getElem?_replicate, if_pos (by omega)], by omega, by omega⟩⟩
  have z1 : ChOk s b.1 s.length (List.replicate (s.length + 1) 0) (List.replicate (s.length + 1) 0) := ⟨by simp, fun k v h1 h2 => by omega⟩
  obtain ⟨A, C, k1, k2, k3, k4⟩ := tables_same (by omega) hp s.length _ _ (Nat.le_refl _) z0 z1
  rw [List.map_replicate, show reach 0 = 0 from rfl] at k2
  obtain ⟨v, v1, v2, v3⟩ := k3.val 0 (by omega) (by omega)
  have hal := k3.len
  have gA : (decide (0 ≤ 0) && decide ((0 : Int) < (A.length : Int))) = true := by simp; omega
  rw [s_table h (by omega), k1, i_table h (by omega), k2]
  have b0 : (A.map reach)[0]? = some (reach v) := by rw [List.getElem?_map, v1]; rfl
  simp only [Option.bind_some, Bool.not_true, cond_false, gA, cond_true, show Int.toNat 0 = 0 from rfl, v1, spelt, b0]
  by_cases hv : v < 0
  · have hr : reach v = 1073741824 := if_pos hv
    rw [decide_eq_true hv, hr]
    refine ⟨0, false, rfl, ?_, by omega, by omega⟩
    exact none_case _ rfl
  · have hr : reach v = v := if_neg hv
    rw [decide_eq_false hv, hr, show decide (1073741824 ≤ v) = false from decide_eq_false (by omega)]
    obtain ⟨L, w1, w2, w3⟩ := walk_ok (b := b) (s := s) (by omega) hp k3 k4 s.length 0 v [] (by omega) (by omega) v1 (by omega) (by simp)
    obtain ⟨out, g1, g2⟩ := gather_ok (b := b) (M := L) (by omega) L [] [] v rfl w2 (by simp; omega)
    have w1' : loopE (walk b s) (C, [], 0) = some L := w1
    refine ⟨v, true, rfl, ?_, by omega, by omega⟩
    simp only [cond_false, w1', Option.bind_some]
    show (((loopE (gather b L.length) ([], L, 0)).bind fun o6 => some (o6, true)).bind fun (r1 : List Int × Bool) => some ((r1.1.length : Int), r1.2)) = _
    have g1' : loopE (gather b L.length) ([], L, 0) = some out := g1
    rw [g1']
    simp only [Option.bind_some, g2]
    simp
end Go.Proofs.Ytlhplhjibadplaa.Sh.Q

