/-
  Books, in plain Lean.
-/
import Derived.Test.YtbbcmknpbpfkaaaXLaw
import Derived.Test.YtbbcmknpbpfkaaaMFns3
namespace Go.Proofs.Ytbbcmknpbpfkaaa.Sh
open Go Go.Ab Go.Proofs

def inB (n lo hi : Int) : Bool := decide (lo ≤ n) && decide (n ≤ hi)
theorem l1In_eq (n lo hi : Int) : s_l1In n lo hi = some (inB n lo hi) := by
  unfold s_l1In inB
  cases decide (lo ≤ n) <;> rfl
theorem within_eq (n lo hi : Int) : i_within n lo hi = some (inB n lo hi) := by
  unfold i_within inB
  cases decide (lo ≤ n) <;> rfl

/-- a list's places are below 2^63 -/
theorem at_lt {n i : Nat} (hi : i < n) : decide ((i : Int) < (n : Int)) = true := decide_eq_true (by omega)
theorem up {n i : Nat} (hn : n ≤ maxLen) (hi : i < n) : w64 ((i : Int) + 1) = (i : Int) + 1 := by unfold maxLen at hn; exact w64_of (by omega) (by omega)
theorem no_lt (n : Nat) : decide ((n : Int) < (n : Int)) = false := decide_eq_false (by omega)

theorem s_all {l : List Int} {lo hi : Int} (h : l.length ≤ maxLen) : s_l1All l lo hi = some (l.all fun x => inB x lo hi) := by
  unfold s_l1All
  rw [all_loop (l := l) (fun x => inB x lo hi) false ?_ ?_]
  · cases l.all fun x => inB x lo hi <;> rfl
  · intro i x hx hi'
    simp only [idx_get, hx, Option.bind_some, l1In_eq, at_lt hi', up h hi']
    cases inB x lo hi <;> rfl
  · simp
theorem i_all {l : List Int} {lo hi : Int} (h : l.length ≤ maxLen) : i_allWithin l lo hi = some (l.all fun x => inB x lo hi) := by
  unfold i_allWithin
  rw [all_loop (l := l) (fun x => inB x lo hi) false ?_ ?_]
  · cases l.all fun x => inB x lo hi <;> rfl
  · intro i x hx hi'
    simp only [idx_get, hx, Option.bind_some, within_eq, at_lt hi', up h hi']
    cases inB x lo hi <;> rfl
  · simp

def low (b : UInt8) : Bool := !(decide ((b.toNat : Int) < 97) || decide (122 < (b.toNat : Int)))
theorem s_letters {s : Bytes} (h : s.length ≤ maxLen) : s_bkLetters s = some (s.all low && decide ((s.length : Int) ≤ 12)) := by
  unfold s_bkLetters
  rw [all_loop (l := s) low false ?_ ?_]
  · cases s.all low <;> rfl
  · intro i x hx hi'
    simp only [idx_get, hx, Option.bind_some, at_lt hi', up h hi', low]
    cases decide ((x.toNat : Int) < 97) <;> cases decide (122 < (x.toNat : Int)) <;> rfl
  · simp
theorem i_small {s : Bytes} (h : s.length ≤ maxLen) : i_isSmall s = some (s.all low) := by
  unfold i_isSmall
  rw [all_loop (l := s) low false ?_ ?_]
  · cases s.all low <;> rfl
  · intro i x hx hi'
    simp only [idx_get, hx, Option.bind_some, at_lt hi', up h hi', low]
    cases decide ((x.toNat : Int) < 97) <;> cases decide (122 < (x.toNat : Int)) <;> rfl
  · simp

def isText (s : Bytes) : Bool := s.all low && (decide ((s.length : Int) ≤ 12) && !decide (s = []))
theorem s_text {s : Bytes} (h : s.length ≤ maxLen) : s_bkPhraseText s = some (isText s) := by
  unfold s_bkPhraseText isText
  rw [s_letters h]
  simp only [Option.bind_some]
  cases s.all low <;> cases decide ((s.length : Int) ≤ 12) <;> rfl
theorem i_text {s : Bytes} (h : s.length ≤ maxLen) : i_IsPhraseText s = some (isText s) := by
  unfold i_IsPhraseText isText
  rw [i_small h]
  have : decide (1 ≤ (s.length : Int)) = !decide (s = []) := by
    cases s with
    | nil => rfl
    | cons x s => simp; omega
  rw [this]
  simp only [Option.bind_some]
  cases s.all low <;> cases decide ((s.length : Int) ≤ 12) <;> cases decide (s = []) <;> rfl

def isSignals (l : List Int) : Bool := inB (l.length : Int) 1 3 && l.all fun x => inB x 1 60
theorem s_signals {l : List Int} (h : l.length ≤ maxLen) : s_bkSignals l = some (isSignals l) := by
  unfold s_bkSignals isSignals
  rw [l1In_eq, s_all h]
  simp only [Option.bind_some]
  cases inB (l.length : Int) 1 3 <;> rfl
theorem i_phrase {x : GPhrase} (h1 : x.1.length ≤ maxLen) (h2 : x.2.1.length ≤ maxLen) : i_isPhrase x = some (isText x.1 && isSignals x.2.1) := by
  unfold i_isPhrase isSignals
  rw [i_text h1, within_eq, i_all h2]
  simp only [Option.bind_some]
  cases isText x.1 <;> cases inB (x.2.1.length : Int) 1 3 <;> rfl

theorem zip_same : ∀ (a b : List Int), a.length = b.length → ((List.range a.length).all fun i => decide (a[i]? = b[i]?)) = decide (a = b) := fun a b h => by
  by_cases e : a = b
  · subst e; simp
  · rw [decide_eq_false e]
    refine Bool.eq_false_iff.2 fun hall => e ?_
    rw [List.all_eq_true] at hall
    apply List.ext_getElem?
    intro i
    by_cases hi : i < a.length
    · exact of_decide_eq_true (hall i (List.mem_range.2 hi))
    · rw [List.getElem?_eq_none (by omega), List.getElem?_eq_none (by omega)]
theorem s_same {a b : List Int} (h : a.length ≤ maxLen) : s_l1Same a b = some (decide (a = b)) := by
  unfold s_l1Same
  by_cases hl : a.length = b.length
  · rw [show decide ((a.length : Int) = (b.length : Int)) = true from decide_eq_true (by omega)]
    simp only [Bool.not_true, cond_false]
    rw [all_loop_at (n := a.length) (fun i => decide (a[i]? = b[i]?)) false ?_ ?_, zip_same a b hl]
    · cases decide (a = b) <;> rfl
    · intro i hi
      have e1 : a[i]? = some a[i] := by simp [hi]
      have e2 : b[i]? = some (b[i]'(by omega)) := by simp [show i < b.length by omega]
      simp only [idx_get, e1, e2, Option.bind_some, at_lt hi, up h hi, Option.some.injEq]
      cases decide (a[i] = b[i]) <;> rfl
    · simp
  · rw [show decide ((a.length : Int) = (b.length : Int)) = false from decide_eq_false (by omega), decide_eq_false (fun e => hl (by rw [e]))]
    rfl
theorem i_same {a b : List Int} (h : a.length ≤ maxLen) : slices_Equal_int a b = some (decide (a = b)) := by
  unfold slices_Equal_int
  by_cases hl : a.length = b.length
  · rw [show decide ((a.length : Int) = (b.length : Int)) = true from decide_eq_true (by omega)]
    simp only [Bool.not_true, cond_false]
    rw [all_loop_at (n := a.length) (fun i => decide (a[i]? = b[i]?)) false ?_ ?_, zip_same a b hl]
    · cases decide (a = b) <;> rfl
    · intro i hi
      have e1 : a[i]? = some a[i] := by simp [hi]
      have e2 : b[i]? = some (b[i]'(by omega)) := by simp [show i < b.length by omega]
      simp only [idx_get, e1, e2, Option.bind_some, at_lt hi, up h hi, Option.some.injEq]
      cases decide (a[i] = b[i]) <;> rfl
    · simp
  · rw [show decide ((a.length : Int) = (b.length : Int)) = false from decide_eq_false (by omega), decide_eq_false (fun e => hl (by rw [e]))]
    rfl
theorem eqIntS {l : List Int} (h : l.length ≤ maxLen) : l_eqIntS l l = some true := by
  have : l_eqIntS l l = slices_Equal_int l l := rfl
  rw [this, i_same h]
  simp

/-- what is given of a book -/
structure Fine (b : GBook) : Prop where
  len : b.1.length ≤ maxLen
  text : ∀ x ∈ b.1, x.1.length ≤ maxLen
  sig : ∀ x ∈ b.1, x.2.1.length ≤ maxLen

theorem s_of {b : GBook} (h : Fine b) (l : List Int) : s_bkOf b l = some (match firstAt (fun x : GPhrase => decide (x.2.1 = l)) b.1 0 with | some i => (i : Int) | none => -1) := by
  unfold s_bkOf
  rw [find_loop (l := b.1) (fun x : GPhrase => decide (x.2.1 = l)) ?_ ?_]
  · cases firstAt (fun x : GPhrase => decide (x.2.1 = l)) b.1 0 <;> rfl
  · intro i x hx hi
    simp only [idx_get, hx, Option.bind_some, at_lt hi, up h.len hi, s_same (h.sig x (List.mem_of_getElem? hx))]
    cases decide (x.2.1 = l) <;> rfl
  · simp
theorem i_of {ps : List GPhrase} (h1 : ps.length ≤ maxLen) (h2 : ∀ x ∈ ps, x.2.1.length ≤ maxLen) (l : List Int) : i_phraseIndex (ps, ()) l = some (match firstAt (fun x : GPhrase => decide (x.2.1 = l)) ps 0 with | some i => (i : Int) | none => -1) := by
  unfold i_phraseIndex slices_IndexFunc_Phrase_136
  rw [find_loop (l := ps) (fun x : GPhrase => decide (x.2.1 = l)) ?_ ?_]
  · cases firstAt (fun x : GPhrase => decide (x.2.1 = l)) ps 0 <;> rfl
  · intro i x hx hi
    simp only [idx_get, hx, Option.bind_some, at_lt hi, up h1 hi, i_phraseIndex_1, i_same (h2 x (List.mem_of_getElem? hx))]
    cases decide (x.2.1 = l) <;> rfl
  · simp

/-- what is asked of the phrase at place i -/
def goodAt (b : GBook) (i : Nat) : Bool :=
  match b.1[i]? with
  | some x => isText x.1 && isSignals x.2.1 && (bif decide (0 < (i : Int)) then (match b.1[i - 1]? with | some y => Op.bytesLess y.1 x.1 | none => false) else true) && (firstAt (fun y : GPhrase => decide (y.2.1 = x.2.1)) (b.1.take i) 0).isNone
  | none => false
def isBook (b : GBook) : Bool := (List.range b.1.length).all (goodAt b) && inB (b.1.length : Int) 1 40

theorem prev {b : GBook} (h : Fine b) {i : Nat} (hi : i < b.1.length) (h0 : 0 < i) : idx b.1 (w64 ((i : Int) - 1)) = b.1[i - 1]? := by
  have := h.len
  unfold maxLen at this
  rw [w64_of (by omega) (by omega), show (i : Int) - 1 = ((i - 1 : Nat) : Int) by omega, idx_get]

theorem s_good {b : GBook} (h : Fine b) : s_bkGood b = some (isBook b) := by
  unfold s_bkGood isBook
  rw [all_loop_at (n := b.1.length) (goodAt b) false ?_ ?_]
  · cases (List.range b.1.length).all (goodAt b) with
    | true => simp only [cond_true, Option.bind_some, l1In_eq, Bool.true_and]
    | false => rfl
  · intro i hi
    have hx : b.1[i]? = some b.1[i] := by simp [hi]
    generalize hxx : b.1[i] = x at hx
    have hmem := List.mem_of_getElem? hx
    have hft := firstAt_take (fun y : GPhrase => decide (y.2.1 = x.2.1)) b.1 i 0 x hx (by simp)
    rw [Nat.zero_add] at hft
    have hof : (decide ((match firstAt (fun y : GPhrase => decide (y.2.1 = x.2.1)) b.1 0 with | some k => (k : Int) | none => -1) = (i : Int))) = (firstAt (fun y : GPhrase => decide (y.2.1 = x.2.1)) (b.1.take i) 0).isNone := by
      cases h1 : firstAt (fun y : GPhrase => decide (y.2.1 = x.2.1)) (b.1.take i) 0 with
      | none => rw [hft.2 h1]; simp
      | some k =>
        have : firstAt (fun y : GPhrase => decide (y.2.1 = x.2.1)) b.1 0 ≠ some i := fun e => by rw [hft.1 e] at h1; cases h1
        cases h2 : firstAt (fun y : GPhrase => decide (y.2.1 = x.2.1)) b.1 0 with
        | none => simp
        | some j => rw [h2] at this; simp; intro e; exact this (congrArg some (by omega))
    simp only [idx_get, hx, Option.bind_some, at_lt hi, up h.len hi, s_text (h.text x hmem), s_signals (h.sig x hmem), s_of h, hof, goodAt, cond_true]
    cases isText x.1 with
    | false => rfl
    | true =>
    cases isSignals x.2.1 with
    | false => rfl
    | true =>
    cases (firstAt (fun y : GPhrase => decide (y.2.1 = x.2.1)) (b.1.take i) 0).isNone <;> by_cases h0 : 0 < i
    all_goals first
      | (rw [show decide ((0 : Int) < (i : Int)) = false from decide_eq_false (by omega)]; rfl)
      | (rw [show decide ((0 : Int) < (i : Int)) = true from decide_eq_true (by omega), prev h hi h0]
         have hy : b.1[i - 1]? = some (b.1[i - 1]'(by omega)) := by simp [show i - 1 < b.1.length by omega]
         rw [hy]
         simp only [cond_true, Option.bind_some, Bool.not_true, cond_false]
         cases Op.bytesLess (b.1[i - 1]'(by omega)).1 x.1 <;> rfl)
  · simp

theorem i_good {b : GBook} (h : Fine b) : i_IsBook b = some (isBook b) := by
  unfold i_IsBook isBook
  rw [within_eq]
  simp only [Option.bind_some]
  cases hin : inB (b.1.length : Int) 1 40 with
  | false => simp
  | true =>
  simp only [Bool.not_true, cond_false, Bool.and_true]
  rw [all_loop_at (n := b.1.length) (goodAt b) false ?_ ?_]
  · cases (List.range b.1.length).all (goodAt b) <;> rfl
  · intro i hi
    have hx : b.1[i]? = some b.1[i] := by simp [hi]
    generalize hxx : b.1[i] = x at hx
    have hmem := List.mem_of_getElem? hx
    have hsub : sub b.1 0 (i : Int) = some (b.1.take i) := by
      unfold sub
      rw [if_pos ⟨by omega, by omega, by omega⟩]
      simp
    have hof : decide (0 ≤ (match firstAt (fun y : GPhrase => decide (y.2.1 = x.2.1)) (b.1.take i) 0 with | some k => (k : Int) | none => -1)) = !(firstAt (fun y : GPhrase => decide (y.2.1 = x.2.1)) (b.1.take i) 0).isNone := by
      cases firstAt (fun y : GPhrase => decide (y.2.1 = x.2.1)) (b.1.take i) 0 with
      | none => rfl
      | some k => simp
    have hlen : (b.1.take i).length ≤ maxLen := by have := h.len; rw [List.length_take]; omega
    simp only [idx_get, hx, Option.bind_some, at_lt hi, up h.len hi, i_phrase (h.text x hmem) (h.sig x hmem), hsub, i_of hlen (fun y hy => h.sig y (List.mem_of_mem_take hy)), hof, goodAt, cond_true]
    cases isText x.1 with
    | false => rfl
    | true =>
    cases isSignals x.2.1 with
    | false => rfl
    | true =>
    cases (firstAt (fun y : GPhrase => decide (y.2.1 = x.2.1)) (b.1.take i) 0).isNone <;> by_cases h0 : 0 < i
    all_goals first
      | (rw [show decide ((0 : Int) < (i : Int)) = false from decide_eq_false (by omega)]; rfl)
      | (rw [show decide ((0 : Int) < (i : Int)) = true from decide_eq_true (by omega), prev h hi h0]
         have hy : b.1[i - 1]? = some (b.1[i - 1]'(by omega)) := by simp [show i - 1 < b.1.length by omega]
         rw [hy]
         simp only [cond_true, Option.bind_some, Bool.and_self, Bool.not_true, cond_false]
         cases Op.bytesLess (b.1[i - 1]'(by omega)).1 x.1 <;> rfl)
  · simp

/-! sizes, copies -/

structure Small (b : GBook) : Prop where
  len : b.1.length ≤ 1048576
  sig : ∀ x ∈ b.1, x.2.1.length ≤ 1048576

theorem szIntS {a : List Int} {left : Int} (h : a.length ≤ maxLen) (h0 : 0 ≤ left) (h1 : left ≤ 1048576) : ∃ r, l_szIntS a left = some r ∧ (r < 0 ∨ (a.length ≤ 1048576 ∧ 0 ≤ r ∧ r ≤ 1048576)) := by
  unfold l_szIntS
  unfold maxLen at h
  rw [w64_of (by omega) (by omega)]
  by_cases h2 : left - a.length < 0
  · rw [decide_eq_true h2]; exact ⟨_, rfl, .inl (by decide)⟩
  · rw [decide_eq_false h2]; exact ⟨_, rfl, .inr ⟨by omega, by omega, by omega⟩⟩
theorem szPhrase {x : GPhrase} {left : Int} (ht : x.1.length ≤ maxLen) (h : x.2.1.length ≤ maxLen) (h0 : 0 ≤ left) (h1 : left ≤ 1048576) : ∃ r, l_szPhrase x left = some r ∧ (r < 0 ∨ (x.2.1.length ≤ 1048576 ∧ 0 ≤ r ∧ r ≤ 1048576)) := by
  unfold l_szPhrase
  unfold maxLen at ht
  rw [w64_of (by omega) (by omega)]
  by_cases h2 : left - x.1.length < 0
  · rw [decide_eq_true h2]; exact ⟨_, rfl, .inl (by decide)⟩
  · rw [decide_eq_false h2]
    obtain ⟨r, hr, h3⟩ := szIntS (left := left - x.1.length) h (by omega) (by omega)
    simp only [cond_false, hr, Option.bind_some]
    rcases h3 with h3 | h3
    · rw [decide_eq_true h3]; exact ⟨_, rfl, .inl (by decide)⟩
    · rw [show decide (r < 0) = false from decide_eq_false (by omega)]; exact ⟨_, rfl, .inr h3⟩
theorem sz_res : ∀ (l : List GPhrase) (s : Int) (i : Nat), (∀ x ∈ l, x.1.length ≤ maxLen ∧ x.2.1.length ≤ maxLen) → 0 ≤ s → s ≤ 1048576 →
    ∃ z, forRes (fun s _ x => (l_szPhrase x s).bind fun r4 => some (bif decide (r4 < 0) then .inr (.inr (-1)) else .inl r4)) (fun s => (.inl s : Int ⊕ Int)) s i l = some z ∧ (z = .inr (-1) ∨ ∃ s', z = .inl s' ∧ ∀ x ∈ l, x.2.1.length ≤ 1048576)
  | [], s, i, _, _, _ => ⟨_, rfl, .inr ⟨s, rfl, fun x h => by cases h⟩⟩
  | x :: l, s, i, h, h0, h1 => by
    obtain ⟨r, hr, h3⟩ := szPhrase (h x (by simp)).1 (h x (by simp)).2 h0 h1
    simp only [forRes, hr, Option.bind_some]
    rcases h3 with h3 | ⟨h3, h4, h5⟩
    · rw [decide_eq_true h3]; exact ⟨_, rfl, .inl rfl⟩
    · rw [show decide (r < 0) = false from decide_eq_false (by omega)]
      obtain ⟨z, hz, h6⟩ := sz_res l r (i + 1) (fun y hy => h y (List.mem_cons_of_mem _ hy)) h4 h5
      refine ⟨z, hz, h6.imp id fun ⟨s', e, h7⟩ => ⟨s', e, fun y hy => ?_⟩⟩
      rcases List.mem_cons.1 hy with rfl | hy
      · exact h3
      · exact h7 y hy
theorem szBook {b : GBook} (h : Fine b) : ∃ r, l_szBook b 1048576 = some r ∧ (r < 0 ∨ Small b) := by
  unfold l_szBook l_szPhraseS
  have hm := h.len
  unfold maxLen at hm
  rw [w64_of (x := 1048576 - (b.1.length : Int)) (by omega) (by omega)]
  by_cases h2 : (1048576 : Int) - b.1.length < 0
  · rw [decide_eq_true h2]; exact ⟨_, rfl, .inl (by decide)⟩
  · rw [decide_eq_false h2]
    simp only [cond_false]
    rw [for_loop (a := b.1) Prod.mk (fun s _ x => (l_szPhrase x s).bind fun r4 => some (bif decide (r4 < 0) then .inr (.inr (-1)) else .inl r4)) (fun s => (.inl s : Int ⊕ Int)) (1048576 - (b.1.length : Int)) ?_ ?_ ?_]
    · obtain ⟨z, hz, h3⟩ := sz_res b.1 (1048576 - (b.1.length : Int)) 0 (fun x hx => ⟨h.text x hx, h.sig x hx⟩) (by omega) (by omega)
      rw [hz]
      rcases h3 with rfl | ⟨s', rfl, h4⟩
      · exact ⟨_, rfl, .inl (by decide)⟩
      · simp only [Option.bind_some]
        cases decide (s' < 0) with
        | true => exact ⟨_, rfl, .inl (by decide)⟩
        | false => exact ⟨_, rfl, .inr ⟨by omega, h4⟩⟩
    · rfl
    · intro s i x hi hx
      simp only [idx_get, hx, Option.bind_some, at_lt hi, up h.len hi, cond_true]
      cases l_szPhrase x s with
      | none => rfl
      | some r => simp only [Option.bind_some]; cases decide (r < 0) <;> rfl
    · intro s; simp

theorem toIntS {l : List Int} (h : l.length ≤ 1048576) : l_toIntS l = some l := by
  unfold l_toIntS
  rw [copy_guard h, cond_true, copy_loop (fun x => x) h ?_ ?_]
  · simp
  · intro out i x hx hi
    simp only [idx_get, hx, Option.bind_some, at_lt hi, cond_true]
  · intro out; simp
theorem toPhrase {x : GPhrase} (h : x.2.1.length ≤ 1048576) : l_toPhrase x = some x := by
  unfold l_toPhrase
  rw [toIntS h]
  rfl
theorem toBook {b : GBook} (h : Small b) : l_toBook b = some b := by
  unfold l_toBook l_toPhraseS
  rw [copy_guard h.len, cond_true, copy_loop (fun x => x) h.len ?_ ?_]
  · simp
  · intro out i x hx hi
    simp only [idx_get, hx, Option.bind_some, at_lt hi, cond_true, toPhrase (h.sig x (List.mem_of_getElem? hx))]
  · intro out; simp
theorem eqPhrase {x : GPhrase} (h : x.2.1.length ≤ maxLen) : l_eqPhrase x x = some true := by
  unfold l_eqPhrase
  simp [eqIntS h]
theorem eqBook {b : GBook} (h : Fine b) : l_eqBook b b = some true := by
  unfold l_eqBook l_eqPhraseS
  simp only [decide_true, Bool.not_true, cond_false]
  rw [all_loop (l := b.1) (fun _ => true) false ?_ ?_]
  · have : (b.1.all fun _ => true) = true := by simp
    rw [this]
    rfl
  · intro i x hx hi
    simp only [idx_get, hx, Option.bind_some, at_lt hi, up h.len hi, eqPhrase (h.sig x (List.mem_of_getElem? hx))]
    rfl
  · simp

/-! what books cost -/

theorem cost_res (ws : List Int) : ∀ (l : List GPhrase) (s : Int) (i : Nat), i + l.length ≤ ws.length → ∃ v, forRes (fun (s : Int) i (x : GPhrase) => (ws[i]?).bind fun e => some (.inl (w64 (s + w64 (e * (x.2.1.length : Int)))))) (fun s => s) s i l = some v
  | [], s, _, _ => ⟨s, rfl⟩
  | x :: l, s, i, h => by
    simp only [List.length_cons] at h
    have : ws[i]? = some (ws[i]'(by omega)) := by simp [show i < ws.length by omega]
    simp only [forRes, this, Option.bind_some]
    exact cost_res ws l _ (i + 1) (by omega)

/-- FnExactBookCost -/
theorem plain_BookCost (b : GBook) (ws : List Int) (h : Fine b) (hw : ws.length ≤ maxLen) : l_FnExactBookCost b ws = some true := by
  unfold l_FnExactBookCost
  cases h1 : decide ((1048576 : Int) < (ws.length : Int)) with
  | true => rfl
  | false =>
  have h1 := of_decide_eq_false h1
  have hws : ws.length ≤ 1048576 := by omega
  obtain ⟨r, hr, h2⟩ := szBook h
  rw [hr]
  simp only [cond_false, Option.bind_some]
  rcases h2 with h2 | h2
  · rw [decide_eq_true h2]; rfl
  cases decide (r < 0) with
  | true => rfl
  | false =>
  simp only [toBook h2, toIntS hws, eqBook h, eqIntS hw, Option.bind_some, cond_false]
  have key : ∃ v, s_BookCost b ws = some v ∧ i_BookCost b ws = some v := by
    unfold s_BookCost i_BookCost s_msAsked i_areBookWeights
    simp only [s_good h, i_good h, s_all hw, i_all hw, Option.bind_some]
    cases isBook b with
    | false => exact ⟨_, rfl, rfl⟩
    | true =>
    cases hl : decide ((ws.length : Int) = (b.1.length : Int)) with
    | false => exact ⟨_, rfl, rfl⟩
    | true =>
    cases ws.all fun x => inB x 0 10000 with
    | false => exact ⟨_, rfl, rfl⟩
    | true =>
    have hl := of_decide_eq_true hl
    obtain ⟨v, hv⟩ := cost_res ws b.1 0 0 (by omega)
    simp only [cond_true, Option.bind_some, Bool.not_true, cond_false]
    rw [for_loop (a := b.1) Prod.mk (fun (s : Int) i (x : GPhrase) => (ws[i]?).bind fun e => some (.inl (w64 (s + w64 (e * (x.2.1.length : Int)))))) (fun s => s) 0 ?_ ?_ ?_]
    · rw [hv]; exact ⟨_, rfl, rfl⟩
    · rfl
    · intro s i x hi hx
      simp only [idx_get, hx, Option.bind_some, at_lt hi, up h.len hi, cond_true]
      cases ws[i]? <;> rfl
    · intro s; simp
  obtain ⟨v, h3, h4⟩ := key
  rw [h3, h4]
  simp

/-! means -/

def gcdF : Int × Int → Option ((Int × Int) ⊕ Int) := fun st3 =>
  bif (decide (0 < st3.2)) then
    bif (!decide (st3.2 = 0)) then
      some (.inl (st3.2, (Int.tmod st3.1 st3.2)))
    else
      none
  else
    some (.inr st3.1)
theorem gcd_some : ∀ (n : Nat) (x y : Int), 0 ≤ x → 0 ≤ y → y ≤ n → 0 < x + y → ∃ g, loopE gcdF (x, y) = some g ∧ 0 < g
  | 0, x, y, hx, hy, hn, hp => by
    have : y = 0 := by omega
    subst this
    exact ⟨x, loopE_done rfl, by omega⟩
  | n + 1, x, y, hx, hy, hn, hp => by
    by_cases h : 0 < y
    · have hm := Int.emod_nonneg x (show y ≠ 0 by omega)
      have hlt := Int.emod_lt_of_pos x h
      obtain ⟨g, hg, h1⟩ := gcd_some n y (x % y) hy hm (by omega) (by omega)
      refine ⟨g, ?_, h1⟩
      rw [← hg]
      refine loopE_step ?_
      unfold gcdF
      simp only [decide_eq_true h, cond_true]
      rw [show decide (y = 0) = false from decide_eq_false (by omega), Int.tmod_eq_emod_of_nonneg hx]
      rfl
    · have : y = 0 := by omega
      subst this
      exact ⟨x, loopE_done rfl, by omega⟩

theorem sum_res : ∀ (l : List GPhrase) (s : Int) (i : Nat), (∀ x ∈ l, x.2.1.length ≤ 3) → 0 ≤ s → s + 3 * l.length ≤ 1000000 → ∃ v, forRes (fun (s : Int) _ (x : GPhrase) => some (.inl (w64 (s + (x.2.1.length : Int))))) (fun s => s) s i l = some v ∧ 0 ≤ v ∧ v ≤ 1000000
  | [], s, _, _, h, h1 => ⟨s, rfl, h, by simpa using h1⟩
  | x :: l, s, i, h, h0, h1 => by
    have hx := h x (by simp)
    simp only [List.length_cons] at h1
    simp only [forRes, Option.bind_some]
    rw [w64_of (by omega) (by omega)]
    exact sum_res l _ (i + 1) (fun y hy => h y (List.mem_cons_of_mem _ hy)) (by omega) (by omega)

/-- FnExactMeanSignals -/
theorem plain_MeanSignals (b : GBook) (h : Fine b) : l_FnExactMeanSignals b = some true := by
  unfold l_FnExactMeanSignals
  obtain ⟨r, hr, h2⟩ := szBook h
  rw [hr]
  simp only [Option.bind_some]
  rcases h2 with h2 | h2
  · rw [decide_eq_true h2]; rfl
  cases decide (r < 0) with
  | true => rfl
  | false =>
  simp only [toBook h2, eqBook h, Option.bind_some, cond_false]
  have key : ∃ v, s_MeanSignals b = some v ∧ i_MeanSignals b = some v := by
    unfold s_MeanSignals i_MeanSignals
    simp only [s_good h, i_good h, Option.bind_some]
    cases hb : isBook b with
    | false => exact ⟨_, rfl, rfl⟩
    | true =>
    simp only [isBook, Bool.and_eq_true, List.all_eq_true, inB, decide_eq_true_eq] at hb
    have hsig : ∀ x ∈ b.1, x.2.1.length ≤ 3 := fun x hx => by
      obtain ⟨i, hi, rfl⟩ := List.getElem_of_mem hx
      have := hb.1 i (List.mem_range.2 hi)
      have e : b.1[i]? = some b.1[i] := by simp [hi]
      simp only [goodAt, e, Bool.and_eq_true, isSignals, inB, decide_eq_true_eq] at this
      omega
    obtain ⟨v, hv, hv0, hv1⟩ := sum_res b.1 0 0 hsig (Int.le_refl _) (by omega)
    obtain ⟨g, hg, hg0⟩ := gcd_some b.1.length v (b.1.length : Int) hv0 (by omega) (by omega) (by omega)
    have habs : s_l1Abs v = some v := by
      unfold s_l1Abs s_l1Most
      rw [w64_of (by omega) (by omega)]
      by_cases h0 : 0 - v < v
      · rw [decide_eq_true h0]; rfl
      · rw [decide_eq_false h0]; simp; omega
    simp only [Bool.not_true, cond_false]
    rw [for_loop (a := b.1) Prod.mk (fun (s : Int) _ (x : GPhrase) => some (.inl (w64 (s + (x.2.1.length : Int))))) (fun s => s) 0 ?_ ?_ ?_]
    · rw [hv]
      have hgz : decide (g = 0) = false := decide_eq_false (by omega)
      refine ⟨(w64 (Int.tdiv v g), w64 (Int.tdiv (b.1.length : Int) g), true), ?_, ?_⟩
      · simp only [Option.bind_some]
        unfold s_siPart
        rw [habs]
        simp only [Option.bind_some]
        show (((loopE gcdF (v, (b.1.length : Int))).bind _).bind _) = _
        rw [hg]
        simp only [Option.bind_some, hgz, Bool.not_false, cond_true]
      · simp only [Option.bind_some]
        unfold i_gcdOf
        show (((loopE gcdF (v, (b.1.length : Int))).bind _).bind _) = _
        rw [hg]
        simp only [Option.bind_some, hgz, Bool.not_false, cond_true]
    · rfl
    · intro s i x hi hx
      simp only [idx_get, hx, Option.bind_some, at_lt hi, up h.len hi, cond_true]
    · intro s; simp
  obtain ⟨v, h3, h4⟩ := key
  rw [h3, h4]
  simp

theorem fine_of {b : GBook} (h : good TGBook b) : Fine b := ⟨h.1.1, fun x hx => (h.1.2 x hx).1, fun x hx => (h.1.2 x hx).2.1.1⟩
end Go.Proofs.Ytbbcmknpbpfkaaa.Sh
