/-
  The least number of signals: the two tables compared.
-/
import Derived.Test.YtbbcmknpbpfkaaaWPlain1
namespace Go.Proofs.Ytbbcmknpbpfkaaa.Sh
open Go Go.Ab Go.Proofs

/-- does the phrase begin the text at place i? -/
def hit (s : Bytes) (i : Nat) (x : GPhrase) : Bool := decide ((x.1.length : Int) ≤ ((s.drop i).length : Int)) && decide ((s.drop i).take x.1.length = x.1)

theorem sub_drop {s : Bytes} {i : Nat} (h : i ≤ s.length) : sub s (i : Int) (s.length : Int) = some (s.drop i) := by
  unfold sub
  rw [if_pos ⟨by omega, by omega, by omega⟩]
  simp
theorem sub_take {s : Bytes} {m : Nat} (h : m ≤ s.length) : sub s 0 (m : Int) = some (s.take m) := by
  unfold sub
  rw [if_pos ⟨by omega, by omega, by omega⟩]
  simp
theorem s_begins (s : Bytes) (i : Nat) (x : GPhrase) : s_spBegins (s.drop i) x.1 = some (hit s i x) := by
  unfold s_spBegins hit
  by_cases h : (x.1.length : Int) ≤ ((s.drop i).length : Int)
  · rw [decide_eq_true h, sub_take (by omega)]
    rfl
  · rw [decide_eq_false h]
    rfl
theorem i_begins (s : Bytes) (i : Nat) (x : GPhrase) : strings_HasPrefix (s.drop i) x.1 = some (hit s i x) := by
  unfold strings_HasPrefix internal_stringslite_HasPrefix hit
  by_cases h : (x.1.length : Int) ≤ ((s.drop i).length : Int)
  · rw [decide_eq_true h, sub_take (by omega)]
    rfl
  · rw [decide_eq_false h]
    rfl

/-- one phrase, in the first table -/
def sIn (s : Bytes) (i : Nat) (A : List Int) (_ : Nat) (x : GPhrase) : Option (List Int ⊕ List Int) :=
  (bif (!hit s i x) then
      some true
    else
      bif decide (0 ≤ (w64 ((i : Int) + (x.1.length : Int)))) && decide ((w64 ((i : Int) + (x.1.length : Int))) < (A.length : Int)) then
        (A[(Int.toNat (w64 ((i : Int) + (x.1.length : Int))))]?).bind fun e8 =>
        some (decide (e8 < 0))
      else
        none).bind fun c9 =>
  bif c9 then
    some (.inl A)
  else
    bif decide (0 ≤ (w64 ((i : Int) + (x.1.length : Int)))) && decide ((w64 ((i : Int) + (x.1.length : Int))) < (A.length : Int)) then
      (A[(Int.toNat (w64 ((i : Int) + (x.1.length : Int))))]?).bind fun e10 =>
      bif decide (0 ≤ (i : Int)) && decide ((i : Int) < (A.length : Int)) then
        (A[(Int.toNat (i : Int))]?).bind fun e11 =>
        (bif (decide (e11 < 0)) then
            some true
          else
            bif decide (0 ≤ (i : Int)) && decide ((i : Int) < (A.length : Int)) then
              (A[(Int.toNat (i : Int))]?).bind fun e12 =>
              some (decide ((w64 ((x.2.1.length : Int) + e10)) < e12))
            else
              none).bind fun c13 =>
        bif c13 then
          bif decide (0 ≤ (i : Int)) && decide ((i : Int) < (A.length : Int)) then
            some (.inl (A.set (Int.toNat (i : Int)) (w64 ((x.2.1.length : Int) + e10))))
          else
            none
        else
          some (.inl A)
      else
        none
    else
      none
/-- one phrase, in the second pair of tables -/
def iIn (s : Bytes) (i : Nat) (p : List Int × List Int) (j : Nat) (x : GPhrase) : Option ((List Int × List Int) ⊕ (List Int × List Int)) :=
  bif (!hit s i x) then
    some (.inl p)
  else
    bif decide (0 ≤ (w64 ((i : Int) + (x.1.length : Int)))) && decide ((w64 ((i : Int) + (x.1.length : Int))) < (p.1.length : Int)) then
      (p.1[(Int.toNat (w64 ((i : Int) + (x.1.length : Int))))]?).bind fun e8 =>
      bif decide (0 ≤ (i : Int)) && decide ((i : Int) < (p.1.length : Int)) then
        (p.1[(Int.toNat (i : Int))]?).bind fun e9 =>
        bif (decide ((w64 (e8 + (x.2.1.length : Int))) < e9)) then
          bif decide (0 ≤ (i : Int)) && decide ((i : Int) < (p.1.length : Int)) then
            bif decide (0 ≤ (i : Int)) && decide ((i : Int) < (p.2.length : Int)) then
              some (.inl ((p.1.set (Int.toNat (i : Int)) (w64 (e8 + (x.2.1.length : Int)))), (p.2.set (Int.toNat (i : Int)) (j : Int))))
            else
              none
          else
            none
        else
          some (.inl p)
      else
        none
    else
      none

def sTab (s : Bytes) (ps : List GPhrase) : Nat → List Int → Option (List Int)
  | 0, A => some A
  | m + 1, A => if m < A.length then (forRes (sIn s m) (fun A => A) (A.set m (-1)) 0 ps).bind (sTab s ps m) else none
def iTab (s : Bytes) (ps : List GPhrase) : Nat → List Int × List Int → Option (List Int × List Int)
  | 0, p => some p
  | m + 1, p => if m < p.1.length then (forRes (iIn s m) (fun p => p) (p.1.set m 1073741824, p.2) 0 ps).bind (iTab s ps m) else none

theorem down_loop {σ : Type} {N : Nat} {f : σ × Int → Option ((σ × Int) ⊕ σ)} {tab : Nat → σ → Option σ} {len : σ → Nat} {stp : Nat → σ → Option σ} (h0 : ∀ A, tab 0 A = some A) (h1 : ∀ m A, tab (m + 1) A = if m < len A then (stp m A).bind (tab m) else none)
    (hf : ∀ (i : Nat) A, i < N → f (A, (i : Int)) = if i < len A then (stp i A).bind fun A' => some (.inl (A', (i : Int) - 1)) else none) (hend : ∀ A, f (A, -1) = some (.inr A)) :
    ∀ (m : Nat) (A : σ), m ≤ N → loopE f (A, (m : Int) - 1) = tab m A
  | 0, A, _ => by rw [h0]; exact loopE_done (hend A)
  | m + 1, A, hm => by
    have h := hf m A (by omega)
    rw [show ((m + 1 : Nat) : Int) - 1 = (m : Int) by omega, h1]
    by_cases hl : m < len A
    · rw [if_pos hl] at h ⊢
      cases hs : stp m A with
      | none => rw [hs] at h; exact loopE_none h
      | some A' =>
        rw [hs] at h
        rw [loopE_step h]
        exact down_loop h0 h1 hf hend m A' (by omega)
    · rw [if_neg hl] at h ⊢
      exact loopE_none h

theorem s_table {b : GBook} (h : Fine b) {s : Bytes} (hs : s.length ≤ 1000) : s_spTable b s = sTab s b.1 s.length (List.replicate (s.length + 1) 0) := by
  unfold s_spTable
  have hlim : (lim : Int) = 4294967296 := rfl
  rw [w64_of (x := (s.length : Int) + 1) (by omega) (by omega)]
  rw [show (decide (0 ≤ (s.length : Int) + 1) && decide ((s.length : Int) + 1 ≤ (s.length : Int) + 1) && decide ((s.length : Int) + 1 ≤ lim)) = true by simp; omega, cond_true, w64_of (x := (s.length : Int) - 1) (by omega) (by omega)]
  rw [down_loop (N := s.length) (tab := sTab s b.1) (len := List.length) (stp := fun m A => forRes (sIn s m) (fun A => A) (A.set m (-1)) 0 b.1) (fun _ => rfl) (fun _ _ => rfl) ?_ ?_ s.length _ (Nat.le_refl _)]
  · rw [show Int.toNat ((s.length : Int) + 1) = s.length + 1 by omega]
    cases sTab s b.1 s.length (List.replicate (s.length + 1) 0) <;> rfl
  · intro i A hi
    by_cases hlt : i < A.length
    · rw [if_pos hlt]
      simp only [show decide ((0 : Int) ≤ (i : Int)) = true from decide_eq_true (by omega), show decide ((i : Int) < (A.length : Int)) = true from decide_eq_true (by omega), cond_true, Bool.and_self]
      rw [for_loop (a := b.1) Prod.mk (sIn s i) (fun A => A) (A.set i (-1)) ?_ ?_ ?_]
      · rw [w64_of (x := (i : Int) - 1) (by omega) (by omega)]
      · rw [Int.toNat_natCast]
      · intro A' j x hj hx
        simp only [idx_get, hx, Option.bind_some, at_lt hj, up h.len hj, cond_true, sub_drop (Nat.le_of_lt hi), s_begins, sIn, show decide ((0 : Int) ≤ (i : Int)) = true from decide_eq_true (by omega), Bool.true_and]
        cases hit s i x with
        | false => rfl
        | true =>
          simp only [Bool.not_true, cond_false]
          generalize (decide (0 ≤ (w64 ((i : Int) + (x.1.length : Int)))) && decide ((w64 ((i : Int) + (x.1.length : Int))) < (A'.length : Int))) = g1
          cases g1 with
          | false => rfl
          | true =>
            simp only [cond_true]
            cases A'[(Int.toNat (w64 ((i : Int) + (x.1.length : Int))))]? with
            | none => rfl
            | some e8 =>
              simp only [Option.bind_some]
              cases decide (e8 < 0) with
              | true => rfl
              | false =>
                simp only [cond_false]
                generalize (decide ((i : Int) < (A'.length : Int))) = g2
                cases g2 with
                | false => rfl
                | true =>
                  simp only [cond_true]
                  cases A'[(Int.toNat (i : Int))]? with
                  | none => rfl
                  | some e11 =>
                    simp only [Option.bind_some]
                    cases decide (e11 < 0) <;> cases decide ((w64 ((x.2.1.length : Int) + e8)) < e11) <;> rfl
      · intro A'; simp
    · rw [if_neg hlt]
      simp only [show decide ((0 : Int) ≤ (i : Int)) = true from decide_eq_true (by omega), show decide ((i : Int) < (A.length : Int)) = false from decide_eq_false (by omega)]
      rfl
  · intro A; rfl

/-! the two tables compared -/

def reach (v : Int) : Int := if v < 0 then 1073741824 else v

/-- what holds of the first table from place i on -/
structure TabOk (s : Bytes) (i : Nat) (A : List Int) : Prop where
  len : A.length = s.length + 1
  val : ∀ k, i ≤ k → k ≤ s.length → ∃ v, A[k]? = some v ∧ -1 ≤ v ∧ v ≤ 3 * ((s.length : Int) - k)
/-- what holds of the choices from place i on -/
def ChOk (s : Bytes) (ps : List GPhrase) (i : Nat) (A C : List Int) : Prop :=
  C.length = s.length + 1 ∧ ∀ k v, i ≤ k → k < s.length → A[k]? = some v → 0 ≤ v → ∃ (j : Nat) (x : GPhrase) (u : Int), C[k]? = some (j : Int) ∧ ps[j]? = some x ∧ hit s k x = true ∧ A[k + x.1.length]? = some u ∧ 0 ≤ u ∧ v = (x.2.1.length : Int) + u

theorem hit_len {s : Bytes} {i : Nat} {x : GPhrase} (h : hit s i x = true) (hi : i ≤ s.length) : i + x.1.length ≤ s.length := by
  unfold hit at h
  simp only [Bool.and_eq_true, decide_eq_true_eq, List.length_drop] at h
  omega

/-- what the two looks through the phrases end in -/
def InnerEnd (s : Bytes) (ps : List GPhrase) (i : Nat) (A : List Int) (j : Nat) (v : Int) (C : List Int) (r : List GPhrase) : Prop :=
  ∃ v' C', forRes (sIn s i) (fun A => A) (A.set i v) j r = some (A.set i v') ∧ forRes (iIn s i) (fun p => p) ((A.map reach).set i (reach v), C) j r = some ((A.map reach).set i (reach v'), C') ∧ -1 ≤ v' ∧ v' ≤ 3 * ((s.length : Int) - i) ∧ C'.length = s.length + 1 ∧ (∀ k, k ≠ i → C'[k]? = C[k]?) ∧
        (0 ≤ v' → ∃ (j : Nat) (x : GPhrase) (u : Int), C'[i]? = some (j : Int) ∧ ps[j]? = some x ∧ hit s i x = true ∧ A[i + x.1.length]? = some u ∧ 0 ≤ u ∧ v' = (x.2.1.length : Int) + u)
/-- one place: both tables look through the phrases -/
theorem inner_same {s : Bytes} {ps : List GPhrase} (hs : s.length ≤ 1000) {i : Nat} (hi : i < s.length) (hp : ∀ x ∈ ps, 1 ≤ x.1.length ∧ x.2.1.length ≤ 3) {A : List Int} (hA : TabOk s (i + 1) A) :
    ∀ (r : List GPhrase) (j : Nat) (v : Int) (C : List Int), (∀ k x, r[k]? = some x → ps[j + k]? = some x) → -1 ≤ v → v ≤ 3 * ((s.length : Int) - i) → C.length = s.length + 1 →
      (0 ≤ v → ∃ (j : Nat) (x : GPhrase) (u : Int), C[i]? = some (j : Int) ∧ ps[j]? = some x ∧ hit s i x = true ∧ A[i + x.1.length]? = some u ∧ 0 ≤ u ∧ v = (x.2.1.length : Int) + u) →
      InnerEnd s ps i A j v C r
  | [], j, v, C, _, h1, h2, h3, h4 => ⟨v, C, rfl, rfl, h1, h2, h3, fun _ _ => rfl, h4⟩
  | x :: r, j, v, C, hr, h1, h2, h3, h4 => by
    have hx : ps[j]? = some x := hr 0 x rfl
    have hr' : ∀ k y, r[k]? = some y → ps[j + 1 + k]? = some y := fun k y hk => by
      rw [show j + 1 + k = j + (k + 1) by omega]
      exact hr (k + 1) y (by simpa using hk)
    obtain ⟨p1, p2⟩ := hp x (List.mem_of_getElem? hx)
    have hAl := hA.len
    -- either both go on as they are, or both take the new value
    have go : ∀ (v1 : Int) (C1 : List Int), sIn s i (A.set i v) j x = some (.inl (A.set i v1)) → iIn s i ((A.map reach).set i (reach v), C) j x = some (.inl ((A.map reach).set i (reach v1), C1)) → -1 ≤ v1 → v1 ≤ 3 * ((s.length : Int) - i) → C1.length = s.length + 1 → (∀ k, k ≠ i → C1[k]? = C[k]?) →
        (0 ≤ v1 → ∃ (j : Nat) (x : GPhrase) (u : Int), C1[i]? = some (j : Int) ∧ ps[j]? = some x ∧ hit s i x = true ∧ A[i + x.1.length]? = some u ∧ 0 ≤ u ∧ v1 = (x.2.1.length : Int) + u) → InnerEnd s ps i A j v C (x :: r) := fun v1 C1 e1 e2 q1 q2 q3 q4 q5 => by
      obtain ⟨v', C', k1, k2, k3, k4, k5, k6, k7⟩ := inner_same hs hi hp hA r (j + 1) v1 C1 hr' q1 q2 q3 q5
      exact ⟨v', C', by simp only [forRes, e1, Option.bind_some]; exact k1, by simp only [forRes, e2, Option.bind_some]; exact k2, k3, k4, k5, fun k hk => (k6 k hk).trans (q4 k hk), k7⟩
    cases hh : hit s i x with
    | false =>
      exact go v C (by unfold sIn; rw [hh]; rfl) (by unfold iIn; rw [hh]; rfl) h1 h2 h3 (fun _ _ => rfl) h4
    | true =>
      have ht := hit_len hh (Nat.le_of_lt hi)
      obtain ⟨u, hu, u1, u2⟩ := hA.val (i + x.1.length) (by omega) ht
      have ew : w64 ((i : Int) + (x.1.length : Int)) = ((i + x.1.length : Nat) : Int) := by rw [w64_of (by omega) (by omega)]; omega
      have l1 : (A.set i v).length = s.length + 1 := by simp [hAl]
      have l2 : ((A.map reach).set i (reach v)).length = s.length + 1 := by simp [hAl]
      have g1 : (decide (0 ≤ ((i + x.1.length : Nat) : Int)) && decide (((i + x.1.length : Nat) : Int) < ((s.length + 1 : Nat) : Int))) = true := by simp; omega
      have g2 : (decide (0 ≤ (i : Int)) && decide ((i : Int) < ((s.length + 1 : Nat) : Int))) = true := by simp; omega
      have a1 : (A.set i v)[i + x.1.length]? = some u := by rw [List.getElem?_set_ne (by omega)]; exact hu
      have a2 : (A.set i v)[i]? = some v := by rw [List.getElem?_set_self (by omega)]
      have b1 : ((A.map reach).set i (reach v))[i + x.1.length]? = some (reach u) := by rw [List.getElem?_set_ne (by omega), List.getElem?_map, hu]; rfl
      have b2 : ((A.map reach).set i (reach v))[i]? = some (reach v) := by rw [List.getElem?_set_self (by simp; omega)]
      have ub : (u : Int) ≤ 3000 := by omega
      have vb : (v : Int) ≤ 3000 := by omega
      by_cases hu0 : u < 0
      · refine go v C ?_ ?_ h1 h2 h3 (fun _ _ => rfl) h4
        · unfold sIn
          rw [hh, ew, l1, g1, Int.toNat_natCast, a1]
          simp only [Bool.not_true, cond_false, cond_true, Option.bind_some, decide_eq_true hu0]
        · unfold iIn
          rw [hh, ew, l2, g1, g2, Int.toNat_natCast, Int.toNat_natCast, b1, b2]
          simp only [Bool.not_true, cond_false, cond_true, Option.bind_some]
          have : decide (w64 (reach u + (x.2.1.length : Int)) < reach v) = false := by
            refine decide_eq_false ?_
            unfold reach
            rw [if_pos hu0, w64_of (by omega) (by omega)]
            split <;> omega
          rw [this]
          rfl
      · have hru : reach u = u := if_neg hu0
        have cand : w64 ((x.2.1.length : Int) + u) = (x.2.1.length : Int) + u := w64_of (by omega) (by omega)
        have cand2 : w64 (u + (x.2.1.length : Int)) = (x.2.1.length : Int) + u := by rw [w64_of (by omega) (by omega)]; omega
        by_cases hbet : v < 0 ∨ (x.2.1.length : Int) + u < v
        · have hrc : reach ((x.2.1.length : Int) + u) = (x.2.1.length : Int) + u := if_neg (by omega)
          refine go ((x.2.1.length : Int) + u) (C.set i (j : Int)) ?_ ?_ (by omega) (by omega) (by simpa using h3) (fun k hk => by rw [List.getElem?_set_ne (fun e => hk e.symm)]) (fun _ => ⟨j, x, u, by rw [List.getElem?_set_self (by omega)], hx, hh, hu, by omega, rfl⟩)
          · unfold sIn
            rw [hh, ew, l1, g1, g2, Int.toNat_natCast, Int.toNat_natCast, a1, a2]
            simp only [Bool.not_true, cond_false, cond_true, Option.bind_some, decide_eq_false hu0, cand]
            have : (bif decide (v < 0) then some true else some (decide ((x.2.1.length : Int) + u < v))) = some true := by
              rcases hbet with hb | hb
              · rw [decide_eq_true hb]; rfl
              · cases decide (v < 0)
                · rw [decide_eq_true hb]; rfl
                · rfl
            rw [this]
            simp only [Option.bind_some, cond_true, List.set_set]
          · unfold iIn
            rw [hh, ew, l2, g1, g2, Int.toNat_natCast, Int.toNat_natCast, b1, b2, hru]
            have hc3 : (decide (0 ≤ (i : Int)) && decide ((i : Int) < (C.length : Int))) = true := by rw [h3]; exact g2
            simp only [Bool.not_true, cond_false, cond_true, Option.bind_some, hc3, cand2]
            have : decide ((x.2.1.length : Int) + u < reach v) = true := by
              refine decide_eq_true ?_
              unfold reach
              split <;> omega
            rw [this, hrc]
            simp only [cond_true, List.set_set]
        · refine go v C ?_ ?_ h1 h2 h3 (fun _ _ => rfl) h4
          · unfold sIn
            rw [hh, ew, l1, g1, g2, Int.toNat_natCast, Int.toNat_natCast, a1, a2]
            simp only [Bool.not_true, cond_false, cond_true, Option.bind_some, decide_eq_false hu0, cand]
            rw [show decide (v < 0) = false from decide_eq_false (by omega), show decide ((x.2.1.length : Int) + u < v) = false from decide_eq_false (by omega)]
            rfl
          · unfold iIn
            rw [hh, ew, l2, g1, g2, Int.toNat_natCast, Int.toNat_natCast, b1, b2, hru]
            simp only [Bool.not_true, cond_false, cond_true, Option.bind_some, cand2]
            have : decide ((x.2.1.length : Int) + u < reach v) = false := by
              refine decide_eq_false ?_
              unfold reach
              split <;> omega
            rw [this]
            rfl
end Go.Proofs.Ytbbcmknpbpfkaaa.Sh
