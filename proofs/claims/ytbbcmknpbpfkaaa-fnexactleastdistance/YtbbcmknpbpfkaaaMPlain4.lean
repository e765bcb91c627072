/-
  The least distance of two phrases: ClosestPhrases, LeastDistance.
-/
import Derived.Test.YtbbcmknpbpfkaaaMPlain1
namespace Go.Proofs.Ytbbcmknpbpfkaaa.Sh
open Go Go.Ab Go.Proofs

def bit (n : Int) (i : Nat) : Bool := decide ((bitsI .and .i64 (shiftI .shr .i64 n (i : Int)) 1) = 1)
def cnt (n : Int) : Nat → Nat
  | 0 => 0
  | k + 1 => (bif bit n (6 - (k + 1)) then 1 else 0) + cnt n k
theorem cnt_le (n : Int) : ∀ k, cnt n k ≤ k
  | 0 => Nat.le_refl _
  | k + 1 => by
    have := cnt_le n k
    unfold cnt
    cases bit n (6 - (k + 1)) <;> simp <;> omega

theorem s_closed (n : Int) {i : Nat} (h : i < 6) : s_sgClosed n (i : Int) = some (bit n i) := by
  have e : IntKind.u64.wrap (i : Int) = (i : Int) := by
    have : ∀ j : Fin 6, IntKind.u64.wrap ((j.val : Nat) : Int) = ((j.val : Nat) : Int) := by decide +kernel
    exact this ⟨i, h⟩
  unfold s_sgClosed
  rw [e, show decide (0 ≤ (i : Int)) = true from decide_eq_true (by omega)]
  rfl

theorem s_shut (n : Int) : ∃ l, s_sgShutters n = some l ∧ l.length = cnt n 6 := by
  unfold s_sgShutters
  have key := one_loop (n := 6) (f := (fun (st2 : (List Int) × Int) => (
      bif (decide (st2.2 < 6)) then
        (s_sgClosed n st2.2).bind fun r3 =>
        bif r3 then
          bif decide (List.length st2.1 + List.length [st2.2] ≤ lim) then
            some (.inl ((st2.1 ++ [st2.2]), (w64 (st2.2 + 1))))
          else
            none
        else
          some (.inl (st2.1, (w64 (st2.2 + 1))))
      else
        some (.inr st2.1) : Option (((List Int) × Int) ⊕ ((List Int)))))) (fun i a => a.2 = (i : Int) ∧ i ≤ 6 ∧ a.1.length + cnt n (6 - i) = cnt n 6 ∧ a.1.length ≤ i) (fun y => y.length = cnt n 6)
    (fun i a hi ⟨h1, h2, h3, h4⟩ => by
      obtain ⟨l, j⟩ := a
      simp only at h1 h3 h4
      subst h1
      left
      have hlim : lim = 4294967296 := rfl
      have hc : cnt n (6 - i) = (bif bit n i then 1 else 0) + cnt n (6 - (i + 1)) := by
        rw [show 6 - i = (6 - (i + 1)) + 1 by omega]
        conv => lhs; unfold cnt
        rw [show 6 - (6 - (i + 1) + 1) = i by omega]
      simp only [s_closed n hi, show decide ((i : Int) < 6) = true from decide_eq_true (by omega), cond_true, Option.bind_some, w64_of (x := (i : Int) + 1) (by omega) (by omega)]
      cases hb : bit n i with
      | true =>
        rw [hb] at hc
        rw [show decide (l.length + [(i : Int)].length ≤ lim) = true from decide_eq_true (by simp only [List.length_cons, List.length_nil]; omega)]
        exact ⟨_, rfl, rfl, by omega, by simp only [List.length_append, List.length_cons, List.length_nil]; simp only [cond_true] at hc; omega, by simp; omega⟩
      | false =>
        rw [hb] at hc
        exact ⟨_, rfl, rfl, by omega, by show l.length + cnt n (6 - (i + 1)) = cnt n 6; simp only [cond_false] at hc; omega, by show l.length ≤ i + 1; omega⟩)
    (fun a ⟨h1, h2, h3, h4⟩ => by
      obtain ⟨l, j⟩ := a
      simp only at h1 h3 h4
      subst h1
      exact ⟨l, rfl, by simpa [cnt] using h3⟩) 6 0 ([], 0) rfl ⟨rfl, by omega, by simp, by simp⟩
  obtain ⟨l, h1, h2⟩ := key
  exact ⟨l, by rw [h1]; rfl, h2⟩

theorem xor_small {a b : Int} (ha : 0 ≤ a ∧ a < 64) (hb : 0 ≤ b ∧ b < 64) : ∃ n : Nat, n < 64 ∧ bitsI .xor .i64 a b = (n : Int) := by
  have key : ∀ m k : Fin 64, 0 ≤ bitsI .xor .i64 (m.val : Int) (k.val : Int) ∧ bitsI .xor .i64 (m.val : Int) (k.val : Int) < 64 := by decide +kernel
  have := key ⟨a.toNat, by omega⟩ ⟨b.toNat, by omega⟩
  simp only [Int.toNat_of_nonneg ha.1, Int.toNat_of_nonneg hb.1] at this
  exact ⟨(bitsI .xor .i64 a b).toNat, by omega, by omega⟩

theorem ones (n : Nat) (h : n < 64) : math_bits_OnesCount8 (IntKind.u8.wrap (n : Int)) = some ((cnt n 6 : Nat) : Int) := by
  have key : ∀ m : Fin 64, math_bits_OnesCount8 (IntKind.u8.wrap ((m.val : Nat) : Int)) = some ((cnt (m.val : Nat) 6 : Nat) : Int) := by decide +kernel
  exact key ⟨n, h⟩

theorem dist_one {a b : Int} (ha : 0 ≤ a ∧ a < 64) (hb : 0 ≤ b ∧ b < 64) : ∃ d : Nat, d ≤ 6 ∧ s_sgDistance a b = some (d : Int) ∧ i_distanceOf a b = some (d : Int) := by
  obtain ⟨n, hn, e⟩ := xor_small ha hb
  obtain ⟨l, h1, h2⟩ := s_shut (n : Int)
  refine ⟨cnt n 6, cnt_le _ _, ?_, ?_⟩
  · unfold s_sgDistance
    rw [e, h1, ← h2]
    rfl
  · unfold i_distanceOf
    rw [e, ones n hn]
    rfl

/-- a phrase as a book has it -/
structure Ph (x : GPhrase) : Prop where
  len : x.2.1.length ≤ 3
  sig : ∀ n ∈ x.2.1, 0 ≤ n ∧ n < 64

theorem dist_same {x y : GPhrase} (hx : Ph x) (hy : Ph y) (hl : x.2.1.length = y.2.1.length) : ∃ d, s_msDistance x y = some d ∧ i_phraseDistance x y = some d ∧ 0 ≤ d := by
  unfold s_msDistance i_phraseDistance
  have h3 := hx.len
  rw [show decide ((x.2.1.length : Int) = (y.2.1.length : Int)) = true from decide_eq_true (by omega)]
  simp only [Bool.not_true, cond_false]
  obtain ⟨p, q, e1, e2, rfl, h0⟩ := two_loops (n := x.2.1.length) (f := (fun (st2 : Int × Int) => (
        bif (decide (st2.2 < (x.2.1.length : Int))) then
          (idx x.2.1 st2.2).bind fun e3 =>
          (idx y.2.1 st2.2).bind fun e4 =>
          (s_sgDistance e3 e4).bind fun r5 =>
          some (.inl ((w64 (st2.1 + r5)), (w64 (st2.2 + 1))))
        else
          some (.inr st2.1) : Option ((Int × Int) ⊕ (Int))))) (g := (fun (st2 : Int × Int) => (
      bif (decide (st2.2 < (x.2.1.length : Int))) then
        (idx x.2.1 st2.2).bind fun e3 =>
        (idx y.2.1 st2.2).bind fun e4 =>
        (i_distanceOf e3 e4).bind fun r5 =>
        some (.inl ((w64 (st2.1 + r5)), (w64 (st2.2 + 1))))
      else
        some (.inr st2.1) : Option ((Int × Int) ⊕ (Int))))) (fun i a b => a = b ∧ a.2 = (i : Int) ∧ 0 ≤ a.1 ∧ a.1 ≤ 6 * i) (fun p q => p = q ∧ 0 ≤ p)
    (fun i a b hi ⟨e, h1, h2, h4⟩ => by
      subst e
      obtain ⟨s, j⟩ := a
      simp only at h1 h2 h4
      subst h1
      left
      have ex : x.2.1[i]? = some x.2.1[i] := by simp [hi]
      have ey : y.2.1[i]? = some (y.2.1[i]'(by omega)) := by simp [show i < y.2.1.length by omega]
      obtain ⟨d, d1, d2, d3⟩ := dist_one (hx.sig _ (List.mem_of_getElem? ex)) (hy.sig _ (List.mem_of_getElem? ey))
      refine ⟨(s + (d : Int), (i : Int) + 1), (s + (d : Int), (i : Int) + 1), ?_, ?_, rfl, by simp, by simp only []; omega, by simp only []; omega⟩
      · simp only [at_lt hi, cond_true, idx_get, ex, ey, Option.bind_some, d2]
        rw [w64_of (by omega) (by omega), w64_of (by omega) (by omega)]
      · simp only [at_lt hi, cond_true, idx_get, ex, ey, Option.bind_some, d3]
        rw [w64_of (by omega) (by omega), w64_of (by omega) (by omega)])
    (fun a b ⟨e, h1, h2, h4⟩ => by
      subst e
      obtain ⟨s, j⟩ := a
      simp only at h1 h2 h4
      subst h1
      exact ⟨s, s, by simp, by simp, rfl, h2⟩) x.2.1.length 0 (0, 0) (0, 0) (by omega) ⟨rfl, rfl, by simp, by simp⟩
  rw [e1, e2]
  exact ⟨p, rfl, rfl, h0⟩

theorem dist_none {x y : GPhrase} (hl : x.2.1.length ≠ y.2.1.length) : s_msDistance x y = some (-1) := by
  unfold s_msDistance
  rw [show decide ((x.2.1.length : Int) = (y.2.1.length : Int)) = false from decide_eq_false (by omega)]
  rfl

/-- the best pair up to now -/
def Best (b : GBook) (p q l : Int) : Prop := l < 0 ∨ (0 ≤ l ∧ ∃ (i k : Nat) (x y : GPhrase), p = (i : Int) ∧ q = (k : Int) ∧ b.1[i]? = some x ∧ b.1[k]? = some y ∧ i_phraseDistance x y = some l)

theorem closest_same {b : GBook} (h : Fine b) (hp : ∀ x ∈ b.1, Ph x) : ∃ p q l, s_msClosest b = some (p, q, l) ∧ i_closestPhrases b = some (p, q, decide (0 ≤ l)) ∧ Best b p q l := by
  unfold s_msClosest i_closestPhrases
  have hm := h.len
  unfold maxLen at hm
  obtain ⟨y, z, e1, e2, rfl, hb⟩ := two_loops (n := b.1.length)
    (f := (fun (st2 : Int × Int × Int × Int) => (
      bif (decide (st2.2.2.2 < (b.1.length : Int))) then
        (idx b.1 st2.2.2.2).bind fun e3 =>
        (loopE (fun (st5 : Int × Int × Int × Bytes × (List Int) × Int) => (
            bif (decide (st5.2.2.2.2.2 < (b.1.length : Int))) then
              (idx b.1 st5.2.2.2.2.2).bind fun e6 =>
              (s_msDistance (st5.2.2.2.1, st5.2.2.2.2.1, ()) e6).bind fun r7 =>
              (bif (decide (0 ≤ r7)) then
                  (bif (decide (st5.2.2.1 < 0)) then
                      some true
                    else
                      some (decide (r7 < st5.2.2.1))).bind fun c8 =>
                  some c8
                else
                  some false).bind fun c9 =>
              bif c9 then
                some (.inl (st2.2.2.2, st5.2.2.2.2.2, r7, st5.2.2.2.1, st5.2.2.2.2.1, (w64 (st5.2.2.2.2.2 + 1))))
              else
                some (.inl (st5.1, st5.2.1, st5.2.2.1, st5.2.2.2.1, st5.2.2.2.2.1, (w64 (st5.2.2.2.2.2 + 1))))
            else
              some (.inr (st5.1, st5.2.1, st5.2.2.1)) : Option ((Int × Int × Int × Bytes × (List Int) × Int) ⊕ ((Int × Int × Int))))) (st2.1, st2.2.1, st2.2.2.1, e3.1, e3.2.1, (w64 (st2.2.2.2 + 1)))).bind fun o10 =>
        some (.inl (o10.1, o10.2.1, o10.2.2, (w64 (st2.2.2.2 + 1))))
      else
        some (.inr (st2.1, st2.2.1, st2.2.2.1)) : Option ((Int × Int × Int × Int) ⊕ ((Int × Int × Int))))))
    (g := (fun (st2 : Int × Int × Int × Int) => (
      bif (decide (st2.2.2.2 < (b.1.length : Int))) then
        (idx b.1 st2.2.2.2).bind fun e3 =>
        (loopE (fun (st5 : Int × Int × Int × Bytes × (List Int) × Int) => (
            bif (decide (st5.2.2.2.2.2 < (b.1.length : Int))) then
              (idx b.1 st5.2.2.2.2.2).bind fun e6 =>
              bif (!decide ((st5.2.2.2.2.1.length : Int) = (e6.2.1.length : Int))) then
                some (.inl (st5.1, st5.2.1, st5.2.2.1, st5.2.2.2.1, st5.2.2.2.2.1, (w64 (st5.2.2.2.2.2 + 1))))
              else
                (i_phraseDistance (st5.2.2.2.1, st5.2.2.2.2.1, ()) e6).bind fun r7 =>
                (bif (decide (st5.2.2.1 < 0)) then
                    some true
                  else
                    some (decide (r7 < st5.2.2.1))).bind fun c8 =>
                bif c8 then
                  some (.inl (st2.2.2.2, st5.2.2.2.2.2, r7, st5.2.2.2.1, st5.2.2.2.2.1, (w64 (st5.2.2.2.2.2 + 1))))
                else
                  some (.inl (st5.1, st5.2.1, st5.2.2.1, st5.2.2.2.1, st5.2.2.2.2.1, (w64 (st5.2.2.2.2.2 + 1))))
            else
              some (.inr (st5.1, st5.2.1, st5.2.2.1)) : Option ((Int × Int × Int × Bytes × (List Int) × Int) ⊕ ((Int × Int × Int))))) (st2.1, st2.2.1, st2.2.2.1, e3.1, e3.2.1, (w64 (st2.2.2.2 + 1)))).bind fun o9 =>
        some (.inl (o9.1, o9.2.1, o9.2.2, (w64 (st2.2.2.2 + 1))))
      else
        some (.inr (st2.1, st2.2.1, st2.2.2.1)) : Option ((Int × Int × Int × Int) ⊕ ((Int × Int × Int))))))
    (fun i a c => a = c ∧ a.2.2.2 = (i : Int) ∧ Best b a.1 a.2.1 a.2.2.1) (fun y z => y = z ∧ Best b y.1 y.2.1 y.2.2)
    (fun i a c hi ⟨e, h1, h2⟩ => by
      subst e
      obtain ⟨p, q, l, j⟩ := a
      simp only at h1 h2
      subst h1
      left
      have ex : b.1[i]? = some b.1[i] := by simp [hi]
      simp only [at_lt hi, cond_true, idx_get, ex, Option.bind_some, up h.len hi]
      have hx := hp _ (List.mem_of_getElem? ex)
      generalize b.1[i] = x at ex hx
      obtain ⟨y, z, e1, e2, rfl, hb⟩ := two_loops (n := b.1.length)
        (f := (fun (st5 : Int × Int × Int × Bytes × (List Int) × Int) => (
            bif (decide (st5.2.2.2.2.2 < (b.1.length : Int))) then
              (idx b.1 st5.2.2.2.2.2).bind fun e6 =>
              (s_msDistance (st5.2.2.2.1, st5.2.2.2.2.1, ()) e6).bind fun r7 =>
              (bif (decide (0 ≤ r7)) then
                  (bif (decide (st5.2.2.1 < 0)) then
                      some true
                    else
                      some (decide (r7 < st5.2.2.1))).bind fun c8 =>
                  some c8
                else
                  some false).bind fun c9 =>
              bif c9 then
                some (.inl ((i : Int), st5.2.2.2.2.2, r7, st5.2.2.2.1, st5.2.2.2.2.1, (w64 (st5.2.2.2.2.2 + 1))))
              else
                some (.inl (st5.1, st5.2.1, st5.2.2.1, st5.2.2.2.1, st5.2.2.2.2.1, (w64 (st5.2.2.2.2.2 + 1))))
            else
              some (.inr (st5.1, st5.2.1, st5.2.2.1)) : Option ((Int × Int × Int × Bytes × (List Int) × Int) ⊕ ((Int × Int × Int))))))
        (g := (fun (st5 : Int × Int × Int × Bytes × (List Int) × Int) => (
            bif (decide (st5.2.2.2.2.2 < (b.1.length : Int))) then
              (idx b.1 st5.2.2.2.2.2).bind fun e6 =>
              bif (!decide ((st5.2.2.2.2.1.length : Int) = (e6.2.1.length : Int))) then
                some (.inl (st5.1, st5.2.1, st5.2.2.1, st5.2.2.2.1, st5.2.2.2.2.1, (w64 (st5.2.2.2.2.2 + 1))))
              else
                (i_phraseDistance (st5.2.2.2.1, st5.2.2.2.2.1, ()) e6).bind fun r7 =>
                (bif (decide (st5.2.2.1 < 0)) then
                    some true
                  else
                    some (decide (r7 < st5.2.2.1))).bind fun c8 =>
                bif c8 then
                  some (.inl ((i : Int), st5.2.2.2.2.2, r7, st5.2.2.2.1, st5.2.2.2.2.1, (w64 (st5.2.2.2.2.2 + 1))))
                else
                  some (.inl (st5.1, st5.2.1, st5.2.2.1, st5.2.2.2.1, st5.2.2.2.2.1, (w64 (st5.2.2.2.2.2 + 1))))
            else
              some (.inr (st5.1, st5.2.1, st5.2.2.1)) : Option ((Int × Int × Int × Bytes × (List Int) × Int) ⊕ ((Int × Int × Int))))))
        (fun k a c => a = c ∧ a.2.2.2 = (x.1, x.2.1, (k : Int)) ∧ Best b a.1 a.2.1 a.2.2.1) (fun y z => y = z ∧ Best b y.1 y.2.1 y.2.2)
        (fun k a c hk ⟨e, h1, h2⟩ => by
          subst e
          obtain ⟨p, q, l, j1, j2, j3⟩ := a
          simp only [Prod.mk.injEq] at h1 h2
          obtain ⟨rfl, rfl, rfl⟩ := h1
          left
          have ey : b.1[k]? = some b.1[k] := by simp [hk]
          have hy := hp _ (List.mem_of_getElem? ey)
          generalize b.1[k] = y at ey hy
          simp only [at_lt hk, cond_true, idx_get, ey, Option.bind_some, up h.len hk]
          have ex' : ((x.1, x.2.1, ()) : GPhrase) = x := rfl
          rw [ex']
          by_cases hl : x.2.1.length = y.2.1.length
          · obtain ⟨d, d1, d2, d3⟩ := dist_same hx hy hl
            simp only [d1, d2, Option.bind_some, show decide ((x.2.1.length : Int) = (y.2.1.length : Int)) = true from decide_eq_true (by omega), decide_eq_true d3, Bool.not_true, cond_false, cond_true]
            have both : ∀ (t : Bool), ∃ a' b', (bif t then some (.inl ((i : Int), (k : Int), d, x.1, x.2.1, (k : Int) + 1)) else some (.inl (p, q, l, x.1, x.2.1, (k : Int) + 1)) : Option ((Int × Int × Int × Bytes × (List Int) × Int) ⊕ ((Int × Int × Int)))) = some (.inl a') ∧
                (bif t then some (.inl ((i : Int), (k : Int), d, x.1, x.2.1, (k : Int) + 1)) else some (.inl (p, q, l, x.1, x.2.1, (k : Int) + 1)) : Option ((Int × Int × Int × Bytes × (List Int) × Int) ⊕ ((Int × Int × Int)))) = some (.inl b') ∧
                a' = b' ∧ a'.2.2.2 = (x.1, x.2.1, ((k + 1 : Nat) : Int)) ∧ Best b a'.1 a'.2.1 a'.2.2.1 := fun t => by
              cases t with
              | true => exact ⟨_, _, rfl, rfl, rfl, by simp, .inr ⟨d3, i, k, x, y, rfl, rfl, ex, ey, d2⟩⟩
              | false => exact ⟨_, _, rfl, rfl, rfl, by simp, h2⟩
            cases decide (l < 0) with
            | true => exact both true
            | false => exact both (decide (d < l))
          · simp only [dist_none hl, Option.bind_some, show decide ((x.2.1.length : Int) = (y.2.1.length : Int)) = false from decide_eq_false (by omega), Bool.not_false, cond_true]
            exact ⟨_, _, rfl, rfl, rfl, by simp, h2⟩)
        (fun a c ⟨e, h1, h2⟩ => by
          subst e
          obtain ⟨p, q, l, j1, j2, j3⟩ := a
          simp only [Prod.mk.injEq] at h1 h2
          obtain ⟨rfl, rfl, rfl⟩ := h1
          exact ⟨_, _, by simp only [no_lt]; rfl, by simp only [no_lt]; rfl, rfl, h2⟩) (b.1.length - (i + 1)) (i + 1) (p, q, l, x.1, x.2.1, (i : Int) + 1) (p, q, l, x.1, x.2.1, (i : Int) + 1) (by omega) ⟨rfl, by simp, h2⟩
      rw [e1, e2]
      exact ⟨_, _, rfl, rfl, rfl, by simp, hb⟩)
    (fun a c ⟨e, h1, h2⟩ => by
      subst e
      obtain ⟨p, q, l, j⟩ := a
      simp only at h1 h2
      subst h1
      exact ⟨_, _, by simp only [no_lt]; rfl, by simp only [no_lt]; rfl, rfl, h2⟩) b.1.length 0 (0, 0, -1, 0) (0, 0, -1, 0) (by omega) ⟨rfl, rfl, .inl (by decide)⟩
  rw [e1, e2]
  exact ⟨_, _, _, rfl, rfl, hb⟩

theorem book_ph {b : GBook} (hb : isBook b = true) : ∀ x ∈ b.1, Ph x := by
  simp only [isBook, Bool.and_eq_true, List.all_eq_true, inB, decide_eq_true_eq] at hb
  intro x hx
  obtain ⟨i, hi, rfl⟩ := List.getElem_of_mem hx
  have := hb.1 i (List.mem_range.2 hi)
  have e : b.1[i]? = some b.1[i] := by simp [hi]
  simp only [goodAt, e, Bool.and_eq_true, isSignals, inB, decide_eq_true_eq, List.all_eq_true] at this
  have h2 := this.1.1.2
  exact ⟨by omega, fun n hn => by have := h2.2 n hn; omega⟩

/-- FnExactClosestPhrases -/
theorem plain_ClosestPhrases (b : GBook) (h : Fine b) : l_FnExactClosestPhrases b = some true := by
  unfold l_FnExactClosestPhrases
  obtain ⟨r, hr, h2⟩ := szBook h
  rw [hr]
  simp only [Option.bind_some]
  rcases h2 with h2 | h2
  · rw [decide_eq_true h2]; rfl
  cases decide (r < 0) with
  | true => rfl
  | false =>
  have key : ∃ v, s_ClosestPhrases b = some v ∧ i_ClosestPhrases b = some v := by
    unfold s_ClosestPhrases i_ClosestPhrases
    simp only [s_good h, i_good h, Option.bind_some]
    cases hb : isBook b with
    | false => exact ⟨_, rfl, rfl⟩
    | true =>
    obtain ⟨p, q, l, e1, e2, _⟩ := closest_same h (book_ph hb)
    rw [e1, e2]
    exact ⟨_, rfl, rfl⟩
  obtain ⟨v, h3, h4⟩ := key
  simp only [toBook h2, eqBook h, Option.bind_some, cond_false, h3, h4]
  simp

/-- FnExactLeastDistance -/
theorem plain_LeastDistance (b : GBook) (h : Fine b) : l_FnExactLeastDistance b = some true := by
  unfold l_FnExactLeastDistance
  obtain ⟨r, hr, h2⟩ := szBook h
  rw [hr]
  simp only [Option.bind_some]
  rcases h2 with h2 | h2
  · rw [decide_eq_true h2]; rfl
  cases decide (r < 0) with
  | true => rfl
  | false =>
  have key : ∃ v, s_LeastDistance b = some v ∧ i_LeastDistance b = some v := by
    unfold s_LeastDistance i_LeastDistance
    simp only [s_good h, i_good h, Option.bind_some]
    cases hb : isBook b with
    | false => exact ⟨_, rfl, rfl⟩
    | true =>
    obtain ⟨p, q, l, e1, e2, hbest⟩ := closest_same h (book_ph hb)
    rw [e1, e2]
    simp only [Option.bind_some, Bool.not_true, cond_false]
    rcases hbest with hn | ⟨h0, i, k, x, y, rfl, rfl, hx, hy, hd⟩
    · rw [decide_eq_true hn, show decide (0 ≤ l) = false from decide_eq_false (by omega)]
      exact ⟨_, rfl, rfl⟩
    · rw [show decide (l < 0) = false from decide_eq_false (by omega), decide_eq_true h0]
      simp only [idx_get, hx, hy, hd, Option.bind_some]
      exact ⟨_, rfl, rfl⟩
  obtain ⟨v, h3, h4⟩ := key
  simp only [toBook h2, eqBook h, Option.bind_some, cond_false, h3, h4]
  simp
end Go.Proofs.Ytbbcmknpbpfkaaa.Sh
