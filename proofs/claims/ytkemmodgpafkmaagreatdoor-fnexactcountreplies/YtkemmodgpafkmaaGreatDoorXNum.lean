/-
  Plain lemmas on numerals: the specification's own way, digit by digit.
-/
import Derived.Test.YtkemmodgpafkmaaGreatDoorXLift
import Derived.Test.YtkemmodgpafkmaaGreatDoorXExt2
import Derived.Test.YtkemmodgpafkmaaGreatDoorXLaw
namespace Go.Ab
open Go Go.Lib
theorem digit_str (u : Nat) (h : u < 10) : toStr [(IntKind.u8.wrap (w64 (48 + (u : Int))))] = [UInt8.ofNat (48 + u)] := by
  have e : IntKind.u8.wrap (w64 (48 + (u : Int))) = ((48 + u : Nat) : Int) := by
    rw [w64_of (by omega) (by omega)]
    unfold IntKind.wrap
    simp only [IntKind.signed, IntKind.bits]
    simp
    omega
  rw [e]
  rfl
theorem decDigits_len20 (u : Nat) (h : u < 18446744073709551616) : (decDigits u).length ≤ 20 := by
  rw [decDigits_length]
  exact nDigits_le20 u h
theorem num_step {g : Int → Option Bytes} {u : Nat} (hu : u ≤ 9223372036854775807) : (bif (decide ((u : Int) < 10)) then
    some (toStr [(IntKind.u8.wrap (w64 (48 + (u : Int))))])
  else
    (g (w64 (Int.tdiv (u : Int) 10))).bind fun r1 =>
    bif decide (List.length r1 + List.length (toStr [(IntKind.u8.wrap (w64 (48 + (Int.tmod (u : Int) 10))))]) ≤ lim) then
      some (r1 ++ (toStr [(IntKind.u8.wrap (w64 (48 + (Int.tmod (u : Int) 10))))]))
    else
      none) = if u < 10 then some [UInt8.ofNat (48 + u)] else (g ((u / 10 : Nat) : Int)).bind fun r1 => if r1.length + 1 ≤ lim then some (r1 ++ [UInt8.ofNat (48 + u % 10)]) else none := by
  by_cases h : u < 10
  · rw [if_pos h, decide_eq_true (show (u : Int) < 10 by omega), digit_str u h]; rfl
  · have e1 : Int.tdiv (u : Int) 10 = ((u / 10 : Nat) : Int) := by rw [Int.tdiv_eq_ediv_of_nonneg (by omega)]; omega
    have e2 : Int.tmod (u : Int) 10 = ((u % 10 : Nat) : Int) := by rw [Int.tmod_eq_emod_of_nonneg (by omega)]; omega
    rw [if_neg h, decide_eq_false (show ¬ (u : Int) < 10 by omega), e1, e2, digit_str (u % 10) (by omega), w64_of (x := ((u / 10 : Nat) : Int)) (by omega) (by omega)]
    simp only [cond_false, List.length_cons, List.length_nil, Nat.zero_add]
    congr 1
    funext r1
    by_cases h2 : r1.length + 1 ≤ lim
    · rw [if_pos h2, decide_eq_true h2]; rfl
    · rw [if_neg h2, decide_eq_false h2]; rfl
theorem num_lim {it : Nat → Int → Option Bytes} (h0 : ∀ n, it 0 n = none) (hs : ∀ k n, it (k + 1) n = (bif (decide (n < 10)) then
    some (toStr [(IntKind.u8.wrap (w64 (48 + n)))])
  else
    (it k (w64 (Int.tdiv n 10))).bind fun r1 =>
    bif decide (List.length r1 + List.length (toStr [(IntKind.u8.wrap (w64 (48 + (Int.tmod n 10))))]) ≤ lim) then
      some (r1 ++ (toStr [(IntKind.u8.wrap (w64 (48 + (Int.tmod n 10))))]))
    else
      none)) {n : Int} (hn : 0 ≤ n) (hm : n ≤ 9223372036854775807) : limE (fun k => it k n) = some (itoa n) := by
  have hlim : lim = 4294967296 := rfl
  have step : ∀ k (u : Nat), u ≤ 9223372036854775807 → it (k + 1) (u : Int) = if u < 10 then some [UInt8.ofNat (48 + u)] else (it k ((u / 10 : Nat) : Int)).bind fun r1 => if r1.length + 1 ≤ lim then some (r1 ++ [UInt8.ofNat (48 + u % 10)]) else none :=
    fun k u hu => (hs k u).trans (num_step hu)
  have small : ∀ u, u < 10 → decDigits u = [UInt8.ofNat (48 + u)] := fun u h => by rw [decDigits, dif_pos h]
  have more : ∀ u, ¬ u < 10 → decDigits u = decDigits (u / 10) ++ [UInt8.ofNat (48 + u % 10)] := fun u h => by rw [decDigits, dif_neg h]
  have A : ∀ k (u : Nat), u ≤ 9223372036854775807 → u < 10 ^ (k + 1) → it (k + 1) (u : Int) = some (decDigits u) := by
    intro k
    induction k with
    | zero =>
      intro u hu h
      rw [step 0 u hu, if_pos (by omega), small u (by omega)]
    | succ k ih =>
      intro u hu h
      rw [step (k + 1) u hu]
      by_cases h10 : u < 10
      · rw [if_pos h10, small u h10]
      · have hp : 10 ^ (k + 1 + 1) = 10 ^ (k + 1) * 10 := Nat.pow_succ ..
        rw [if_neg h10, ih (u / 10) (by omega) (by omega), Option.bind_some, if_pos (by have := decDigits_len20 (u / 10) (by omega); omega), ← more u h10]
  have B : ∀ k (u : Nat) r, u ≤ 9223372036854775807 → it k (u : Int) = some r → r = decDigits u := by
    intro k
    induction k with
    | zero => intro u r _ h; rw [h0] at h; cases h
    | succ k ih =>
      intro u r hu h
      rw [step k u hu] at h
      by_cases h10 : u < 10
      · rw [if_pos h10] at h; rw [small u h10]; exact (Option.some.inj h).symm
      · rw [if_neg h10, Option.bind_eq_some_iff] at h
        obtain ⟨r1, h1, h2⟩ := h
        have := ih (u / 10) r1 (by omega) h1
        subst this
        split at h2
        · rw [more u h10]; exact (Option.some.inj h2).symm
        · cases h2
  obtain ⟨u, rfl⟩ : ∃ u : Nat, n = u := ⟨n.toNat, by omega⟩
  rw [itoa_nonneg]
  refine limE_of ⟨u + 1, A u u (by omega) ?_⟩ fun k r' h => B k u r' (by omega) h
  have : u < 10 ^ u := Nat.lt_pow_self (by omega)
  have h2 : 10 ^ (u + 1) = 10 ^ u * 10 := Nat.pow_succ ..
  omega
theorem itoa_len {n : Int} (h0 : 0 ≤ n) (h1 : n ≤ 9223372036854775807) : (itoa n).length ≤ 21 := itoa_length_le n (by omega) (by omega)
end Go.Ab
