/-
  The sets of parts as bits and as lists: facts that are gone through one by one.
-/
import Derived.Test.YtffmiefhnbkcbaaGreatYD1
namespace Go.Proofs.YtffmiefhnbkcbaaGreat.Sh
open Go Go.Ab Go.Proofs
set_option maxRecDepth 100000
def bitsN (a : Nat) : List Nat := (List.range 9).filter fun i => a.testBit i
def bitsL (a : Nat) : List Int := (bitsN a).map fun i : Nat => (i : Int)
def upto (a i : Nat) : List Int := ((List.range i).filter fun j => a.testBit j).map fun i : Nat => (i : Int)
def putL (xs : List Int) (n : Int) : List Int := match highP xs n with
  | [] => lowP xs n ++ [n]
  | y :: r => bif decide (y = n) then xs else (lowP xs n ++ [n]) ++ y :: r
theorem enum_and : ((List.range 512).all fun a => (List.range 9).all fun p => decide (bitsI .and .u64 (shiftI .shr .u64 (a : Int) (p : Int)) 1 = 1) == a.testBit p) = true := by kernel_rfl
theorem enum_shr : ((List.range 512).all fun a => (List.range 10).all fun p => decide (0 < shiftI .shr .u64 (a : Int) (p : Int)) == decide (2 ^ p ≤ a)) = true := by kernel_rfl
theorem enum_or : ((List.range 512).all fun a => (List.range 9).all fun p => decide (bitsI .or .u64 (a : Int) (shiftI .shl .u64 1 (p : Int)) = ((a ||| 2 ^ p : Nat) : Int))) = true := by kernel_rfl
theorem enum_upto : ((List.range 512).all fun a => (List.range 10).all fun p => decide (2 ^ p ≤ a) || decide (upto a p = bitsL a)) = true := by kernel_rfl
theorem enum_put : ((List.range 512).all fun a => (List.range 9).all fun p => decide (putL (bitsL a) (p : Int) = bitsL (a ||| 2 ^ p))) = true := by kernel_rfl
theorem enum_has : ((List.range 512).all fun a => (List.range 9).all fun p => ((bitsL a).any fun x => decide (x = (p : Int))) == a.testBit p) = true := by kernel_rfl
theorem enum_ack : ((List.range 1024).all fun a => decide (bitsI .and .i64 (a : Int) 512 = 0) == decide ((a : Int) < 512)) = true := by kernel_rfl
theorem enum_full : ((List.range 10).all fun n => (List.range (2 ^ n)).all fun a => (decide ((a : Int) = IntKind.u64.wrap (shiftI .shl .u64 1 (n : Int) - 1)) == decide ((n : Int) ≤ ((bitsL a).length : Int))) && decide ((bitsL a).length ≤ n)) = true := by kernel_rfl
theorem r_all {n : Nat} {t : Nat → Bool} (h : (List.range n).all t = true) {i : Nat} (hi : i < n) : t i = true := List.all_eq_true.1 h i (List.mem_range.2 hi)
theorem b_and {a p : Nat} (ha : a < 512) (hp : p < 9) : decide (bitsI .and .u64 (shiftI .shr .u64 (a : Int) (p : Int)) 1 = 1) = a.testBit p := by
  have := r_all (r_all enum_and ha) hp; simpa using this
theorem b_shr {a p : Nat} (ha : a < 512) (hp : p < 10) : decide (0 < shiftI .shr .u64 (a : Int) (p : Int)) = decide (2 ^ p ≤ a) := by
  have := r_all (r_all enum_shr ha) hp; exact eq_of_beq this
theorem b_or {a p : Nat} (ha : a < 512) (hp : p < 9) : bitsI .or .u64 (a : Int) (shiftI .shl .u64 1 (p : Int)) = ((a ||| 2 ^ p : Nat) : Int) := by
  have := r_all (r_all enum_or ha) hp; exact of_decide_eq_true this
theorem b_upto {a p : Nat} (ha : a < 512) (hp : p < 10) (h : ¬ 2 ^ p ≤ a) : upto a p = bitsL a := by
  have := r_all (r_all enum_upto ha) hp
  rw [dec_f h, Bool.false_or] at this
  exact of_decide_eq_true this
theorem b_put {a p : Nat} (ha : a < 512) (hp : p < 9) : putL (bitsL a) (p : Int) = bitsL (a ||| 2 ^ p) := by
  have := r_all (r_all enum_put ha) hp; exact of_decide_eq_true this
theorem b_has {a p : Nat} (ha : a < 512) (hp : p < 9) : ((bitsL a).any fun x => decide (x = (p : Int))) = a.testBit p := by
  have := r_all (r_all enum_has ha) hp; exact eq_of_beq this
theorem b_ack {a : Nat} (ha : a < 1024) : decide (bitsI .and .i64 (a : Int) 512 = 0) = decide ((a : Int) < 512) := by
  have := r_all enum_ack ha; exact eq_of_beq this
theorem b_full {n a : Nat} (hn : n ≤ 9) (ha : a < 2 ^ n) : decide ((a : Int) = IntKind.u64.wrap (shiftI .shl .u64 1 (n : Int) - 1)) = decide ((n : Int) ≤ ((bitsL a).length : Int)) ∧ (bitsL a).length ≤ n := by
  have := r_all (r_all enum_full (show n < 10 by omega)) ha
  rw [Bool.and_eq_true] at this
  exact ⟨eq_of_beq this.1, of_decide_eq_true this.2⟩
theorem pow9 {n a : Nat} (hn : n ≤ 9) (ha : a < 2 ^ n) : a < 512 := Nat.lt_of_lt_of_le ha (Nat.pow_le_pow_right (by decide) hn)
theorem or_lt {n a p : Nat} (ha : a < 2 ^ n) (hp : p < n) : a ||| 2 ^ p < 2 ^ n := Nat.or_lt_two_pow ha (Nat.pow_lt_pow_right (by decide) hp)
theorem bits_len (a : Nat) : (bitsL a).length ≤ 9 := by
  unfold bitsL bitsN
  rw [List.length_map]
  exact Nat.le_trans (List.length_filter_le _ _) (by simp)
end Go.Proofs.YtffmiefhnbkcbaaGreat.Sh
