/-
  The generator of numbers does not stay with bad bytes: two bytes a long way apart differ in their highest bit alone.
-/
import Derived.Test.YtkjcobhldfhodaaEDraw
namespace Go.Proofs.Ytkjcobhldfhodaa.Sh
open Go Go.Ab
set_option maxRecDepth 100000

/-- one step of the generator, its low 48 bits -/
def T (s : Nat) : Nat := (6364136223846793005 * s + 1442695040888963407) % 281474976710656
def itT : Nat → Nat → Nat
  | 0, s => s
  | k + 1, s => T (itT k s)
theorem itT_add (j k : Nat) (s : Nat) : itT k (itT j s) = itT (j + k) s := by
  induction k with
  | zero => rfl
  | succ k ih => show T (itT k (itT j s)) = T (itT (j + k) s); rw [ih]
def affN : Nat → Nat × Nat
  | 0 => (1, 0)
  | k + 1 => ((6364136223846793005 * (affN k).1) % 281474976710656, (6364136223846793005 * (affN k).2 + 1442695040888963407) % 281474976710656)
theorem itT_aff (k s : Nat) (hs : s < 281474976710656) : itT k s = ((affN k).1 * s + (affN k).2) % 281474976710656 := by
  induction k with
  | zero => simp [itT, affN, Nat.mod_eq_of_lt hs]
  | succ k ih =>
    show T (itT k s) = _
    rw [ih, show affN (k + 1) = ((6364136223846793005 * (affN k).1) % 281474976710656, (6364136223846793005 * (affN k).2 + 1442695040888963407) % 281474976710656) from rfl]
    unfold T
    generalize (affN k).1 = a
    generalize (affN k).2 = b
    simp only
    generalize 6364136223846793005 = A
    generalize 1442695040888963407 = K
    generalize 281474976710656 = M
    rw [Nat.add_mod, Nat.mul_mod, Nat.mod_mod, ← Nat.mul_mod, ← Nat.add_mod]
    rw [Nat.add_mod ((A * a % M) * s), Nat.mul_mod (A * a % M), Nat.mod_mod, Nat.mod_mod, ← Nat.mul_mod, ← Nat.add_mod]
    congr 1
    rw [Nat.mul_add, Nat.mul_assoc, Nat.add_assoc]
def dbl (p : Nat × Nat) : Nat × Nat := ((p.1 * p.1) % 281474976710656, (p.1 * p.2 + p.2) % 281474976710656)
def dblN : Nat → Nat × Nat → Nat × Nat
  | 0, p => p
  | k + 1, p => dbl (dblN k p)
theorem itT_lt {k s : Nat} (hs : s < 281474976710656) : itT k s < 281474976710656 := by
  cases k with
  | zero => exact hs
  | succ k => exact Nat.mod_lt _ (by omega)
theorem itT_dbl (m k s : Nat) (hs : s < 281474976710656) : itT (m * 2 ^ k) s = ((dblN k (affN m)).1 * s + (dblN k (affN m)).2) % 281474976710656 := by
  induction k generalizing s with
  | zero => rw [Nat.pow_zero, Nat.mul_one]; exact itT_aff m s hs
  | succ k ih =>
    rw [show m * 2 ^ (k + 1) = m * 2 ^ k + m * 2 ^ k by rw [Nat.pow_succ, ← Nat.mul_assoc]; omega, ← itT_add, ih _ (itT_lt hs), ih s hs]
    show _ = ((dbl (dblN k (affN m))).1 * s + (dbl (dblN k (affN m))).2) % 281474976710656
    generalize dblN k (affN m) = p
    obtain ⟨a, b⟩ := p
    unfold dbl
    simp only
    generalize 281474976710656 = M
    rw [Nat.add_mod, Nat.mul_mod, Nat.mod_mod, ← Nat.mul_mod, ← Nat.add_mod]
    rw [Nat.add_mod ((a * a % M) * s), Nat.mul_mod (a * a % M), Nat.mod_mod, Nat.mod_mod, ← Nat.mul_mod, ← Nat.add_mod]
    congr 1
    rw [Nat.mul_add, Nat.mul_assoc, Nat.add_assoc]
theorem far (s : Nat) (hs : s < 281474976710656) : itT (9 * 2 ^ 47) s = (s + 140737488355328) % 281474976710656 := by
  rw [itT_dbl 9 47 s hs, show dblN 47 (affN 9) = (1, 140737488355328) from by decide +kernel]
  rw [Nat.one_mul]

/-- the low bits of the seed -/
def sd (c : Gl1Cur) : Nat := (c.2.2.1 % 281474976710656).toNat
theorem sd_lt (c : Gl1Cur) : sd c < 281474976710656 := by unfold sd; omega
theorem mod_step (s A K M : Int) (hM : 0 < M) (q : Int) : ((s * A + 0 + K) % (q * M)) % M = (A * (s % M) + K) % M := by
  rw [Int.emod_emod_of_dvd _ ⟨q, Int.mul_comm q M⟩, Int.add_zero, Int.add_emod, Int.mul_emod, Int.mul_comm, ← Int.mul_emod, ← Int.add_emod]
  rw [Int.add_emod (A * (s % M)), Int.mul_emod A (s % M), Int.emod_emod_of_dvd s ⟨1, (Int.mul_one M).symm⟩, ← Int.mul_emod, ← Int.add_emod]
theorem sd_nx {c : Gl1Cur} (h : (c.1.length : Int) ≤ c.2.1) : sd (nx c).1 = T (sd c) := by
  have e : (sd (nx c).1 : Int) = (T (sd c) : Int) := by
    unfold sd nx seedTo T
    simp only [if_neg (by omega : ¬ c.2.1 < (c.1.length : Int))]
    have h1 := mod_step c.2.2.1 6364136223846793005 1442695040888963407 281474976710656 (by omega) 65536
    rw [show (65536 : Int) * 281474976710656 = 18446744073709551616 from rfl] at h1
    rw [h1]
    generalize c.2.2.1 = s
    rw [Int.toNat_of_nonneg (Int.emod_nonneg _ (by omega))]
    rw [Int.natCast_emod, Int.natCast_add, Int.natCast_mul, Int.toNat_of_nonneg (Int.emod_nonneg _ (by omega))]
    rfl
  exact Int.ofNat.inj e
theorem sd_N {c : Gl1Cur} (h : (c.1.length : Int) ≤ c.2.1) (k : Nat) : sd (N k c) = itT k (sd c) := by
  induction k with
  | zero => rfl
  | succ k ih =>
    show sd (nx (N k c)).1 = T (itT k (sd c))
    rw [sd_nx (by rw [N_code, N_at]; omega), ih]
theorem byte_sd {c : Gl1Cur} (h : (c.1.length : Int) ≤ c.2.1) : (nx c).2 = ((sd (nx c).1 / 1099511627776 : Nat) : Int) := by
  unfold sd nx
  simp only [if_neg (by omega : ¬ c.2.1 < (c.1.length : Int))]
  have hs : 0 ≤ seedTo c ∧ seedTo c < 18446744073709551616 := by unfold seedTo; omega
  generalize seedTo c = s at hs
  omega

/-- two bytes a long way apart -/
theorem bytes_far {c : Gl1Cur} (h : (c.1.length : Int) ≤ c.2.1) : (nx (N (9 * 2 ^ 47) c)).2 = ((nx c).2 + 128) % 256 := by
  have h2 : ((N (9 * 2 ^ 47) c).1.length : Int) ≤ (N (9 * 2 ^ 47) c).2.1 := by rw [N_code, N_at]; omega
  rw [byte_sd h, byte_sd h2]
  have e : sd (nx (N (9 * 2 ^ 47) c)).1 = itT (9 * 2 ^ 47) (sd (nx c).1) := by
    rw [show (nx (N (9 * 2 ^ 47) c)).1 = N (9 * 2 ^ 47) (nx c).1 from ?_]
    · exact sd_N (by show (c.1.length : Int) ≤ c.2.1 + 1; omega) _
    · have : N (9 * 2 ^ 47) (N 1 c) = N (1 + 9 * 2 ^ 47) c := N_add _ _ _
      rw [show (nx c).1 = N 1 c from rfl, this, Nat.add_comm]
      rfl
  rw [e, far _ (sd_lt _)]
  have := sd_lt (nx c).1
  generalize sd (nx c).1 = s at *
  omega
theorem not_bad (x y : Int) (h0 : 0 ≤ x) (h1 : x ≤ 255) (hx : x % 30 ≤ 2) (hy : y = (x + 128) % 256) (h : y % 30 ≤ 2) : False := by
  by_cases h2 : x ≤ 127
  · have : y = x + 128 := by omega
    omega
  · have : y = x - 128 := by omega
    omega
end Go.Proofs.Ytkjcobhldfhodaa.Sh
