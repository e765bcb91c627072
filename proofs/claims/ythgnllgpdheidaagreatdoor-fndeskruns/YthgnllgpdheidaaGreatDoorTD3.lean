/-
  Plain facts, over this seat.
-/
import Derived.Test.YthgnllgpdheidaaGreatDoorTP2
namespace Go.Proofs.YthgnllgpdheidaaGreatDoor.Sh
open Go Go.Ab
set_option maxRecDepth 100000

structure Ok (c : Gl1Cur) : Prop where
  by_ : ∀ b ∈ c.1, 0 ≤ b ∧ b ≤ 255
  len : c.1.length ≤ 1048576
  at0 : 0 ≤ c.2.1
  at1 : c.2.1 ≤ 2305843009213693952

def byteAt (c : Gl1Cur) : Int := c.1.getD c.2.1.toNat 0
def seedTo (c : Gl1Cur) : Int := (c.2.2.1 * 6364136223846793005 + (if c.2.1 < (c.1.length : Int) then byteAt c else 0) + 1442695040888963407) % 18446744073709551616
def nx (c : Gl1Cur) : Gl1Cur × Int := ((c.1, c.2.1 + 1, seedTo c, ()), if c.2.1 < (c.1.length : Int) then byteAt c else (seedTo c / 1099511627776) % 256)

theorem byteAt_in {c : Gl1Cur} (h : Ok c) (hl : c.2.1 < (c.1.length : Int)) : idx c.1 c.2.1 = some (byteAt c) ∧ 0 ≤ byteAt c ∧ byteAt c ≤ 255 := by
  have h0 := h.at0
  have hn : c.2.1.toNat < c.1.length := by omega
  have e : byteAt c = c.1[c.2.1.toNat] := by unfold byteAt; rw [List.getD_eq_getElem?_getD, List.getElem?_eq_getElem hn]; rfl
  refine ⟨?_, ?_⟩
  · unfold idx
    rw [if_neg (by omega), List.getElem?_eq_getElem hn, e]
  · rw [e]; exact h.by_ _ (List.getElem_mem hn)
theorem nx_byte {c : Gl1Cur} (h : Ok c) : 0 ≤ (nx c).2 ∧ (nx c).2 ≤ 255 := by
  unfold nx
  simp only
  split
  · rename_i hl; exact (byteAt_in h hl).2
  · omega
theorem nx_ok {c : Gl1Cur} (h : Ok c) (hb : c.2.1 < 2305843009213693952) : Ok (nx c).1 := ⟨h.by_, h.len, by have := h.at0; show 0 ≤ c.2.1 + 1; omega, by show c.2.1 + 1 ≤ _; omega⟩
theorem u64_wrap (x : Int) : IntKind.u64.wrap x = x % 18446744073709551616 := by
  simp [IntKind.wrap, IntKind.signed, IntKind.bits]
theorem wrap3 (s b : Int) : IntKind.u64.wrap (IntKind.u64.wrap (IntKind.u64.wrap (s * 6364136223846793005) + IntKind.u64.wrap b) + 1442695040888963407) = (s * 6364136223846793005 + b + 1442695040888963407) % 18446744073709551616 := by
  simp only [u64_wrap]; omega
theorem and255 (x : Int) (h0 : 0 ≤ x) (h1 : x < 18446744073709551616) : w64 (bitsI .and .u64 (shiftI .shr .u64 x 40) 255) = (x / 1099511627776) % 256 := by
  unfold bitsI shiftI
  have e1 : x.fdiv (2 ^ (min (40 : Int).toNat IntKind.u64.bits)) = x / 1099511627776 := by
    rw [Int.fdiv_eq_ediv_of_nonneg _ (by decide)]
    rfl
  simp only [e1]
  have hq0 : 0 ≤ x / 1099511627776 := by omega
  have hq1 : x / 1099511627776 < 16777216 := by omega
  generalize x / 1099511627776 = q at hq0 hq1
  obtain ⟨n, rfl⟩ := Int.eq_ofNat_of_zero_le hq0
  have hn : n < 16777216 := by omega
  have e2 : (BitVec.ofInt IntKind.u64.bits (n : Int) &&& BitVec.ofInt IntKind.u64.bits 255).toNat = n % 256 := by
    rw [BitVec.toNat_and]
    have a1 : (BitVec.ofInt IntKind.u64.bits (n : Int)).toNat = n := by
      rw [BitVec.ofInt_natCast, BitVec.toNat_ofNat]
      exact Nat.mod_eq_of_lt (by show n < 2 ^ 64; omega)
    have a2 : (BitVec.ofInt IntKind.u64.bits 255).toNat = 255 := by rfl
    rw [a1, a2]
    exact Nat.and_two_pow_sub_one_eq_mod n 8
  rw [e2, u64_wrap, w64_of (by omega) (by omega)]
  omega
theorem s_next {c : Gl1Cur} (h : Ok c) (hb : c.2.1 < 2305843009213693952) : s_l1Cur_next c = some (nx c) := by
  obtain ⟨code, at_, seed, u⟩ := c
  unfold s_l1Cur_next nx
  have h0 := h.at0
  simp only at h0 hb
  have hs : 0 ≤ seedTo (code, at_, seed, u) ∧ seedTo (code, at_, seed, u) < 18446744073709551616 := by unfold seedTo; omega
  by_cases hl : at_ < (code.length : Int)
  · obtain ⟨e1, e2, e3⟩ := byteAt_in h hl
    simp only at e1
    simp only [dec_t hl, cond_true, e1, Option.bind_some, w64_of (x := byteAt (code, at_, seed, u)) (by omega) (by omega), w64_of (x := at_ + 1) (by omega) (by omega), dec_t (by omega : at_ + 1 ≤ (code.length : Int)), wrap3]
    unfold seedTo
    simp only [if_pos hl]
  · simp only [dec_f hl, cond_false, Option.bind_some, w64_of (x := at_ + 1) (by omega) (by omega), dec_f (by omega : ¬ at_ + 1 ≤ (code.length : Int)), wrap3, if_neg hl]
    have e : (seed * 6364136223846793005 + 0 + 1442695040888963407) % 18446744073709551616 = seedTo (code, at_, seed, u) := by unfold seedTo; simp only [if_neg hl]
    rw [e, and255 _ hs.1 hs.2]

/-- the state behind k draws of a byte -/
def N : Nat → Gl1Cur → Gl1Cur
  | 0, c => c
  | k + 1, c => (nx (N k c)).1
theorem N_code (k : Nat) (c : Gl1Cur) : (N k c).1 = c.1 := by
  induction k with
  | zero => rfl
  | succ k ih => exact ih
theorem N_at (k : Nat) (c : Gl1Cur) : (N k c).2.1 = c.2.1 + (k : Int) := by
  induction k with
  | zero => simp [N]
  | succ k ih => show (N k c).2.1 + 1 = _; rw [ih]; omega
theorem N_ok {c : Gl1Cur} (h : Ok c) {k : Nat} (hb : c.2.1 + (k : Int) ≤ 2305843009213693952) : Ok (N k c) :=
  ⟨by rw [N_code]; exact h.by_, by rw [N_code]; exact h.len, by have := h.at0; rw [N_at]; omega, by rw [N_at]; exact hb⟩
theorem N_add (k j : Nat) (c : Gl1Cur) : N k (N j c) = N (j + k) c := by
  induction k with
  | zero => rfl
  | succ k ih => show (nx (N k (N j c))).1 = (nx (N (j + k) c)).1; rw [ih]

def pk (c : Gl1Cur) (n : Int) : Gl1Cur × Int := if n ≤ 1 then (c, 0) else if 200 < n then (N 2 c, ((nx c).2 * 256 + (nx (N 1 c)).2) % n) else (N 1 c, (nx c).2 % n)
theorem s_pick {c : Gl1Cur} (h : Ok c) (hb : c.2.1 + 2 ≤ 2305843009213693952) (n : Int) : s_l1Cur_pick c n = some (pk c n) := by
  unfold s_l1Cur_pick pk
  by_cases h1 : n ≤ 1
  · rw [dec_t h1, if_pos h1]; rfl
  rw [dec_f h1, if_neg h1, s_next h (by omega)]
  have hx := nx_byte h
  simp only [cond_false, Option.bind_some]
  by_cases h2 : 200 < n
  · have ho := nx_ok h (by omega)
    have hy := nx_byte ho
    rw [dec_t h2, if_pos h2, s_next ho (by show c.2.1 + 1 < _; omega)]
    simp only [cond_true, Option.bind_some, dec_f (by omega : ¬ n = 0), Bool.not_false]
    rw [w64_of (x := (nx c).2 * 256) (by omega) (by omega), w64_of (by omega) (by omega), Int.tmod_eq_emod_of_nonneg (by omega)]
    rfl
  · rw [dec_f h2, if_neg h2]
    simp only [cond_false, cond_true, dec_f (by omega : ¬ n = 0), Bool.not_false]
    rw [Int.tmod_eq_emod_of_nonneg (by omega)]
    rfl
theorem pk_range {c : Gl1Cur} {n : Int} (hn : 0 < n) : 0 ≤ (pk c n).2 ∧ (pk c n).2 < n := by
  unfold pk
  split
  · exact ⟨Int.le_refl _, hn⟩
  · split
    · exact ⟨Int.emod_nonneg _ (by omega), Int.emod_lt_of_pos _ hn⟩
    · exact ⟨Int.emod_nonneg _ (by omega), Int.emod_lt_of_pos _ hn⟩

/-- a draw that goes on from c by at most k bytes -/
def Goes {α : Type} (m : Option (Gl1Cur × α)) (c : Gl1Cur) (k : Nat) (Q : α → Prop) : Prop := ∃ j v, m = some (N j c, v) ∧ j ≤ k ∧ Q v
theorem Goes.bind {α β : Type} {m : Option (Gl1Cur × α)} {c : Gl1Cur} {k k2 : Nat} {Q : α → Prop} {Q2 : β → Prop} {f : Gl1Cur × α → Option (Gl1Cur × β)} (h : Goes m c k Q) (h2 : ∀ j v, j ≤ k → Q v → Goes (f (N j c, v)) (N j c) k2 Q2) : Goes (m.bind f) c (k + k2) Q2 := by
  obtain ⟨j, v, rfl, hj, hv⟩ := h
  obtain ⟨j2, v2, e, hj2, hv2⟩ := h2 j v hj hv
  exact ⟨j + j2, v2, by rw [← N_add]; exact e, by omega, hv2⟩
theorem Goes.ret {α : Type} {c : Gl1Cur} {v : α} {Q : α → Prop} (h : Q v) : Goes (some (c, v)) c 0 Q := ⟨0, v, rfl, Nat.le_refl _, h⟩
theorem Goes.mono {α : Type} {m : Option (Gl1Cur × α)} {c : Gl1Cur} {k k2 : Nat} {Q Q2 : α → Prop} (h : Goes m c k Q) (hk : k ≤ k2) (hQ : ∀ v, Q v → Q2 v) : Goes m c k2 Q2 := by
  obtain ⟨j, v, e, hj, hv⟩ := h
  exact ⟨j, v, e, by omega, hQ v hv⟩
theorem go_pick {c : Gl1Cur} (h : Ok c) (hb : c.2.1 + 2 ≤ 2305843009213693952) {n : Int} (hn : 0 < n) : Goes (s_l1Cur_pick c n) c 2 (fun v => 0 ≤ v ∧ v < n) := by
  rw [s_pick h hb]
  have hr := pk_range (c := c) hn
  unfold pk at hr ⊢
  split
  · rename_i h1; rw [if_pos h1] at hr; exact ⟨0, _, rfl, by omega, hr⟩
  · rename_i h1
    rw [if_neg h1] at hr
    split
    · rename_i h2; rw [if_pos h2] at hr; exact ⟨2, _, rfl, by omega, hr⟩
    · rename_i h2; rw [if_neg h2] at hr; exact ⟨1, _, rfl, by omega, hr⟩
theorem go_among {c : Gl1Cur} (h : Ok c) (hb : c.2.1 + 2 ≤ 2305843009213693952) {l : List Int} (hn : l ≠ []) : Goes (s_l1Cur_among c l) c 2 (fun v => v ∈ l) := by
  unfold s_l1Cur_among
  have hl : 0 < l.length := List.length_pos_iff.2 hn
  refine Goes.mono ((go_pick h hb (n := (l.length : Int)) (by omega)).bind (k2 := 0) (Q2 := fun v => v ∈ l) fun j v hj hv => ?_) (by omega) (fun _ h => h)
  have hv2 : v.toNat < l.length := by omega
  refine ⟨0, l[v.toNat], ?_, Nat.le_refl _, List.getElem_mem _⟩
  unfold idx
  simp only []
  rw [if_neg (by omega), List.getElem?_eq_getElem hv2]
  rfl
end Go.Proofs.YthgnllgpdheidaaGreatDoor.Sh
namespace Go.Proofs.YthgnllgpdheidaaGreatDoor.Sh
open Go Go.Ab
set_option maxRecDepth 100000

/-- one step of the generator, its low 48 bits -/
def T (s : Nat) : Nat := (6364136223846793005 * s + 1442695040888963407) % 281474976710656
def itT : Nat → Nat → Nat
  | 0, s => s
  | k + 1, s => T (itT k s)
theorem itT_add (j k : Nat) (s : Nat) : itT k (itT j s) = itT (j + k) s := by
  induction k with
  | zero => rfl
  | succ k ih => show T (itT k (itT j s)) = T (itT (j + k) s); rw [ih]
def affN : Nat → Nat × Nat
  | 0 => (1, 0)
  | k + 1 => ((6364136223846793005 * (affN k).1) % 281474976710656, (6364136223846793005 * (affN k).2 + 1442695040888963407) % 281474976710656)
theorem itT_aff (k s : Nat) (hs : s < 281474976710656) : itT k s = ((affN k).1 * s + (affN k).2) % 281474976710656 := by
  induction k with
  | zero => simp [itT, affN, Nat.mod_eq_of_lt hs]
  | succ k ih =>
    show T (itT k s) = _
    rw [ih, show affN (k + 1) = ((6364136223846793005 * (affN k).1) % 281474976710656, (6364136223846793005 * (affN k).2 + 1442695040888963407) % 281474976710656) from rfl]
    unfold T
    generalize (affN k).1 = a
    generalize (affN k).2 = b
    simp only
    generalize 6364136223846793005 = A
    generalize 1442695040888963407 = K
    generalize 281474976710656 = M
    rw [Nat.add_mod, Nat.mul_mod, Nat.mod_mod, ← Nat.mul_mod, ← Nat.add_mod]
    rw [Nat.add_mod ((A * a % M) * s), Nat.mul_mod (A * a % M), Nat.mod_mod, Nat.mod_mod, ← Nat.mul_mod, ← Nat.add_mod]
    congr 1
    rw [Nat.mul_add, Nat.mul_assoc, Nat.add_assoc]
def dbl (p : Nat × Nat) : Nat × Nat := ((p.1 * p.1) % 281474976710656, (p.1 * p.2 + p.2) % 281474976710656)
def dblN : Nat → Nat × Nat → Nat × Nat
  | 0, p => p
  | k + 1, p => dbl (dblN k p)
theorem itT_lt {k s : Nat} (hs : s < 281474976710656) : itT k s < 281474976710656 := by
  cases k with
  | zero => exact hs
  | succ k => exact Nat.mod_lt _ (by omega)
theorem itT_dbl (m k s : Nat) (hs : s < 281474976710656) : itT (m * 2 ^ k) s = ((dblN k (affN m)).1 * s + (dblN k (affN m)).2) % 281474976710656 := by
  induction k generalizing s with
  | zero => rw [Nat.pow_zero, Nat.mul_one]; exact itT_aff m s hs
  | succ k ih =>
    rw [show m * 2 ^ (k + 1) = m * 2 ^ k + m * 2 ^ k by rw [Nat.pow_succ, ← Nat.mul_assoc]; omega, ← itT_add, ih _ (itT_lt hs), ih s hs]
    show _ = ((dbl (dblN k (affN m))).1 * s + (dbl (dblN k (affN m))).2) % 281474976710656
    generalize dblN k (affN m) = p
    obtain ⟨a, b⟩ := p
    unfold dbl
    simp only
    generalize 281474976710656 = M
    rw [Nat.add_mod, Nat.mul_mod, Nat.mod_mod, ← Nat.mul_mod, ← Nat.add_mod]
    rw [Nat.add_mod ((a * a % M) * s), Nat.mul_mod (a * a % M), Nat.mod_mod, Nat.mod_mod, ← Nat.mul_mod, ← Nat.add_mod]
    congr 1
    rw [Nat.mul_add, Nat.mul_assoc, Nat.add_assoc]
theorem far (s : Nat) (hs : s < 281474976710656) : itT (3 * 2 ^ 47) s = (s + 140737488355328) % 281474976710656 := by
  rw [itT_dbl 3 47 s hs, show dblN 47 (affN 3) = (1, 140737488355328) from by decide +kernel]
  rw [Nat.one_mul]

/-- the low bits of the seed -/
def sd (c : Gl1Cur) : Nat := (c.2.2.1 % 281474976710656).toNat
theorem sd_lt (c : Gl1Cur) : sd c < 281474976710656 := by unfold sd; omega
theorem mod_step (s A K M : Int) (hM : 0 < M) (q : Int) : ((s * A + 0 + K) % (q * M)) % M = (A * (s % M) + K) % M := by
  rw [Int.emod_emod_of_dvd _ ⟨q, Int.mul_comm q M⟩, Int.add_zero, Int.add_emod, Int.mul_emod, Int.mul_comm, ← Int.mul_emod, ← Int.add_emod]
  rw [Int.add_emod (A * (s % M)), Int.mul_emod A (s % M), Int.emod_emod_of_dvd s ⟨1, (Int.mul_one M).symm⟩, ← Int.mul_emod, ← Int.add_emod]
theorem sd_nx {c : Gl1Cur} (h : (c.1.length : Int) ≤ c.2.1) : sd (nx c).1 = T (sd c) := by
  have e : (sd (nx c).1 : Int) = (T (sd c) : Int) := by
    unfold sd nx seedTo T
    simp only [if_neg (by omega : ¬ c.2.1 < (c.1.length : Int))]
    have h1 := mod_step c.2.2.1 6364136223846793005 1442695040888963407 281474976710656 (by omega) 65536
    rw [show (65536 : Int) * 281474976710656 = 18446744073709551616 from rfl] at h1
    rw [h1]
    generalize c.2.2.1 = s
    rw [Int.toNat_of_nonneg (Int.emod_nonneg _ (by omega))]
    rw [Int.natCast_emod, Int.natCast_add, Int.natCast_mul, Int.toNat_of_nonneg (Int.emod_nonneg _ (by omega))]
    rfl
  exact Int.ofNat.inj e
theorem sd_N {c : Gl1Cur} (h : (c.1.length : Int) ≤ c.2.1) (k : Nat) : sd (N k c) = itT k (sd c) := by
  induction k with
  | zero => rfl
  | succ k ih =>
    show sd (nx (N k c)).1 = T (itT k (sd c))
    rw [sd_nx (by rw [N_code, N_at]; omega), ih]
theorem byte_sd {c : Gl1Cur} (h : (c.1.length : Int) ≤ c.2.1) : (nx c).2 = ((sd (nx c).1 / 1099511627776 : Nat) : Int) := by
  unfold sd nx
  simp only [if_neg (by omega : ¬ c.2.1 < (c.1.length : Int))]
  have hs : 0 ≤ seedTo c ∧ seedTo c < 18446744073709551616 := by unfold seedTo; omega
  generalize seedTo c = s at hs
  omega

/-- two bytes a long way apart -/
theorem bytes_far {c : Gl1Cur} (h : (c.1.length : Int) ≤ c.2.1) : (nx (N (3 * 2 ^ 47) c)).2 = ((nx c).2 + 128) % 256 := by
  have h2 : ((N (3 * 2 ^ 47) c).1.length : Int) ≤ (N (3 * 2 ^ 47) c).2.1 := by rw [N_code, N_at]; omega
  rw [byte_sd h, byte_sd h2]
  have e : sd (nx (N (3 * 2 ^ 47) c)).1 = itT (3 * 2 ^ 47) (sd (nx c).1) := by
    rw [show (nx (N (3 * 2 ^ 47) c)).1 = N (3 * 2 ^ 47) (nx c).1 from ?_]
    · exact sd_N (by show (c.1.length : Int) ≤ c.2.1 + 1; omega) _
    · have : N (3 * 2 ^ 47) (N 1 c) = N (1 + 3 * 2 ^ 47) c := N_add _ _ _
      rw [show (nx c).1 = N 1 c from rfl, this, Nat.add_comm]
      rfl
  rw [e, far _ (sd_lt _)]
  have := sd_lt (nx c).1
  generalize sd (nx c).1 = s at *
  omega
end Go.Proofs.YthgnllgpdheidaaGreatDoor.Sh
namespace Go.Proofs.YthgnllgpdheidaaGreatDoor.Sh
open Go Go.Ab
set_option maxRecDepth 100000

/-- a loop with a falling measure -/
theorem meas_loop {σ ρ : Type} {f : σ → Option (σ ⊕ ρ)} (I : Nat → σ → Prop) (Q : ρ → Prop) (step : ∀ n s, I n s → (∃ r, f s = some (.inr r) ∧ Q r) ∨ (∃ m s', m < n ∧ f s = some (.inl s') ∧ I m s')) : ∀ n s, I n s → ∃ r, loopE f s = some r ∧ Q r := by
  intro n
  induction n using Nat.strongRecOn with
  | ind n ih =>
    intro s h
    rcases step n s h with ⟨r, h1, h2⟩ | ⟨m, s', h1, h2, h3⟩
    · exact ⟨r, loopE_done h1, h2⟩
    · obtain ⟨r, a, b⟩ := ih m h1 s' h3
      exact ⟨r, (loopE_step h2).trans a, b⟩

/-- the dice, some bytes on -/
def On (c : Gl1Cur) (k : Nat) (d : Gl1Cur) : Prop := ∃ j, j ≤ k ∧ d = N j c
theorem On.refl (c : Gl1Cur) : On c 0 c := ⟨0, Nat.le_refl _, rfl⟩
theorem On.ok {c d : Gl1Cur} {k : Nat} (h : On c k d) (hc : Ok c) (hb : c.2.1 + (k : Int) ≤ 2305843009213693952) : Ok d := by
  obtain ⟨j, hj, rfl⟩ := h
  exact N_ok hc (by omega)
theorem On.at_ {c d : Gl1Cur} {k : Nat} (h : On c k d) : d.2.1 ≤ c.2.1 + (k : Int) := by
  obtain ⟨j, hj, rfl⟩ := h
  rw [N_at]; omega
theorem On.trans {c d e : Gl1Cur} {j k : Nat} (h : On c j d) (g : On d k e) : On c (j + k) e := by
  obtain ⟨a, ha, rfl⟩ := h
  obtain ⟨b, hb, rfl⟩ := g
  exact ⟨a + b, by omega, by rw [N_add]⟩
theorem On.mono {c d : Gl1Cur} {j k : Nat} (h : On c j d) (hk : j ≤ k) : On c k d := by
  obtain ⟨a, ha, rfl⟩ := h
  exact ⟨a, by omega, rfl⟩

/-- a draw -/
def Dr {α : Type} (m : Option (Gl1Cur × α)) (c : Gl1Cur) (k : Nat) (Q : α → Prop) : Prop := ∃ d v, m = some (d, v) ∧ On c k d ∧ Q v
theorem Goes.dr {α : Type} {m : Option (Gl1Cur × α)} {c : Gl1Cur} {k : Nat} {Q : α → Prop} (h : Goes m c k Q) : Dr m c k Q := by
  obtain ⟨j, v, e, hj, hv⟩ := h
  exact ⟨N j c, v, e, ⟨j, hj, rfl⟩, hv⟩
theorem dr_pick {c : Gl1Cur} (h : Ok c) (hb : c.2.1 + 2 ≤ 2305843009213693952) {n : Int} (hn : 0 < n) : Dr (s_l1Cur_pick c n) c 2 (fun v => 0 ≤ v ∧ v < n) := (go_pick h hb hn).dr
theorem dr_among {c : Gl1Cur} (h : Ok c) (hb : c.2.1 + 2 ≤ 2305843009213693952) {l : List Int} (hn : l ≠ []) : Dr (s_l1Cur_among c l) c 2 (fun v => v ∈ l) := (go_among h hb hn).dr
theorem dr_one {c : Gl1Cur} (h : Ok c) (hb : c.2.1 + 2 ≤ 2305843009213693952) {n : Int} (hn : 0 < n) : Dr (s_l1Cur_one c n) c 2 (fun _ => True) := by
  obtain ⟨d, v, e, h1, _⟩ := dr_pick h hb hn
  unfold s_l1Cur_one
  exact ⟨d, decide (v = 0), by rw [e]; rfl, h1, trivial⟩
end Go.Proofs.YthgnllgpdheidaaGreatDoor.Sh

/-!
  The draws of moves at a desk and of tickets.
-/
namespace Go.Proofs.YthgnllgpdheidaaGreatDoor.Sh
open Go Go.Ab
set_option maxRecDepth 100000

theorem pick1 {c : Gl1Cur} (h : Ok c) (hb : c.2.1 + 2 ≤ 2305843009213693952) {n : Int} (h1 : 1 < n) (h2 : n ≤ 200) : s_l1Cur_pick c n = some (N 1 c, (nx c).2 % n) := by
  rw [s_pick h hb]; unfold pk; rw [if_neg (by omega), if_neg (by omega)]
theorem among1 {c : Gl1Cur} (h : Ok c) (hb : c.2.1 + 2 ≤ 2305843009213693952) {l : List Int} (h1 : 1 < l.length) (h2 : l.length ≤ 200) : ∃ v, s_l1Cur_among c l = some (N 1 c, v) ∧ v ∈ l := by
  unfold s_l1Cur_among
  rw [pick1 h hb (by omega) (by omega)]
  have h3 := Int.emod_nonneg (nx c).2 (b := (l.length : Int)) (by omega)
  have h4 := Int.emod_lt_of_pos (nx c).2 (b := (l.length : Int)) (by omega)
  simp only [Option.bind_some]
  generalize (nx c).2 % (l.length : Int) = v at h3 h4
  have hv2 : v.toNat < l.length := by omega
  refine ⟨l[v.toNat], ?_, List.getElem_mem _⟩
  unfold idx
  rw [if_neg (by omega), List.getElem?_eq_getElem hv2]
  rfl

abbrev LM : Type := (List Int) × Int × Int × (List GDeskMove)
def mkM (c : Gl1Cur) (l : List GDeskMove) : LM := (c.1, c.2.1, c.2.2.1, l)
noncomputable def fM (n : Int) : LM → Option (LM ⊕ LM) := (fun (st6 : (List Int) × Int × Int × (List GDeskMove)) => (
      bif (decide ((st6.2.2.2.length : Int) < n)) then
        (s_l1Cur_among (st6.1, st6.2.1, st6.2.2.1, ()) [1, 7, 12, 999]).bind fun r7 =>
        (s_l1Cur_pick r7.1 6).bind fun r8 =>
        bif (decide (r8.2 = 0)) then
          (s_l1Cur_pick r8.1 30).bind fun r9 =>
          (s_l1Cur_pick r9.1 4).bind fun r10 =>
          bif decide (List.length st6.2.2.2 + List.length [(1, (w64 (1 + r9.2)), (w64 (1 + r10.2)), ())] ≤ lim) then
            some (.inl (r10.1.1, r10.1.2.1, r10.1.2.2.1, (st6.2.2.2 ++ [(1, (w64 (1 + r9.2)), (w64 (1 + r10.2)), ())])))
          else
            none
        else
          bif (decide (r8.2 = 1)) then
            (s_l1Cur_pick r8.1 3).bind fun r11 =>
            bif decide (List.length st6.2.2.2 + List.length [(1, r7.2, (w64 (1 + r11.2)), ())] ≤ lim) then
              some (.inl (r11.1.1, r11.1.2.1, r11.1.2.2.1, (st6.2.2.2 ++ [(1, r7.2, (w64 (1 + r11.2)), ())])))
            else
              none
          else
            bif (decide (r8.2 = 5)) then
              (s_l1Cur_one r8.1 4).bind fun r12 =>
              bif r12.2 then
                bif decide (List.length st6.2.2.2 + List.length [(3, r7.2, 0, ())] ≤ lim) then
                  some (.inl (r12.1.1, r12.1.2.1, r12.1.2.2.1, (st6.2.2.2 ++ [(3, r7.2, 0, ())])))
                else
                  none
              else
                some (.inl (r12.1.1, r12.1.2.1, r12.1.2.2.1, st6.2.2.2))
            else
              (s_l1Cur_pick r8.1 3).bind fun r13 =>
              bif decide (List.length st6.2.2.2 + List.length [(2, r7.2, r13.2, ())] ≤ lim) then
                some (.inl (r13.1.1, r13.1.2.1, r13.1.2.2.1, (st6.2.2.2 ++ [(2, r7.2, r13.2, ())])))
              else
                none
      else
        some (.inr (st6.1, st6.2.1, st6.2.2.1, st6.2.2.2)) : Option (((List Int) × Int × Int × (List GDeskMove)) ⊕ (((List Int) × Int × Int × (List GDeskMove))))))
theorem lim1 {α β : Type} {l : List α} {x : β} (h : l.length ≤ 1000) : decide (List.length l + List.length [x] ≤ lim) = true := by unfold lim; rw [List.length_singleton]; exact decide_eq_true (by omega)

theorem m_step {c : Gl1Cur} (h : Ok c) (hb : c.2.1 + 20 ≤ 2305843009213693952) {l : List GDeskMove} {n : Int} (hl : (l.length : Int) < n) (h1 : l.length ≤ 1000) :
    (∃ j x, j ≤ 4 ∧ fM n (mkM c l) = some (.inl (mkM (N j c) (l ++ [x])))) ∨ (fM n (mkM c l) = some (.inl (mkM (N 3 c) l)) ∧ (nx (N 1 c)).2 % 6 = 5) := by
  have ok : ∀ k : Nat, k ≤ 10 → Ok (N k c) ∧ (N k c).2.1 + 2 ≤ 2305843009213693952 := fun k hk => ⟨N_ok h (by omega), by rw [N_at]; omega⟩
  obtain ⟨v1, e1, _⟩ := among1 (ok 0 (by omega)).1 (ok 0 (by omega)).2 (l := [1, 7, 12, 999]) (by simp) (by simp)
  have e2 := pick1 (ok 1 (by omega)).1 (ok 1 (by omega)).2 (n := 6) (by omega) (by omega)
  have e3 := pick1 (ok 2 (by omega)).1 (ok 2 (by omega)).2 (n := 30) (by omega) (by omega)
  have e4 := pick1 (ok 3 (by omega)).1 (ok 3 (by omega)).2 (n := 4) (by omega) (by omega)
  have e5 := pick1 (ok 2 (by omega)).1 (ok 2 (by omega)).2 (n := 3) (by omega) (by omega)
  have e6 := pick1 (ok 2 (by omega)).1 (ok 2 (by omega)).2 (n := 4) (by omega) (by omega)
  simp only [N_add] at e1 e2 e3 e4 e5 e6
  have n0 : N 0 c = c := rfl
  rw [n0] at e1
  have g : decide ((((mkM c l).2.2.2).length : Int) < n) = true := decide_eq_true hl
  have hc : ((mkM c l).1, (mkM c l).2.1, (mkM c l).2.2.1, ()) = c := rfl
  unfold fM s_l1Cur_one
  simp only [g, cond_true, hc, e1, e2, e3, e4, e5, e6, Option.bind_some]
  have r2 : 0 ≤ (nx (N 1 c)).2 % 6 := by omega
  generalize hq : (nx (N 1 c)).2 % 6 = q at *
  by_cases q0 : q = 0
  · left
    rw [dec_t q0]
    simp only [cond_true]
    rw [show (mkM c l).2.2.2 = l from rfl, lim1 h1]
    exact ⟨4, _, by omega, rfl⟩
  by_cases q1 : q = 1
  · left
    rw [dec_f q0, dec_t q1]
    simp only [cond_true, cond_false]
    rw [show (mkM c l).2.2.2 = l from rfl, lim1 h1]
    exact ⟨3, _, by omega, rfl⟩
  by_cases q5 : q = 5
  · rw [dec_f q0, dec_f q1, dec_t q5]
    simp only [cond_false, cond_true]
    cases decide ((nx (N 2 c)).2 % 4 = 0) with
    | true => left; simp only [cond_true]; rw [show (mkM c l).2.2.2 = l from rfl, lim1 h1]; exact ⟨3, _, by omega, rfl⟩
    | false => right; exact ⟨rfl, q5⟩
  · left
    rw [dec_f q0, dec_f q1, dec_f q5]
    simp only [cond_true, cond_false]
    rw [show (mkM c l).2.2.2 = l from rfl, lim1 h1]
    exact ⟨3, _, by omega, rfl⟩

theorem m_even {l : List GDeskMove} {n : Int} (hl : (l.length : Int) < n) (h1 : l.length ≤ 1000) {c : Gl1Cur} (h : Ok c) : ∀ J : Nat, c.2.1 + 3 * (J : Int) + 20 ≤ 2305843009213693952 →
    (∃ j x, j ≤ 3 * J + 4 ∧ loopE (fM n) (mkM c l) = loopE (fM n) (mkM (N j c) (l ++ [x]))) ∨ (loopE (fM n) (mkM c l) = loopE (fM n) (mkM (N (3 * J) c) l) ∧ ∀ i, i < J → (nx (N (3 * i + 1) c)).2 % 6 = 5)
  | 0, _ => .inr ⟨rfl, fun i hi => by omega⟩
  | J + 1, hb => by
    rcases m_even hl h1 h J (by omega) with ⟨j, x, hj, e⟩ | ⟨e, hp⟩
    · exact .inl ⟨j, x, by omega, e⟩
    · have ho : Ok (N (3 * J) c) := N_ok h (by omega)
      rcases m_step ho (by rw [N_at]; omega) hl h1 with ⟨j, x, hj, e2⟩ | ⟨e2, hx⟩
      · exact .inl ⟨3 * J + j, x, by omega, by rw [e, loopE_step e2, N_add]⟩
      · refine .inr ⟨by rw [e, loopE_step e2, N_add, show 3 * J + 3 = 3 * (J + 1) by omega], fun i hi => ?_⟩
        by_cases hij : i = J
        · subst hij; rw [N_add] at hx; exact hx
        · exact hp i (by omega)
theorem m_bad (x y : Int) (h0 : 0 ≤ x) (h1 : x ≤ 255) (hx : x % 6 = 5) (hy : y = (x + 128) % 256) (h : y % 6 = 5) : False := by
  by_cases h2 : x ≤ 127
  · have : y = x + 128 := by omega
    omega
  · have : y = x - 128 := by omega
    omega
theorem m_apart {c : Gl1Cur} (h : Ok c) {D : Nat} (hD : D = 140737488355328) (hb : c.2.1 + (D : Int) * 3 + (c.1.length : Int) * 3 + 6 ≤ 2305843009213693952) (p1 : (nx (N (3 * c.1.length + 1) c)).2 % 6 = 5) (p2 : (nx (N (3 * (c.1.length + D) + 1) c)).2 % 6 = 5) : False := by
  have h0 := h.at0
  have ho : Ok (N (3 * c.1.length + 1) c) := N_ok h (by omega)
  have hx := nx_byte ho
  have hfar : ∀ K : Nat, K = 3 * 2 ^ 47 → (nx (N K (N (3 * c.1.length + 1) c))).2 = ((nx (N (3 * c.1.length + 1) c)).2 + 128) % 256 := fun K hK => by
    rw [hK]
    exact bytes_far (c := N (3 * c.1.length + 1) c) (by rw [N_code, N_at]; omega)
  have hK : 3 * D = 3 * 2 ^ 47 := by rw [hD]
  have h2 := hfar (3 * D) hK
  rw [N_add, show 3 * c.1.length + 1 + 3 * D = 3 * (c.1.length + D) + 1 from by omega] at h2
  exact m_bad _ _ hx.1 hx.2 p1 h2 p2
theorem m_progress {l : List GDeskMove} {n : Int} (hl : (l.length : Int) < n) (h1 : l.length ≤ 1000) {c : Gl1Cur} (h : Ok c) (hb : c.2.1 + 500000000000000 ≤ 2305843009213693952) :
    ∃ (j : Nat) (x : GDeskMove), (j : Int) ≤ 450000000000000 ∧ loopE (fM n) (mkM c l) = loopE (fM n) (mkM (N j c) (l ++ [x])) := by
  have hlen := h.len
  have h0 := h.at0
  obtain ⟨D, hD⟩ : ∃ D : Nat, D = 140737488355328 := ⟨_, rfl⟩
  rcases m_even hl h1 h (c.1.length + D + 1) (by omega) with ⟨j, x, hj, e⟩ | ⟨e, hp⟩
  · exact ⟨j, x, by omega, e⟩
  · exfalso
    exact m_apart h hD (by omega) (hp c.1.length (by omega)) (hp (c.1.length + D) (by omega))
theorem m_loop {n : Int} (hn : n ≤ 100) : ∀ (k : Nat) (l : List GDeskMove) (c : Gl1Cur), n ≤ (l.length : Int) + (k : Int) → ((l.length : Int) ≤ n ∨ l = []) → (k : Int) ≤ 100 → Ok c → c.2.1 + (k : Int) * 500000000000000 ≤ 2305843009213693952 →
    ∃ d l', loopE (fM n) (mkM c l) = some (mkM d l') ∧ Ok d ∧ d.2.1 ≤ c.2.1 + (k : Int) * 500000000000000 ∧ ((l'.length : Int) = n ∨ l' = []) ∧ n ≤ (l'.length : Int) := by
  intro k
  induction k with
  | zero =>
    intro l c hk hl _ h hb
    refine ⟨c, l, loopE_done ?_, h, by omega, hl.imp (fun h => by omega) (fun h => h), by omega⟩
    have g : decide ((((mkM c l).2.2.2).length : Int) < n) = false := decide_eq_false (by show ¬ (l.length : Int) < n; omega)
    unfold fM
    simp only [g, cond_false]
  | succ k ih =>
    intro l c hk hl hk1 h hb
    by_cases hlt : (l.length : Int) < n
    · obtain ⟨j, x, hj, e⟩ := m_progress hlt (by omega) h (by omega)
      obtain ⟨d, l', e2, h2, h3, h4, h5⟩ := ih (l ++ [x]) (N j c) (by rw [List.length_append, List.length_singleton]; omega) (.inl (by rw [List.length_append, List.length_singleton]; omega)) (by omega) (N_ok h (by omega)) (by rw [N_at]; omega)
      rw [N_at] at h3
      exact ⟨d, l', by rw [e, e2], h2, by omega, h4, h5⟩
    · refine ⟨c, l, loopE_done ?_, h, by omega, hl.imp (fun h => by omega) (fun h => h), by omega⟩
      have g : decide ((((mkM c l).2.2.2).length : Int) < n) = false := decide_eq_false hlt
      unfold fM
      simp only [g, cond_false]

/-- a draw that takes at most K bytes -/
def Dk {α : Type} (m : Option (Gl1Cur × α)) (c : Gl1Cur) (K : Int) (Q : α → Prop) : Prop := ∃ d v, m = some (d, v) ∧ Ok d ∧ d.2.1 ≤ c.2.1 + K ∧ Q v
theorem Dr.dk {α : Type} {m : Option (Gl1Cur × α)} {c : Gl1Cur} {k : Nat} {Q : α → Prop} (h : Dr m c k Q) (hc : Ok c) (hb : c.2.1 + (k : Int) ≤ 2305843009213693952) : Dk m c (k : Int) Q := by
  obtain ⟨d, v, e, g, q⟩ := h
  exact ⟨d, v, e, g.ok hc hb, g.at_, q⟩
theorem dk_pick {c : Gl1Cur} (h : Ok c) (hb : c.2.1 + 2 ≤ 2305843009213693952) {n : Int} (hn : 0 < n) : Dk (s_l1Cur_pick c n) c 2 (fun v => 0 ≤ v ∧ v < n) := (dr_pick h hb hn).dk h (by omega)
theorem dk_one {c : Gl1Cur} (h : Ok c) (hb : c.2.1 + 2 ≤ 2305843009213693952) {n : Int} (hn : 0 < n) : Dk (s_l1Cur_one c n) c 2 (fun _ => True) := (dr_one h hb hn).dk h (by omega)
theorem dk_among {c : Gl1Cur} (h : Ok c) (hb : c.2.1 + 2 ≤ 2305843009213693952) {l : List Int} (hn : l ≠ []) : Dk (s_l1Cur_among c l) c 2 (fun v => v ∈ l) := (dr_among h hb hn).dk h (by omega)

theorem dk_moves {c : Gl1Cur} (h : Ok c) (hb : c.2.1 + 100000000000000000 ≤ 2305843009213693952) : Dk (s_l1Cur_deskMoves c) c 51000000000000000 (fun l => l.length ≤ 61) := by
  unfold s_l1Cur_deskMoves
  obtain ⟨d1, n1, e1, o1, a1, q1⟩ := dk_pick (n := 16) h (by omega) (by omega)
  obtain ⟨d2, b2, e2, o2, a2, _⟩ := dk_one (n := 24) o1 (by omega) (by omega)
  obtain ⟨d3, n3, e3, o3, a3, q3⟩ := dk_pick (n := 2) o2 (by omega) (by omega)
  rw [e1]
  simp only [Option.bind_some]
  rw [e2]
  simp only [Option.bind_some]
  have tail : ∀ (d : Gl1Cur) (n : Int), Ok d → d.2.1 ≤ c.2.1 + 6 → 0 ≤ n → n ≤ 61 → Dk ((loopE (fM n) (d.1, d.2.1, d.2.2.1, [])).bind fun o14 =>
  bif (decide (0 < n)) then
    (s_l1Cur_one (o14.1, o14.2.1, o14.2.2.1, ()) 12).bind fun r15 =>
    bif r15.2 then
      (s_l1Cur_pick r15.1 n).bind fun r16 =>
      (s_l1Cur_pick r16.1 5).bind fun r17 =>
      (s_l1Cur_among r17.1 [0, 1, 999, 1000]).bind fun r18 =>
      (s_l1Cur_among r18.1 [(-1), 0, 9, 10]).bind fun r19 =>
      bif decide (0 ≤ r16.2) && decide (r16.2 < (o14.2.2.2.length : Int)) then
        some (r19.1, (o14.2.2.2.set (Int.toNat r16.2) (r17.2, r18.2, r19.2, ())))
      else
        none
    else
      some (r15.1, o14.2.2.2)
  else
    bif false then
      (s_l1Cur_pick (o14.1, o14.2.1, o14.2.2.1, ()) n).bind fun r20 =>
      (s_l1Cur_pick r20.1 5).bind fun r21 =>
      (s_l1Cur_among r21.1 [0, 1, 999, 1000]).bind fun r22 =>
      (s_l1Cur_among r22.1 [(-1), 0, 9, 10]).bind fun r23 =>
      bif decide (0 ≤ r20.2) && decide (r20.2 < (o14.2.2.2.length : Int)) then
        some (r23.1, (o14.2.2.2.set (Int.toNat r20.2) (r21.2, r22.2, r23.2, ())))
      else
        none
    else
      some ((o14.1, o14.2.1, o14.2.2.1, ()), o14.2.2.2)) c 51000000000000000 (fun l => l.length ≤ 61) := fun d n od ad hn hn2 => by
    obtain ⟨d4, l, e4, o4, a4, q4, q5⟩ := m_loop (n := n) (by omega) 100 [] d (by simp; omega) (.inr rfl) (by omega) od (by omega)
    have e4' : loopE (fM n) (d.1, d.2.1, d.2.2.1, []) = some (mkM d4 l) := e4
    have hd4 : ((mkM d4 l).1, (mkM d4 l).2.1, (mkM d4 l).2.2.1, ()) = d4 := rfl
    have hl4 : (mkM d4 l).2.2.2 = l := rfl
    have hlen : l.length ≤ 61 := by
      rcases q4 with q4 | q4
      · omega
      · rw [q4]; simp
    rw [e4']
    simp only [Option.bind_some, hd4, hl4]
    by_cases h0 : 0 < n
    · rw [dec_t h0]
      obtain ⟨d5, b5, e5, o5, a5, _⟩ := dk_one (n := 12) o4 (by omega) (by omega)
      simp only [cond_true, e5, Option.bind_some]
      cases b5 with
      | false => exact ⟨d5, l, rfl, o5, by omega, hlen⟩
      | true =>
        obtain ⟨d6, n6, e6, o6, a6, q6⟩ := dk_pick (n := n) o5 (by omega) h0
        obtain ⟨d7, n7, e7, o7, a7, _⟩ := dk_pick (n := 5) o6 (by omega) (by omega)
        obtain ⟨d8, n8, e8, o8, a8, _⟩ := dk_among (l := [0, 1, 999, 1000]) o7 (by omega) (by simp)
        obtain ⟨d9, n9, e9, o9, a9, _⟩ := dk_among (l := [(-1), 0, 9, 10]) o8 (by omega) (by simp)
        simp only [cond_true, e6, e7, e8, e9, Option.bind_some]
        rw [dec_t q6.1, dec_t (show n6 < (l.length : Int) by omega)]
        exact ⟨d9, _, rfl, o9, by omega, by show (List.set l _ _).length ≤ 61; rw [List.length_set]; exact hlen⟩
    · rw [dec_f h0]
      exact ⟨d4, l, rfl, o4, by omega, hlen⟩
  cases b2 with
  | true =>
    simp only [cond_true]
    rw [e3]
    simp only [Option.bind_some]
    rw [w64_of (by omega) (by omega)]
    exact tail d3 (60 + n3) o3 (by omega) (by omega) (by omega)
  | false =>
    simp only [cond_false, Option.bind_some]
    exact tail d2 n1 o2 (by omega) (by omega) (by omega)
end Go.Proofs.YthgnllgpdheidaaGreatDoor.Sh

/-!
  The draws of tickets and of what the laws ask of them.
-/
namespace Go.Proofs.YthgnllgpdheidaaGreatDoor.Sh
open Go Go.Ab
set_option maxRecDepth 100000

structure Drawn0 (l : List GTicket) : Prop where
  len : l.length ≤ 100
  got : ∀ x ∈ l, x.2.2.1.length ≤ 100
theorem Drawn0.small {l : List GTicket} (h : Drawn0 l) : Small l := ⟨by have := h.len; omega, fun x hx => by have := h.got x hx; omega⟩
theorem Drawn0.nil : Drawn0 [] := ⟨by simp, fun x hx => by cases hx⟩
theorem Drawn0.set {l : List GTicket} (h : Drawn0 l) {i : Nat} {y : GTicket} (hy : y.2.2.1.length ≤ 100) : Drawn0 (l.set i y) := ⟨by rw [List.length_set]; exact h.len, fun x hx => by
  rcases List.mem_or_eq_of_mem_set hx with hx | rfl
  · exact h.got x hx
  · exact hy⟩
theorem are_drawn {l : List GTicket} (hg : areTickets l = true) : Drawn0 l := by
  have hg' := hg
  unfold areTickets at hg'
  simp only [Bool.and_eq_true, decide_eq_true_eq] at hg'
  refine ⟨by omega, fun x hx => ?_⟩
  obtain ⟨i, hi, rfl⟩ := List.getElem_of_mem hx
  have := isT_at hg hi
  unfold isT at this
  simp only [Bool.and_eq_true, inB_iff] at this
  obtain ⟨_, h2, h3, _⟩ := this
  unfold rising at h3
  simp only [Bool.and_eq_true, List.all_eq_true, inB_iff] at h3
  have hp := rises_pair.1 (by rw [List.all_eq_true]; exact h3.2)
  have := pair_len hp (b := w64 (l[i].2.1 - 1)) (fun a ha => h3.1 a ha) (by rw [w64_of (by omega) (by omega)]; omega)
  rw [w64_of (by omega) (by omega)] at this
  omega
structure Drawn (l : List GTicket) : Prop where
  len : l.length ≤ 100
  got : ∀ x ∈ l, x.2.2.1.length ≤ 101
theorem Drawn.small {l : List GTicket} (h : Drawn l) : Small l := ⟨by have := h.len; omega, fun x hx => by have := h.got x hx; omega⟩
theorem are_nil : areTickets [] = true := rfl

noncomputable def fT (ms : List GDeskMove) := (fun (st3 : (List Int) × Int × Int × (List GTicket) × (List GDeskMove) × Int) => (
      bif (decide (st3.2.2.2.2.2 < (ms.length : Int))) then
        bif decide (0 ≤ st3.2.2.2.2.2) && decide (st3.2.2.2.2.2 < (st3.2.2.2.2.1.length : Int)) then
          (st3.2.2.2.2.1[(Int.toNat st3.2.2.2.2.2)]?).bind fun e4 =>
          (s_dkStep st3.2.2.2.1 e4).bind fun r5 =>
          bif r5.2 then
            some (.inl (st3.1, st3.2.1, st3.2.2.1, r5.1, st3.2.2.2.2.1, (w64 (st3.2.2.2.2.2 + 1))))
          else
            some (.inl (st3.1, st3.2.1, st3.2.2.1, st3.2.2.2.1, st3.2.2.2.2.1, (w64 (st3.2.2.2.2.2 + 1))))
        else
          none
      else
        some (.inr (st3.1, st3.2.1, st3.2.2.1, st3.2.2.2.1)) : Option (((List Int) × Int × Int × (List GTicket) × (List GDeskMove) × Int) ⊕ (((List Int) × Int × Int × (List GTicket))))))
theorem t_loop {ms : List GDeskMove} (hm : ms.length ≤ 61) (c : Gl1Cur) : ∃ l, loopE (fT ms) (c.1, c.2.1, c.2.2.1, [], ms, 0) = some (c.1, c.2.1, c.2.2.1, l) ∧ areTickets l = true := by
  obtain ⟨y, h1, l, h2, h3⟩ := one_loop (n := ms.length) (f := fT ms) (fun i st => ∃ l, st = (c.1, c.2.1, c.2.2.1, l, ms, (i : Int)) ∧ areTickets l = true) (fun y => ∃ l, y = (c.1, c.2.1, c.2.2.1, l) ∧ areTickets l = true)
    (fun i st hi ⟨l, e, hg⟩ => by
      subst e
      left
      have ex : ms[i]? = some ms[i] := by simp [hi]
      have hs := (are_drawn hg).small
      obtain ⟨_, hk⟩ := step_fine hs hg ms[i]
      unfold fT
      simp only [dec_t (show (i : Int) < (ms.length : Int) by omega), cond_true, dec_t (show (0 : Int) ≤ (i : Int) by omega), Bool.and_self, Int.toNat_natCast, ex, Option.bind_some, s_step hs hg, w64_of (x := (i : Int) + 1) (by omega) (by omega)]
      cases hb : (stepT l ms[i]).2 with
      | true => exact ⟨_, rfl, _, rfl, hk hb⟩
      | false => exact ⟨_, rfl, l, rfl, hg⟩)
    (fun st ⟨l, e, hg⟩ => by
      subst e
      exact ⟨_, by unfold fT; simp only [dec_f (Int.lt_irrefl (ms.length : Int)), cond_false], l, rfl, hg⟩) ms.length 0 (c.1, c.2.1, c.2.2.1, [], ms, 0) (by omega) ⟨[], rfl, are_nil⟩
  exact ⟨l, by rw [h1, h2], h3⟩

noncomputable def fF (n : Int) := (fun (st11 : (List Int) × Int × Int × (List GTicket)) => (
          bif (decide ((st11.2.2.2.length : Int) < n)) then
            bif decide (List.length st11.2.2.2 + List.length [((w64 (10 + (st11.2.2.2.length : Int))), 2, [1], 0, ())] ≤ lim) then
              some (.inl (st11.1, st11.2.1, st11.2.2.1, (st11.2.2.2 ++ [((w64 (10 + (st11.2.2.2.length : Int))), 2, [1], 0, ())])))
            else
              none
          else
            some (.inr (st11.1, st11.2.1, st11.2.2.1, st11.2.2.2)) : Option (((List Int) × Int × Int × (List GTicket)) ⊕ (((List Int) × Int × Int × (List GTicket))))))
theorem f_loop {n : Int} (hn : n ≤ 30) (c : Gl1Cur) : ∀ (k : Nat) (l : List GTicket), n ≤ (l.length : Int) + (k : Int) → l.length ≤ 30 → Drawn0 l → ∃ l', loopE (fF n) (c.1, c.2.1, c.2.2.1, l) = some (c.1, c.2.1, c.2.2.1, l') ∧ Drawn0 l'
  | 0, l, hk, hl, hd => by
    refine ⟨l, loopE_done ?_, hd⟩
    unfold fF
    simp only [dec_f (show ¬ (l.length : Int) < n by omega), cond_false]
  | k + 1, l, hk, hl, hd => by
    by_cases hlt : (l.length : Int) < n
    · obtain ⟨l', e, h⟩ := f_loop hn c k (l ++ [((w64 (10 + (l.length : Int))), 2, [1], 0, ())]) (by simp; omega) (by simp; omega) ⟨by simp; omega, fun x hx => by
        rcases List.mem_append.1 hx with hx | hx
        · exact hd.got x hx
        · rw [List.mem_singleton.1 hx]; simp⟩
      refine ⟨l', ?_, h⟩
      rw [← e]
      refine loopE_step ?_
      unfold fF
      simp only [dec_t hlt, cond_true]
      rw [lim1 (by omega)]
      rfl
    · refine ⟨l, loopE_done ?_, hd⟩
      unfold fF
      simp only [dec_f hlt, cond_false]

theorem dk_tickets {c : Gl1Cur} (h : Ok c) (hb : c.2.1 + 200000000000000000 ≤ 2305843009213693952) : Dk (s_l1Cur_tickets c) c 52000000000000000 Drawn := by
  unfold s_l1Cur_tickets
  obtain ⟨d1, ms, e1, o1, a1, q1⟩ := dk_moves h (by omega)
  obtain ⟨l1, e2, g1⟩ := t_loop q1 d1
  have e2' : loopE (fT ms) (d1.1, d1.2.1, d1.2.2.1, [], ms, 0) = some (d1.1, d1.2.1, d1.2.2.1, l1) := e2
  obtain ⟨d2, b2, e3, o2, a2, _⟩ := dk_one (n := 20) o1 (by omega) (by omega)
  have e3' : s_l1Cur_one (d1.1, d1.2.1, d1.2.2.1, ()) 20 = some (d2, b2) := e3
  rw [e1]
  simp only [Option.bind_some]
  refine Exists.elim (α := Gl1Cur) (p := fun d => ∃ l, ((s_l1Cur_one (d1.1, d1.2.1, d1.2.2.1, ()) 20).bind fun r7 =>
    bif r7.2 then
      (s_l1Cur_pick r7.1 2).bind fun r8 =>
      (s_l1Cur_pick r8.1 2).bind fun r9 =>
      (loopE (fF (w64 ((w64 (20 - r8.2)) + r9.2))) (r9.1.1, r9.1.2.1, r9.1.2.2.1, [])).bind fun o12 =>
      some (o12.1, o12.2.1, o12.2.2.1, o12.2.2.2)
    else
      some (r7.1.1, r7.1.2.1, r7.1.2.2.1, l1)) = some (d.1, d.2.1, d.2.2.1, l) ∧ Ok d ∧ d.2.1 ≤ c.2.1 + 51000000000000010 ∧ Drawn0 l) ?_ ?_
  · rw [e3']
    simp only [Option.bind_some]
    cases b2 with
    | false => exact ⟨d2, l1, rfl, o2, by omega, are_drawn g1⟩
    | true =>
      obtain ⟨d3, n3, e4, o3, a3, q3⟩ := dk_pick (n := 2) o2 (by omega) (by omega)
      obtain ⟨d4, n4, e5, o4, a4, q4⟩ := dk_pick (n := 2) o3 (by omega) (by omega)
      simp only [cond_true, e4, e5, Option.bind_some]
      rw [w64_of (x := 20 - n3) (by omega) (by omega), w64_of (by omega) (by omega)]
      obtain ⟨l, e6, hd⟩ := f_loop (n := 20 - n3 + n4) (by omega) d4 30 [] (by simp; omega) (by simp) Drawn0.nil
      rw [e6]
      exact ⟨d4, l, rfl, o4, by omega, hd⟩
  intro d ⟨l, e4, od, ad, hd⟩
  refine Exists.elim (⟨_, rfl⟩ : ∃ z, z = ((d.1, d.2.1, d.2.2.1, l) : (List Int) × Int × Int × List GTicket)) fun z hz => ?_
  have key : Dk (bif (decide (0 < (l.length : Int))) then
    (s_l1Cur_pick (d.1, d.2.1, d.2.2.1, ()) (l.length : Int)).bind fun r14 =>
    bif decide (0 ≤ r14.2) && decide (r14.2 < (l.length : Int)) then
      (s_l1Cur_pick r14.1 30).bind fun r15 =>
      bif (decide (r15.2 = 0)) then
        (s_l1Cur_among r15.1 [0, 999, 1000]).bind fun r16 =>
        (l[(Int.toNat r14.2)]?).bind fun e17 =>
        some (r16.1, (l.set (Int.toNat r14.2) (r16.2, e17.2)))
      else
        bif (decide (r15.2 = 1)) then
          (s_l1Cur_among r15.1 [0, 9, 10]).bind fun r18 =>
          (l[(Int.toNat r14.2)]?).bind fun e19 =>
          some (r18.1, (l.set (Int.toNat r14.2) (e19.1, r18.2, e19.2.2)))
        else
          bif (decide (r15.2 = 2)) then
            (l[(Int.toNat r14.2)]?).bind fun e20 =>
            (l[(Int.toNat r14.2)]?).bind fun e21 =>
            (s_l1Cur_among r15.1 [(-1), 0, e21.2.1]).bind fun r22 =>
            bif decide (List.length e20.2.2.1 + List.length [r22.2] ≤ lim) then
              bothSame (
                bif Nat.beq (Int.toNat r14.2) (Int.toNat r14.2) then
                  some (r22.1, (l.set (Int.toNat r14.2) (e20.1, e20.2.1, (e20.2.2.1 ++ [r22.2]), e20.2.2.2)))
                else
                  none)
              (
                (l[(Int.toNat r14.2)]?).bind fun e23 =>
                some (r22.1, (l.set (Int.toNat r14.2) (e23.1, e23.2.1, (e20.2.2.1 ++ [r22.2]), e23.2.2.2))))
            else
              none
          else
            bif (decide (r15.2 = 3)) then
              (s_l1Cur_pick r15.1 5).bind fun r24 =>
              (l[(Int.toNat r14.2)]?).bind fun e25 =>
              some (r24.1, (l.set (Int.toNat r14.2) (e25.1, e25.2.1, e25.2.2.1, (w64 (r24.2 - 1)), ())))
            else
              some (r15.1, l)
    else
      none
  else
    some ((d.1, d.2.1, d.2.2.1, ()), l)) c 52000000000000000 (fun l => l.length ≤ 100 ∧ ∀ x ∈ l, x.2.2.1.length ≤ 101) := by
    have hl := hd.len
    by_cases h0 : 0 < (l.length : Int)
    · rw [dec_t h0]
      obtain ⟨d5, n5, e5, o5, a5, q5⟩ := dk_pick (n := (l.length : Int)) od (by omega) h0
      have e5' : s_l1Cur_pick (d.1, d.2.1, d.2.2.1, ()) (l.length : Int) = some (d5, n5) := e5
      obtain ⟨d6, n6, e6, o6, a6, q6⟩ := dk_pick (n := 30) o5 (by omega) (by omega)
      obtain ⟨i, rfl⟩ : ∃ i : Nat, n5 = (i : Int) := ⟨n5.toNat, by omega⟩
      have hi : i < l.length := by omega
      have ex : l[i]? = some l[i] := by simp [hi]
      have hg := hd.got _ (List.getElem_mem hi)
      generalize l[i] = x at ex hg
      have fin : ∀ y : GTicket, y.2.2.1.length ≤ 101 → (l.set i y).length ≤ 100 ∧ ∀ x ∈ l.set i y, x.2.2.1.length ≤ 101 := fun y hy => ⟨by rw [List.length_set]; exact hl, fun x hx => by
        rcases List.mem_or_eq_of_mem_set hx with hx | rfl
        · have := hd.got x hx; omega
        · exact hy⟩
      simp only [cond_true, e5', Option.bind_some]
      rw [dec_t q5.1, dec_t q5.2]
      simp only [Bool.and_self, cond_true, e6, Option.bind_some, Int.toNat_natCast, ex]
      by_cases z0 : n6 = 0
      · rw [dec_t z0]
        obtain ⟨d7, n7, e7, o7, a7, _⟩ := dk_among (l := [0, 999, 1000]) o6 (by omega) (by simp)
        simp only [cond_true, e7, Option.bind_some]
        exact ⟨d7, _, rfl, o7, by omega, fin _ (by show x.2.2.1.length ≤ 101; omega)⟩
      by_cases z1 : n6 = 1
      · rw [dec_f z0, dec_t z1]
        obtain ⟨d7, n7, e7, o7, a7, _⟩ := dk_among (l := [0, 9, 10]) o6 (by omega) (by simp)
        simp only [cond_true, cond_false, e7, Option.bind_some]
        exact ⟨d7, _, rfl, o7, by omega, fin _ (by show x.2.2.1.length ≤ 101; omega)⟩
      by_cases z2 : n6 = 2
      · rw [dec_f z0, dec_f z1, dec_t z2]
        obtain ⟨d7, n7, e7, o7, a7, _⟩ := dk_among (l := [(-1), 0, x.2.1]) o6 (by omega) (by simp)
        simp only [cond_true, cond_false, e7, Option.bind_some]
        rw [lim1 (by omega)]
        have hbq : Nat.beq i i = true := by simp
        simp only [cond_true, hbq, bothSame_self]
        exact ⟨d7, _, rfl, o7, by omega, fin _ (by show (x.2.2.1 ++ [n7]).length ≤ 101; simp; omega)⟩
      by_cases z3 : n6 = 3
      · rw [dec_f z0, dec_f z1, dec_f z2, dec_t z3]
        obtain ⟨d7, n7, e7, o7, a7, _⟩ := dk_pick (n := 5) o6 (by omega) (by omega)
        simp only [cond_true, cond_false, e7, Option.bind_some]
        exact ⟨d7, _, rfl, o7, by omega, fin _ (by show x.2.2.1.length ≤ 101; omega)⟩
      · rw [dec_f z0, dec_f z1, dec_f z2, dec_f z3]
        exact ⟨d6, _, rfl, o6, by omega, hl, fun x hx => by have := hd.got x hx; omega⟩
    · rw [dec_f h0]
      exact ⟨d, l, rfl, od, by omega, hl, fun x hx => by have := hd.got x hx; omega⟩
  clear hz z
  obtain ⟨d9, l9, k1, k2, k3, k4⟩ := key
  refine ⟨d9, l9, ?_, k2, k3, ⟨k4.1, k4.2⟩⟩
  refine bind_eq e2' ?_
  refine bind_eq e4 ?_
  exact k1

theorem dk_message {c : Gl1Cur} (h : Ok c) (hb : c.2.1 + 10 ≤ 2305843009213693952) (l : List GTicket) : Dk (s_l1Cur_deskMessage c l) c 4 (fun _ => True) := by
  unfold s_l1Cur_deskMessage
  obtain ⟨d1, b1, e1, o1, a1, _⟩ := dk_one (n := 4) h (by omega) (by omega)
  obtain ⟨d3, n3, e3, o3, a3, _⟩ := dk_among (l := [1, 7, 500, 999, 0, 1000]) o1 (by omega) (by simp)
  obtain ⟨d4, n4, e4, o4, a4, _⟩ := dk_among (l := [1, 7, 500, 999, 0, 1000]) h (by omega) (by simp)
  by_cases h0 : 0 < (l.length : Int)
  · rw [dec_t h0]
    obtain ⟨d2, n2, e2, o2, a2, q2⟩ := dk_pick (n := (l.length : Int)) o1 (by omega) h0
    simp only [cond_true, e1, Option.bind_some]
    cases b1 with
    | true =>
      simp only [Bool.not_true, cond_false, e3, Option.bind_some]
      exact ⟨d3, _, rfl, o3, by omega, trivial⟩
    | false =>
      obtain ⟨i, rfl⟩ : ∃ i : Nat, n2 = (i : Int) := ⟨n2.toNat, by omega⟩
      have ex : l[i]? = some (l[i]'(by omega)) := by simp [show i < l.length by omega]
      simp only [Bool.not_false, cond_true, e2, Option.bind_some, idx_get, ex]
      exact ⟨d2, _, rfl, o2, by omega, trivial⟩
  · rw [dec_f h0]
    simp only [cond_false, e4, Option.bind_some]
    exact ⟨d4, _, rfl, o4, by omega, trivial⟩

theorem go0 {code : List Int} (h : ∀ b ∈ code, 0 ≤ b ∧ b ≤ 255) (hl : code.length ≤ 1048576) : Ok ((code, 0, 0, ()) : Gl1Cur) := ⟨h, hl, Int.le_refl _, by show (0 : Int) ≤ _; omega⟩
theorem draw_note {code : List Int} (h : ∀ b ∈ code, 0 ≤ b ∧ b ≤ 255) (hl : code.length ≤ 1048576) : ∃ l m p, s_DrawNoteArrival code = some (l, m, p) ∧ Drawn l := by
  have z : (((code, 0, 0, ()) : Gl1Cur)).2.1 = 0 := rfl
  obtain ⟨d1, l, e1, o1, a1, hd⟩ := dk_tickets (go0 h hl) (by rw [z]; omega)
  rw [z] at a1
  obtain ⟨d2, m, e2, o2, a2, _⟩ := dk_message o1 (by omega) l
  obtain ⟨d3, p, e3, _, _, _⟩ := dk_among (l := [0, 1, 2, 3, 9, (-1)]) o2 (by omega) (by simp)
  exact ⟨l, m, p, by unfold s_DrawNoteArrival; rw [e1]; simp only [Option.bind_some, e2, e3], hd⟩
theorem draw_accept {code : List Int} (h : ∀ b ∈ code, 0 ≤ b ∧ b ≤ 255) (hl : code.length ≤ 1048576) : ∃ l m p, s_DrawAcceptMessage code = some (l, m, p) ∧ Drawn l := by
  have z : (((code, 0, 0, ()) : Gl1Cur)).2.1 = 0 := rfl
  obtain ⟨d1, l, e1, o1, a1, hd⟩ := dk_tickets (go0 h hl) (by rw [z]; omega)
  rw [z] at a1
  obtain ⟨d2, m, e2, o2, a2, _⟩ := dk_message o1 (by omega) l
  obtain ⟨d3, b, e3, o3, a3, _⟩ := dk_one (n := 2) o2 (by omega) (by omega)
  unfold s_DrawAcceptMessage
  rw [e1]
  simp only [Option.bind_some, e2, e3]
  cases b with
  | true =>
    obtain ⟨d4, n4, e4, o4, a4, _⟩ := dk_pick (n := 999) o3 (by omega) (by omega)
    obtain ⟨d5, n5, e5, o5, a5, _⟩ := dk_among (l := [0, 10]) o4 (by omega) (by simp)
    obtain ⟨d6, n6, e6, _, _, _⟩ := dk_among (l := [1, 3, 9, n5]) o5 (by omega) (by simp)
    simp only [cond_true, e4, e5, e6, Option.bind_some]
    exact ⟨l, _, _, rfl, hd⟩
  | false =>
    obtain ⟨d5, n5, e5, o5, a5, _⟩ := dk_among (l := [0, 10]) o3 (by omega) (by simp)
    obtain ⟨d6, n6, e6, _, _, _⟩ := dk_among (l := [1, 3, 9, n5]) o5 (by omega) (by simp)
    simp only [cond_false, e5, e6, Option.bind_some]
    exact ⟨l, _, _, rfl, hd⟩
theorem draw_give {code : List Int} (h : ∀ b ∈ code, 0 ≤ b ∧ b ≤ 255) (hl : code.length ≤ 1048576) : ∃ l m, s_DrawGiveUp code = some (l, m) ∧ Drawn l := by
  have z : (((code, 0, 0, ()) : Gl1Cur)).2.1 = 0 := rfl
  obtain ⟨d1, l, e1, o1, a1, hd⟩ := dk_tickets (go0 h hl) (by rw [z]; omega)
  rw [z] at a1
  obtain ⟨d2, m, e2, o2, a2, _⟩ := dk_message o1 (by omega) l
  exact ⟨l, m, by unfold s_DrawGiveUp; rw [e1]; simp only [Option.bind_some, e2], hd⟩
theorem draw_are {code : List Int} (h : ∀ b ∈ code, 0 ≤ b ∧ b ≤ 255) (hl : code.length ≤ 1048576) : ∃ l, s_DrawAreTickets code = some l ∧ Drawn l := by
  have z : (((code, 0, 0, ()) : Gl1Cur)).2.1 = 0 := rfl
  obtain ⟨d1, l, e1, o1, a1, hd⟩ := dk_tickets (go0 h hl) (by rw [z]; omega)
  exact ⟨l, by unfold s_DrawAreTickets; rw [e1]; rfl, hd⟩
theorem draw_run {code : List Int} (h : ∀ b ∈ code, 0 ≤ b ∧ b ≤ 255) (hl : code.length ≤ 1048576) : ∃ l ms, s_DrawRunDesk code = some (l, ms) ∧ Drawn l ∧ ms.length ≤ 61 := by
  have z : (((code, 0, 0, ()) : Gl1Cur)).2.1 = 0 := rfl
  obtain ⟨d1, l, e1, o1, a1, hd⟩ := dk_tickets (go0 h hl) (by rw [z]; omega)
  rw [z] at a1
  obtain ⟨d2, b, e2, o2, a2, _⟩ := dk_one (n := 2) o1 (by omega) (by omega)
  obtain ⟨d3, ms, e3, _, _, hm⟩ := dk_moves o2 (by omega)
  unfold s_DrawRunDesk
  rw [e1]
  simp only [Option.bind_some, e2]
  cases b with
  | true => simp only [cond_true, e3, Option.bind_some]; exact ⟨[], ms, rfl, ⟨by simp, fun x hx => by cases hx⟩, hm⟩
  | false => simp only [cond_false, e3, Option.bind_some]; exact ⟨l, ms, rfl, hd, hm⟩
end Go.Proofs.YthgnllgpdheidaaGreatDoor.Sh
