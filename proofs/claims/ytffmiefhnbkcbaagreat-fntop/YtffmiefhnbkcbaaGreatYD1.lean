/-
  Plain facts, over this seat.
-/
import Derived.Test.YtffmiefhnbkcbaaGreatYP1
namespace Go.Proofs.YtffmiefhnbkcbaaGreat.Sh
open Go Go.Ab
set_option maxRecDepth 100000
structure Ok (c : Gl1Cur) : Prop where
  by_ : ∀ b ∈ c.1, 0 ≤ b ∧ b ≤ 255
  len : c.1.length ≤ 1048576
  at0 : 0 ≤ c.2.1
  at1 : c.2.1 ≤ 2305843009213693952
def byteAt (c : Gl1Cur) : Int := c.1.getD c.2.1.toNat 0
def seedTo (c : Gl1Cur) : Int := (c.2.2.1 * 6364136223846793005 + (if c.2.1 < (c.1.length : Int) then byteAt c else 0) + 1442695040888963407) % 18446744073709551616
def nx (c : Gl1Cur) : Gl1Cur × Int := ((c.1, c.2.1 + 1, seedTo c, ()), if c.2.1 < (c.1.length : Int) then byteAt c else (seedTo c / 1099511627776) % 256)
theorem byteAt_in {c : Gl1Cur} (h : Ok c) (hl : c.2.1 < (c.1.length : Int)) : idx c.1 c.2.1 = some (byteAt c) ∧ 0 ≤ byteAt c ∧ byteAt c ≤ 255 := by
  have h0 := h.at0
  have hn : c.2.1.toNat < c.1.length := by omega
  have e : byteAt c = c.1[c.2.1.toNat] := by unfold byteAt; rw [List.getD_eq_getElem?_getD, List.getElem?_eq_getElem hn]; rfl
  refine ⟨?_, ?_⟩
  · unfold idx
    rw [if_neg (by omega), List.getElem?_eq_getElem hn, e]
  · rw [e]; exact h.by_ _ (List.getElem_mem hn)
theorem nx_byte {c : Gl1Cur} (h : Ok c) : 0 ≤ (nx c).2 ∧ (nx c).2 ≤ 255 := by
  unfold nx
  simp only
  split
  · rename_i hl; exact (byteAt_in h hl).2
  · omega
theorem nx_ok {c : Gl1Cur} (h : Ok c) (hb : c.2.1 < 2305843009213693952) : Ok (nx c).1 := ⟨h.by_, h.len, by have := h.at0; show 0 ≤ c.2.1 + 1; omega, by show c.2.1 + 1 ≤ _; omega⟩
theorem u64_wrap (x : Int) : IntKind.u64.wrap x = x % 18446744073709551616 := by
  simp [IntKind.wrap, IntKind.signed, IntKind.bits]
theorem wrap3 (s b : Int) : IntKind.u64.wrap (IntKind.u64.wrap (IntKind.u64.wrap (s * 6364136223846793005) + IntKind.u64.wrap b) + 1442695040888963407) = (s * 6364136223846793005 + b + 1442695040888963407) % 18446744073709551616 := by
  simp only [u64_wrap]; omega
theorem and255 (x : Int) (h0 : 0 ≤ x) (h1 : x < 18446744073709551616) : w64 (bitsI .and .u64 (shiftI .shr .u64 x 40) 255) = (x / 1099511627776) % 256 := by
  unfold bitsI shiftI
  have e1 : x.fdiv (2 ^ (min (40 : Int).toNat IntKind.u64.bits)) = x / 1099511627776 := by
    rw [Int.fdiv_eq_ediv_of_nonneg _ (by decide)]
    rfl
  simp only [e1]
  have hq0 : 0 ≤ x / 1099511627776 := by omega
  have hq1 : x / 1099511627776 < 16777216 := by omega
  generalize x / 1099511627776 = q at hq0 hq1
  obtain ⟨n, rfl⟩ := Int.eq_ofNat_of_zero_le hq0
  have hn : n < 16777216 := by omega
  have e2 : (BitVec.ofInt IntKind.u64.bits (n : Int) &&& BitVec.ofInt IntKind.u64.bits 255).toNat = n % 256 := by
    rw [BitVec.toNat_and]
    have a1 : (BitVec.ofInt IntKind.u64.bits (n : Int)).toNat = n := by
      rw [BitVec.ofInt_natCast, BitVec.toNat_ofNat]
      exact Nat.mod_eq_of_lt (by show n < 2 ^ 64; omega)
    have a2 : (BitVec.ofInt IntKind.u64.bits 255).toNat = 255 := by rfl
    rw [a1, a2]
    exact Nat.and_two_pow_sub_one_eq_mod n 8
  rw [e2, u64_wrap, w64_of (by omega) (by omega)]
  omega
theorem d_next {c : Gl1Cur} (h : Ok c) (hb : c.2.1 < 2305843009213693952) : s_l1Cur_next c = some (nx c) := by
  obtain ⟨code, at_, seed, u⟩ := c
  unfold s_l1Cur_next nx
  have h0 := h.at0
  simp only at h0 hb
  have hs : 0 ≤ seedTo (code, at_, seed, u) ∧ seedTo (code, at_, seed, u) < 18446744073709551616 := by unfold seedTo; omega
  by_cases hl : at_ < (code.length : Int)
  · obtain ⟨e1, e2, e3⟩ := byteAt_in h hl
    simp only at e1
    simp only [dec_t hl, cond_true, e1, Option.bind_some, w64_of (x := byteAt (code, at_, seed, u)) (by omega) (by omega), w64_of (x := at_ + 1) (by omega) (by omega), dec_t (by omega : at_ + 1 ≤ (code.length : Int)), wrap3]
    unfold seedTo
    simp only [if_pos hl]
  · simp only [dec_f hl, cond_false, Option.bind_some, w64_of (x := at_ + 1) (by omega) (by omega), dec_f (by omega : ¬ at_ + 1 ≤ (code.length : Int)), wrap3, if_neg hl]
    have e : (seed * 6364136223846793005 + 0 + 1442695040888963407) % 18446744073709551616 = seedTo (code, at_, seed, u) := by unfold seedTo; simp only [if_neg hl]
    rw [e, and255 _ hs.1 hs.2]
def N : Nat → Gl1Cur → Gl1Cur
  | 0, c => c
  | k + 1, c => (nx (N k c)).1
theorem N_code (k : Nat) (c : Gl1Cur) : (N k c).1 = c.1 := by
  induction k with
  | zero => rfl
  | succ k ih => exact ih
theorem N_at (k : Nat) (c : Gl1Cur) : (N k c).2.1 = c.2.1 + (k : Int) := by
  induction k with
  | zero => simp [N]
  | succ k ih => show (N k c).2.1 + 1 = _; rw [ih]; omega
theorem N_ok {c : Gl1Cur} (h : Ok c) {k : Nat} (hb : c.2.1 + (k : Int) ≤ 2305843009213693952) : Ok (N k c) :=
  ⟨by rw [N_code]; exact h.by_, by rw [N_code]; exact h.len, by have := h.at0; rw [N_at]; omega, by rw [N_at]; exact hb⟩
theorem N_add (k j : Nat) (c : Gl1Cur) : N k (N j c) = N (j + k) c := by
  induction k with
  | zero => rfl
  | succ k ih => show (nx (N k (N j c))).1 = (nx (N (j + k) c)).1; rw [ih]
def pk (c : Gl1Cur) (n : Int) : Gl1Cur × Int := if n ≤ 1 then (c, 0) else if 200 < n then (N 2 c, ((nx c).2 * 256 + (nx (N 1 c)).2) % n) else (N 1 c, (nx c).2 % n)
theorem s_pick {c : Gl1Cur} (h : Ok c) (hb : c.2.1 + 2 ≤ 2305843009213693952) (n : Int) : s_l1Cur_pick c n = some (pk c n) := by
  unfold s_l1Cur_pick pk
  by_cases h1 : n ≤ 1
  · rw [dec_t h1, if_pos h1]; rfl
  rw [dec_f h1, if_neg h1, d_next h (by omega)]
  have hx := nx_byte h
  simp only [cond_false, Option.bind_some]
  by_cases h2 : 200 < n
  · have ho := nx_ok h (by omega)
    have hy := nx_byte ho
    rw [dec_t h2, if_pos h2, d_next ho (by show c.2.1 + 1 < _; omega)]
    simp only [cond_true, Option.bind_some, dec_f (by omega : ¬ n = 0), Bool.not_false]
    rw [w64_of (x := (nx c).2 * 256) (by omega) (by omega), w64_of (by omega) (by omega), Int.tmod_eq_emod_of_nonneg (by omega)]
    rfl
  · rw [dec_f h2, if_neg h2]
    simp only [cond_false, cond_true, dec_f (by omega : ¬ n = 0), Bool.not_false]
    rw [Int.tmod_eq_emod_of_nonneg (by omega)]
    rfl
theorem pk_range {c : Gl1Cur} {n : Int} (hn : 0 < n) : 0 ≤ (pk c n).2 ∧ (pk c n).2 < n := by
  unfold pk
  split
  · exact ⟨Int.le_refl _, hn⟩
  · split
    · exact ⟨Int.emod_nonneg _ (by omega), Int.emod_lt_of_pos _ hn⟩
    · exact ⟨Int.emod_nonneg _ (by omega), Int.emod_lt_of_pos _ hn⟩
def Goes {α : Type} (m : Option (Gl1Cur × α)) (c : Gl1Cur) (k : Nat) (Q : α → Prop) : Prop := ∃ j v, m = some (N j c, v) ∧ j ≤ k ∧ Q v
theorem Goes.bind {α β : Type} {m : Option (Gl1Cur × α)} {c : Gl1Cur} {k k2 : Nat} {Q : α → Prop} {Q2 : β → Prop} {f : Gl1Cur × α → Option (Gl1Cur × β)} (h : Goes m c k Q) (h2 : ∀ j v, j ≤ k → Q v → Goes (f (N j c, v)) (N j c) k2 Q2) : Goes (m.bind f) c (k + k2) Q2 := by
  obtain ⟨j, v, rfl, hj, hv⟩ := h
  obtain ⟨j2, v2, e, hj2, hv2⟩ := h2 j v hj hv
  exact ⟨j + j2, v2, by rw [← N_add]; exact e, by omega, hv2⟩
theorem Goes.ret {α : Type} {c : Gl1Cur} {v : α} {Q : α → Prop} (h : Q v) : Goes (some (c, v)) c 0 Q := ⟨0, v, rfl, Nat.le_refl _, h⟩
theorem Goes.mono {α : Type} {m : Option (Gl1Cur × α)} {c : Gl1Cur} {k k2 : Nat} {Q Q2 : α → Prop} (h : Goes m c k Q) (hk : k ≤ k2) (hQ : ∀ v, Q v → Q2 v) : Goes m c k2 Q2 := by
  obtain ⟨j, v, e, hj, hv⟩ := h
  exact ⟨j, v, e, by omega, hQ v hv⟩
end Go.Proofs.YtffmiefhnbkcbaaGreat.Sh
namespace Go.Proofs.YtffmiefhnbkcbaaGreat.Sh
open Go Go.Ab
set_option maxRecDepth 100000
theorem meas_loop {σ ρ : Type} {f : σ → Option (σ ⊕ ρ)} (I : Nat → σ → Prop) (Q : ρ → Prop) (step : ∀ n s, I n s → (∃ r, f s = some (.inr r) ∧ Q r) ∨ (∃ m s', m < n ∧ f s = some (.inl s') ∧ I m s')) : ∀ n s, I n s → ∃ r, loopE f s = some r ∧ Q r := by
  intro n
  induction n using Nat.strongRecOn with
  | ind n ih =>
    intro s h
    rcases step n s h with ⟨r, h1, h2⟩ | ⟨m, s', h1, h2, h3⟩
    · exact ⟨r, loopE_done h1, h2⟩
    · obtain ⟨r, a, b⟩ := ih m h1 s' h3
      exact ⟨r, (loopE_step h2).trans a, b⟩
end Go.Proofs.YtffmiefhnbkcbaaGreat.Sh
namespace Go.Proofs.YtffmiefhnbkcbaaGreat.Sh
open Go Go.Ab Go.Proofs
set_option maxRecDepth 100000
def To {α : Type} (m : Option α) (Q : α → Prop) : Prop := ∃ r, m = some r ∧ Q r
theorem To.bind {α β : Type} {m : Option α} {f : α → Option β} {Q : α → Prop} {R : β → Prop} (h : To m Q) (k : ∀ r, Q r → To (f r) R) : To (m.bind f) R := by
  obtain ⟨r, rfl, hr⟩ := h; exact k r hr
theorem To.ret {α : Type} {r : α} {Q : α → Prop} (h : Q r) : To (some r) Q := ⟨r, rfl, h⟩
theorem To.mono {α : Type} {m : Option α} {Q R : α → Prop} (h : To m Q) (k : ∀ r, Q r → R r) : To m R := by
  obtain ⟨r, e, hr⟩ := h; exact ⟨r, e, k r hr⟩
theorem To.cond {α : Type} {b : Bool} {x y : Option α} {Q : α → Prop} (h1 : To x Q) (h2 : To y Q) : To (bif b then x else y) Q := by cases b <;> assumption
theorem To.ite {α : Type} {p : Prop} [Decidable p] {x y : Option α} {Q : α → Prop} (h1 : p → To x Q) (h2 : ¬ p → To y Q) : To (bif decide p then x else y) Q := by
  by_cases h : p
  · rw [dec_t h]; exact h1 h
  · rw [dec_f h]; exact h2 h
theorem To.guard {α : Type} {p : Prop} [Decidable p] {x : Option α} {Q : α → Prop} (hp : p) (h : To x Q) : To (bif decide p then x else none) Q := by rw [dec_t hp]; exact h
theorem To.guard2 {α : Type} {p q : Prop} [Decidable p] [Decidable q] {x : Option α} {Q : α → Prop} (hp : p) (hq : q) (h : To x Q) : To (bif decide p && decide q then x else none) Q := by rw [dec_t hp, dec_t hq]; exact h
theorem To.at_ {α β : Type} {l : List α} {v : Int} {f : α → Option β} {Q : β → Prop} (h0 : 0 ≤ v) (h1 : v < (l.length : Int)) (k : ∀ e, e ∈ l → To (f e) Q) : To ((l[Int.toNat v]?).bind f) Q := by
  have h : v.toNat < l.length := by omega
  rw [List.getElem?_eq_getElem h]
  exact k _ (List.getElem_mem h)
theorem To.idx {α β : Type} {l : List α} {v : Int} {f : α → Option β} {Q : β → Prop} (h0 : 0 ≤ v) (h1 : v < (l.length : Int)) (k : ∀ e, e ∈ l → To (f e) Q) : To ((idx l v).bind f) Q := by
  unfold Go.Ab.idx
  rw [if_neg (by omega)]
  exact To.at_ h0 h1 k
def Turn {σ ρ : Type} (I : Nat → σ → Prop) (Q : ρ → Prop) (n : Nat) : σ ⊕ ρ → Prop
  | .inl s => ∃ m, m < n ∧ I m s
  | .inr r => Q r
theorem Turn.on {σ ρ : Type} {I : Nat → σ → Prop} {Q : ρ → Prop} {n : Nat} {s : σ} (m : Nat) (h : m < n) (h2 : I m s) : Turn I Q n (.inl s) := ⟨m, h, h2⟩
theorem Turn.end_ {σ ρ : Type} {I : Nat → σ → Prop} {Q : ρ → Prop} {n : Nat} {r : ρ} (h : Q r) : Turn I Q n (.inr r) := h
theorem To.loop {σ ρ : Type} {f : σ → Option (σ ⊕ ρ)} (I : Nat → σ → Prop) {Q : ρ → Prop} {n : Nat} {s : σ} (h : I n s) (step : ∀ n s, I n s → To (f s) (Turn I Q n)) : To (loopE f s) Q := by
  refine meas_loop I Q (fun n s hI => ?_) n s h
  obtain ⟨r, e, ht⟩ := step n s hI
  cases r with
  | inl s' => obtain ⟨m, h1, h2⟩ := ht; exact .inr ⟨m, s', h1, e, h2⟩
  | inr r => exact .inl ⟨r, e, ht⟩
structure At (c : Gl1Cur) (n : Nat) : Prop where
  ok : Ok c
  le : c.2.1 ≤ (n : Int)
theorem At.mono {c : Gl1Cur} {n m : Nat} (h : At c n) (hm : n ≤ m) : At c m := ⟨h.ok, by have := h.le; omega⟩
theorem pk_low {c : Gl1Cur} {n : Int} : 0 ≤ (pk c n).2 := by
  unfold pk
  split
  · exact Int.le_refl _
  · split
    · exact Int.emod_nonneg _ (by omega)
    · exact Int.emod_nonneg _ (by omega)
theorem pk_cur (c : Gl1Cur) (n : Int) : ∃ j, j ≤ 2 ∧ (pk c n).1 = N j c := by
  unfold pk
  split
  · exact ⟨0, by omega, rfl⟩
  · split
    · exact ⟨2, by omega, rfl⟩
    · exact ⟨1, by omega, rfl⟩
theorem t_pick {c : Gl1Cur} {n : Nat} (h : At c n) (hn : n ≤ 1000000000) (m : Int) : To (s_l1Cur_pick c m) (fun r => At r.1 (n + 2) ∧ 0 ≤ r.2 ∧ (0 < m → r.2 < m)) := by
  have h1 := h.le
  have h0 := h.ok.at0
  refine ⟨_, s_pick h.ok (by omega) m, ?_, pk_low, fun hm => (pk_range hm).2⟩
  obtain ⟨j, hj, e⟩ := pk_cur c m
  rw [e]
  exact ⟨N_ok h.ok (by omega), by rw [N_at]; omega⟩
theorem t_one {c : Gl1Cur} {n : Nat} (h : At c n) (hn : n ≤ 1000000000) (m : Int) : To (s_l1Cur_one c m) (fun r => At r.1 (n + 2)) := by
  unfold s_l1Cur_one
  exact (t_pick h hn m).bind fun r hr => .ret hr.1
theorem t_among {c : Gl1Cur} {n : Nat} (h : At c n) (hn : n ≤ 1000000000) {l : List Int} (hl : 0 < l.length) : To (s_l1Cur_among c l) (fun r => At r.1 (n + 2) ∧ r.2 ∈ l) := by
  unfold s_l1Cur_among
  refine (t_pick h hn _).bind fun r hr => To.idx hr.2.1 (hr.2.2 (by omega)) fun e he => .ret ⟨hr.1, he⟩
end Go.Proofs.YtffmiefhnbkcbaaGreat.Sh
