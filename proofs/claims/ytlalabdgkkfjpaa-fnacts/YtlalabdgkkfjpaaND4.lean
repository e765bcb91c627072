/-
  Plain facts, over this seat.
-/
import Derived.Test.YtlalabdgkkfjpaaNP2
namespace Go.Proofs.Ytlalabdgkkfjpaa.Sh
open Go Go.Ab
set_option maxRecDepth 100000
structure Ok (c : Gl1Cur) : Prop where
  by_ : ∀ b ∈ c.1, 0 ≤ b ∧ b ≤ 255
  len : c.1.length ≤ 1048576
  at0 : 0 ≤ c.2.1
  at1 : c.2.1 ≤ 2305843009213693952
def byteAt (c : Gl1Cur) : Int := c.1.getD c.2.1.toNat 0
def seedTo (c : Gl1Cur) : Int := (c.2.2.1 * 6364136223846793005 + (if c.2.1 < (c.1.length : Int) then byteAt c else 0) + 1442695040888963407) % 18446744073709551616
def nx (c : Gl1Cur) : Gl1Cur × Int := ((c.1, c.2.1 + 1, seedTo c, ()), if c.2.1 < (c.1.length : Int) then byteAt c else (seedTo c / 1099511627776) % 256)
theorem byteAt_in {c : Gl1Cur} (h : Ok c) (hl : c.2.1 < (c.1.length : Int)) : idx c.1 c.2.1 = some (byteAt c) ∧ 0 ≤ byteAt c ∧ byteAt c ≤ 255 := by
  have h0 := h.at0
  have hn : c.2.1.toNat < c.1.length := by omega
  have e : byteAt c = c.1[c.2.1.toNat] := by unfold byteAt; rw [List.getD_eq_getElem?_getD, List.getElem?_eq_getElem hn]; rfl
  refine ⟨?_, ?_⟩
  · unfold idx
    rw [if_neg (by omega), List.getElem?_eq_getElem hn, e]
  · rw [e]; exact h.by_ _ (List.getElem_mem hn)
theorem nx_byte {c : Gl1Cur} (h : Ok c) : 0 ≤ (nx c).2 ∧ (nx c).2 ≤ 255 := by
  unfold nx
  simp only
  split
  · rename_i hl; exact (byteAt_in h hl).2
  · omega
theorem nx_ok {c : Gl1Cur} (h : Ok c) (hb : c.2.1 < 2305843009213693952) : Ok (nx c).1 := ⟨h.by_, h.len, by have := h.at0; show 0 ≤ c.2.1 + 1; omega, by show c.2.1 + 1 ≤ _; omega⟩
theorem u64_wrap (x : Int) : IntKind.u64.wrap x = x % 18446744073709551616 := by
  simp [IntKind.wrap, IntKind.signed, IntKind.bits]
theorem wrap3 (s b : Int) : IntKind.u64.wrap (IntKind.u64.wrap (IntKind.u64.wrap (s * 6364136223846793005) + IntKind.u64.wrap b) + 1442695040888963407) = (s * 6364136223846793005 + b + 1442695040888963407) % 18446744073709551616 := by
  simp only [u64_wrap]; omega
theorem and255 (x : Int) (h0 : 0 ≤ x) (h1 : x < 18446744073709551616) : w64 (bitsI .and .u64 (shiftI .shr .u64 x 40) 255) = (x / 1099511627776) % 256 := by
  unfold bitsI shiftI
  have e1 : x.fdiv (2 ^ (min (40 : Int).toNat IntKind.u64.bits)) = x / 1099511627776 := by
    rw [Int.fdiv_eq_ediv_of_nonneg _ (by decide)]
    rfl
  simp only [e1]
  have hq0 : 0 ≤ x / 1099511627776 := by omega
  have hq1 : x / 1099511627776 < 16777216 := by omega
  generalize x / 1099511627776 = q at hq0 hq1
  obtain ⟨n, rfl⟩ := Int.eq_ofNat_of_zero_le hq0
  have hn : n < 16777216 := by omega
  have e2 : (BitVec.ofInt IntKind.u64.bits (n : Int) &&& BitVec.ofInt IntKind.u64.bits 255).toNat = n % 256 := by
    rw [BitVec.toNat_and]
    have a1 : (BitVec.ofInt IntKind.u64.bits (n : Int)).toNat = n := by
      rw [BitVec.ofInt_natCast, BitVec.toNat_ofNat]
      exact Nat.mod_eq_of_lt (by show n < 2 ^ 64; omega)
    have a2 : (BitVec.ofInt IntKind.u64.bits 255).toNat = 255 := by rfl
    rw [a1, a2]
    exact Nat.and_two_pow_sub_one_eq_mod n 8
  rw [e2, u64_wrap, w64_of (by omega) (by omega)]
  omega
theorem d_next {c : Gl1Cur} (h : Ok c) (hb : c.2.1 < 2305843009213693952) : s_l1Cur_next c = some (nx c) := by
  obtain ⟨code, at_, seed, u⟩ := c
  unfold s_l1Cur_next nx
  have h0 := h.at0
  simp only at h0 hb
  have hs : 0 ≤ seedTo (code, at_, seed, u) ∧ seedTo (code, at_, seed, u) < 18446744073709551616 := by unfold seedTo; omega
  by_cases hl : at_ < (code.length : Int)
  · obtain ⟨e1, e2, e3⟩ := byteAt_in h hl
    simp only at e1
    simp only [dec_t hl, cond_true, e1, Option.bind_some, w64_of (x := byteAt (code, at_, seed, u)) (by omega) (by omega), w64_of (x := at_ + 1) (by omega) (by omega), dec_t (by omega : at_ + 1 ≤ (code.length : Int)), wrap3]
    unfold seedTo
    simp only [if_pos hl]
  · simp only [dec_f hl, cond_false, Option.bind_some, w64_of (x := at_ + 1) (by omega) (by omega), dec_f (by omega : ¬ at_ + 1 ≤ (code.length : Int)), wrap3, if_neg hl]
    have e : (seed * 6364136223846793005 + 0 + 1442695040888963407) % 18446744073709551616 = seedTo (code, at_, seed, u) := by unfold seedTo; simp only [if_neg hl]
    rw [e, and255 _ hs.1 hs.2]
def N : Nat → Gl1Cur → Gl1Cur
  | 0, c => c
  | k + 1, c => (nx (N k c)).1
theorem N_code (k : Nat) (c : Gl1Cur) : (N k c).1 = c.1 := by
  induction k with
  | zero => rfl
  | succ k ih => exact ih
theorem N_at (k : Nat) (c : Gl1Cur) : (N k c).2.1 = c.2.1 + (k : Int) := by
  induction k with
  | zero => simp [N]
  | succ k ih => show (N k c).2.1 + 1 = _; rw [ih]; omega
theorem N_ok {c : Gl1Cur} (h : Ok c) {k : Nat} (hb : c.2.1 + (k : Int) ≤ 2305843009213693952) : Ok (N k c) :=
  ⟨by rw [N_code]; exact h.by_, by rw [N_code]; exact h.len, by have := h.at0; rw [N_at]; omega, by rw [N_at]; exact hb⟩
theorem N_add (k j : Nat) (c : Gl1Cur) : N k (N j c) = N (j + k) c := by
  induction k with
  | zero => rfl
  | succ k ih => show (nx (N k (N j c))).1 = (nx (N (j + k) c)).1; rw [ih]
def pk (c : Gl1Cur) (n : Int) : Gl1Cur × Int := if n ≤ 1 then (c, 0) else if 200 < n then (N 2 c, ((nx c).2 * 256 + (nx (N 1 c)).2) % n) else (N 1 c, (nx c).2 % n)
theorem s_pick {c : Gl1Cur} (h : Ok c) (hb : c.2.1 + 2 ≤ 2305843009213693952) (n : Int) : s_l1Cur_pick c n = some (pk c n) := by
  unfold s_l1Cur_pick pk
  by_cases h1 : n ≤ 1
  · rw [dec_t h1, if_pos h1]; rfl
  rw [dec_f h1, if_neg h1, d_next h (by omega)]
  have hx := nx_byte h
  simp only [cond_false, Option.bind_some]
  by_cases h2 : 200 < n
  · have ho := nx_ok h (by omega)
    have hy := nx_byte ho
    rw [dec_t h2, if_pos h2, d_next ho (by show c.2.1 + 1 < _; omega)]
    simp only [cond_true, Option.bind_some, dec_f (by omega : ¬ n = 0), Bool.not_false]
    rw [w64_of (x := (nx c).2 * 256) (by omega) (by omega), w64_of (by omega) (by omega), Int.tmod_eq_emod_of_nonneg (by omega)]
    rfl
  · rw [dec_f h2, if_neg h2]
    simp only [cond_false, cond_true, dec_f (by omega : ¬ n = 0), Bool.not_false]
    rw [Int.tmod_eq_emod_of_nonneg (by omega)]
    rfl
theorem pk_range {c : Gl1Cur} {n : Int} (hn : 0 < n) : 0 ≤ (pk c n).2 ∧ (pk c n).2 < n := by
  unfold pk
  split
  · exact ⟨Int.le_refl _, hn⟩
  · split
    · exact ⟨Int.emod_nonneg _ (by omega), Int.emod_lt_of_pos _ hn⟩
    · exact ⟨Int.emod_nonneg _ (by omega), Int.emod_lt_of_pos _ hn⟩
def Goes {α : Type} (m : Option (Gl1Cur × α)) (c : Gl1Cur) (k : Nat) (Q : α → Prop) : Prop := ∃ j v, m = some (N j c, v) ∧ j ≤ k ∧ Q v
theorem Goes.bind {α β : Type} {m : Option (Gl1Cur × α)} {c : Gl1Cur} {k k2 : Nat} {Q : α → Prop} {Q2 : β → Prop} {f : Gl1Cur × α → Option (Gl1Cur × β)} (h : Goes m c k Q) (h2 : ∀ j v, j ≤ k → Q v → Goes (f (N j c, v)) (N j c) k2 Q2) : Goes (m.bind f) c (k + k2) Q2 := by
  obtain ⟨j, v, rfl, hj, hv⟩ := h
  obtain ⟨j2, v2, e, hj2, hv2⟩ := h2 j v hj hv
  exact ⟨j + j2, v2, by rw [← N_add]; exact e, by omega, hv2⟩
theorem Goes.ret {α : Type} {c : Gl1Cur} {v : α} {Q : α → Prop} (h : Q v) : Goes (some (c, v)) c 0 Q := ⟨0, v, rfl, Nat.le_refl _, h⟩
theorem Goes.mono {α : Type} {m : Option (Gl1Cur × α)} {c : Gl1Cur} {k k2 : Nat} {Q Q2 : α → Prop} (h : Goes m c k Q) (hk : k ≤ k2) (hQ : ∀ v, Q v → Q2 v) : Goes m c k2 Q2 := by
  obtain ⟨j, v, e, hj, hv⟩ := h
  exact ⟨j, v, e, by omega, hQ v hv⟩
end Go.Proofs.Ytlalabdgkkfjpaa.Sh
namespace Go.Proofs.Ytlalabdgkkfjpaa.Sh
open Go Go.Ab
set_option maxRecDepth 100000
theorem meas_loop {σ ρ : Type} {f : σ → Option (σ ⊕ ρ)} (I : Nat → σ → Prop) (Q : ρ → Prop) (step : ∀ n s, I n s → (∃ r, f s = some (.inr r) ∧ Q r) ∨ (∃ m s', m < n ∧ f s = some (.inl s') ∧ I m s')) : ∀ n s, I n s → ∃ r, loopE f s = some r ∧ Q r := by
  intro n
  induction n using Nat.strongRecOn with
  | ind n ih =>
    intro s h
    rcases step n s h with ⟨r, h1, h2⟩ | ⟨m, s', h1, h2, h3⟩
    · exact ⟨r, loopE_done h1, h2⟩
    · obtain ⟨r, a, b⟩ := ih m h1 s' h3
      exact ⟨r, (loopE_step h2).trans a, b⟩
end Go.Proofs.Ytlalabdgkkfjpaa.Sh
namespace Go.Proofs.Ytlalabdgkkfjpaa.Sh
open Go Go.Ab Go.Proofs
set_option maxRecDepth 100000
def To {α : Type} (m : Option α) (Q : α → Prop) : Prop := ∃ r, m = some r ∧ Q r
theorem To.bind {α β : Type} {m : Option α} {f : α → Option β} {Q : α → Prop} {R : β → Prop} (h : To m Q) (k : ∀ r, Q r → To (f r) R) : To (m.bind f) R := by
  obtain ⟨r, rfl, hr⟩ := h; exact k r hr
theorem To.ret {α : Type} {r : α} {Q : α → Prop} (h : Q r) : To (some r) Q := ⟨r, rfl, h⟩
theorem To.mono {α : Type} {m : Option α} {Q R : α → Prop} (h : To m Q) (k : ∀ r, Q r → R r) : To m R := by
  obtain ⟨r, e, hr⟩ := h; exact ⟨r, e, k r hr⟩
theorem To.cond {α : Type} {b : Bool} {x y : Option α} {Q : α → Prop} (h1 : To x Q) (h2 : To y Q) : To (bif b then x else y) Q := by cases b <;> assumption
theorem To.ite {α : Type} {p : Prop} [Decidable p] {x y : Option α} {Q : α → Prop} (h1 : p → To x Q) (h2 : ¬ p → To y Q) : To (bif decide p then x else y) Q := by
  by_cases h : p
  · rw [dec_t h]; exact h1 h
  · rw [dec_f h]; exact h2 h
theorem To.guard {α : Type} {p : Prop} [Decidable p] {x : Option α} {Q : α → Prop} (hp : p) (h : To x Q) : To (bif decide p then x else none) Q := by rw [dec_t hp]; exact h
theorem To.guard2 {α : Type} {p q : Prop} [Decidable p] [Decidable q] {x : Option α} {Q : α → Prop} (hp : p) (hq : q) (h : To x Q) : To (bif decide p && decide q then x else none) Q := by rw [dec_t hp, dec_t hq]; exact h
theorem To.at_ {α β : Type} {l : List α} {v : Int} {f : α → Option β} {Q : β → Prop} (h0 : 0 ≤ v) (h1 : v < (l.length : Int)) (k : ∀ e, e ∈ l → To (f e) Q) : To ((l[Int.toNat v]?).bind f) Q := by
  have h : v.toNat < l.length := by omega
  rw [List.getElem?_eq_getElem h]
  exact k _ (List.getElem_mem h)
theorem To.idx {α β : Type} {l : List α} {v : Int} {f : α → Option β} {Q : β → Prop} (h0 : 0 ≤ v) (h1 : v < (l.length : Int)) (k : ∀ e, e ∈ l → To (f e) Q) : To ((idx l v).bind f) Q := by
  unfold Go.Ab.idx
  rw [if_neg (by omega)]
  exact To.at_ h0 h1 k
def Turn {σ ρ : Type} (I : Nat → σ → Prop) (Q : ρ → Prop) (n : Nat) : σ ⊕ ρ → Prop
  | .inl s => ∃ m, m < n ∧ I m s
  | .inr r => Q r
theorem Turn.on {σ ρ : Type} {I : Nat → σ → Prop} {Q : ρ → Prop} {n : Nat} {s : σ} (m : Nat) (h : m < n) (h2 : I m s) : Turn I Q n (.inl s) := ⟨m, h, h2⟩
theorem Turn.end_ {σ ρ : Type} {I : Nat → σ → Prop} {Q : ρ → Prop} {n : Nat} {r : ρ} (h : Q r) : Turn I Q n (.inr r) := h
theorem To.loop {σ ρ : Type} {f : σ → Option (σ ⊕ ρ)} (I : Nat → σ → Prop) {Q : ρ → Prop} {n : Nat} {s : σ} (h : I n s) (step : ∀ n s, I n s → To (f s) (Turn I Q n)) : To (loopE f s) Q := by
  refine meas_loop I Q (fun n s hI => ?_) n s h
  obtain ⟨r, e, ht⟩ := step n s hI
  cases r with
  | inl s' => obtain ⟨m, h1, h2⟩ := ht; exact .inr ⟨m, s', h1, e, h2⟩
  | inr r => exact .inl ⟨r, e, ht⟩
structure At (c : Gl1Cur) (n : Nat) : Prop where
  ok : Ok c
  le : c.2.1 ≤ (n : Int)
theorem At.mono {c : Gl1Cur} {n m : Nat} (h : At c n) (hm : n ≤ m) : At c m := ⟨h.ok, by have := h.le; omega⟩
theorem pk_low {c : Gl1Cur} {n : Int} : 0 ≤ (pk c n).2 := by
  unfold pk
  split
  · exact Int.le_refl _
  · split
    · exact Int.emod_nonneg _ (by omega)
    · exact Int.emod_nonneg _ (by omega)
theorem pk_cur (c : Gl1Cur) (n : Int) : ∃ j, j ≤ 2 ∧ (pk c n).1 = N j c := by
  unfold pk
  split
  · exact ⟨0, by omega, rfl⟩
  · split
    · exact ⟨2, by omega, rfl⟩
    · exact ⟨1, by omega, rfl⟩
theorem t_pick {c : Gl1Cur} {n : Nat} (h : At c n) (hn : n ≤ 1000000000) (m : Int) : To (s_l1Cur_pick c m) (fun r => At r.1 (n + 2) ∧ 0 ≤ r.2 ∧ (0 < m → r.2 < m)) := by
  have h1 := h.le
  have h0 := h.ok.at0
  refine ⟨_, s_pick h.ok (by omega) m, ?_, pk_low, fun hm => (pk_range hm).2⟩
  obtain ⟨j, hj, e⟩ := pk_cur c m
  rw [e]
  exact ⟨N_ok h.ok (by omega), by rw [N_at]; omega⟩
theorem t_one {c : Gl1Cur} {n : Nat} (h : At c n) (hn : n ≤ 1000000000) (m : Int) : To (s_l1Cur_one c m) (fun r => At r.1 (n + 2)) := by
  unfold s_l1Cur_one
  exact (t_pick h hn m).bind fun r hr => .ret hr.1
theorem t_among {c : Gl1Cur} {n : Nat} (h : At c n) (hn : n ≤ 1000000000) {l : List Int} (hl : 0 < l.length) : To (s_l1Cur_among c l) (fun r => At r.1 (n + 2) ∧ r.2 ∈ l) := by
  unfold s_l1Cur_among
  refine (t_pick h hn _).bind fun r hr => To.idx hr.2.1 (hr.2.2 (by omega)) fun e he => .ret ⟨hr.1, he⟩
theorem t_net {c : Gl1Cur} {n : Nat} (h : At c n) (hn : n ≤ 100000000) : To (s_l1Cur_net c) (fun r => At r.1 (n + 10000) ∧ 1 ≤ r.2.1.length ∧ r.2.1.length ≤ 16 ∧ r.2.2.1.length ≤ 40) := by
  unfold s_l1Cur_net
  refine (t_pick h (by omega) 6).bind ?_
  rintro ⟨d1, v1⟩ ⟨a1, b1, c1⟩
  refine To.bind (Q := fun j => At (j.1, j.2.1, j.2.2.1, ()) (n + 4) ∧ j.2.2.2.2.2.1 = [] ∧ j.2.2.2.2.2.2.1 = [] ∧ 1 ≤ j.2.2.2.2.2.2.2 ∧ j.2.2.2.2.2.2.2 ≤ 16) ?_ ?_
  · refine (t_one a1 (by omega) 24).bind ?_
    rintro ⟨d2, v2⟩ a2
    have c1 := c1 (by omega)
    refine To.cond (.ret ⟨a2, rfl, rfl, by show (1 : Int) ≤ 16; omega, by show (16 : Int) ≤ 16; omega⟩) (.ret ⟨a2, rfl, rfl, ?_, ?_⟩)
    · show 1 ≤ w64 (1 + v1); rw [w64_of (by omega) (by omega)]; omega
    · show w64 (1 + v1) ≤ 16; rw [w64_of (by omega) (by omega)]; omega
  rintro ⟨k1, k2, k3, k4, k5, k6, k7, m⟩ ⟨a2, e6, e7, hm1, hm2⟩
  simp only at e6 e7 hm1 hm2
  subst e6 e7
  refine To.bind (Q := fun o => At (o.1, o.2.1, o.2.2.1, ()) (n + 4 + 160) ∧ m ≤ (o.2.2.2.2.2.1.length : Int) ∧ o.2.2.2.2.2.1.length ≤ 16 ∧ o.2.2.2.2.2.2 = []) ?_ ?_
  · refine To.loop (fun k st => At (st.1, st.2.1, st.2.2.1, ()) (n + 4 + 10 * st.2.2.2.2.2.1.length) ∧ st.2.2.2.2.2.1.length + k = 16 ∧ st.2.2.2.2.2.2 = []) (n := 16) ⟨a2, rfl, rfl⟩ ?_
    rintro k ⟨s1, s2, s3, s4, s5, s6, s7⟩ ⟨g1, g2, g3⟩
    simp only at g1 g2 g3
    refine To.ite (fun hlt => ?_) (fun hge => ?_)
    · simp only at hlt
      refine (t_pick g1 (by omega) 400).bind ?_
      rintro ⟨d3, v3⟩ ⟨a3, _, _⟩
      refine (t_among a3 (by omega) (by simp)).bind ?_
      rintro ⟨d4, v4⟩ ⟨a4, _⟩
      refine (t_pick a4 (by omega) 400).bind ?_
      rintro ⟨d5, v5⟩ ⟨a5, _, _⟩
      refine (t_among a5 (by omega) (by simp)).bind ?_
      rintro ⟨d6, v6⟩ ⟨a6, _⟩
      refine (t_among a6 (by omega) (by simp)).bind ?_
      rintro ⟨d7, v7⟩ ⟨a7, _⟩
      refine To.guard (by unfold lim; simp only [List.length_cons, List.length_nil]; omega) (.ret (.on (k - 1) (by omega) ⟨?_, ?_, g3⟩))
      · refine At.mono a7 ?_
        simp only [List.length_append, List.length_cons, List.length_nil]; omega
      · simp only [List.length_append, List.length_cons, List.length_nil]; omega
    · simp only at hge
      exact .ret (.end_ ⟨At.mono g1 (by omega), by simp only; omega, by simp only; omega, g3⟩)
  rintro ⟨o1, o2, o3, o4, o5, o6, o7⟩ ⟨a3, q1, q2, e7⟩
  simp only at q1 q2 e7
  subst e7
  refine (t_among a3 (by omega) (by simp)).bind ?_
  rintro ⟨d2, r12⟩ ⟨a4, _⟩
  refine To.bind (Q := fun o => At (o.1, o.2.1, o.2.2.1, ()) (n + 10000) ∧ o.2.2.2.2.2.1 = o6 ∧ o.2.2.2.2.2.2.length ≤ 40) ?_ ?_
  · refine To.loop (fun k st => ∃ i : Nat, st.2.2.2.2.2.2.2 = (i : Int) ∧ i + k = 16 ∧ At (st.1, st.2.1, st.2.2.1, ()) (n + 166 + 300 * i) ∧ st.2.2.2.2.2.1 = o6 ∧ st.2.2.2.2.2.2.1.length ≤ 40) (n := 16) ⟨0, rfl, rfl, a4, rfl, by simp⟩ ?_
    rintro k ⟨s1, s2, s3, s4, s5, s6, s7, s8⟩ ⟨i, g1, g2, g3, g4, g5⟩
    simp only at g1 g3 g4 g5
    subst g1 g4
    refine To.ite (fun hlt => ?_) (fun hge => ?_)
    · simp only at hlt
      refine To.bind (Q := fun o => At (o.1, o.2.1, o.2.2.1, ()) (n + 166 + 300 * (i + 1)) ∧ o.2.2.2.2.2.1 = s6 ∧ o.2.2.2.2.2.2.length ≤ 40) ?_ ?_
      · refine To.loop (fun k st => ∃ j : Nat, st.2.2.2.2.2.2.2 = (j : Int) ∧ j + k = 17 ∧ At (st.1, st.2.1, st.2.2.1, ()) (n + 166 + 300 * i + 10 * j) ∧ st.2.2.2.2.2.1 = s6 ∧ st.2.2.2.2.2.2.1.length ≤ 40) (n := 17 - (i + 1)) ⟨i + 1, ?_, by omega, At.mono g3 (by omega), rfl, g5⟩ ?_
        · show w64 ((i : Int) + 1) = _; rw [w64_of (by omega) (by omega)]; omega
        rintro k ⟨t1, t2, t3, t4, t5, t6, t7, t8⟩ ⟨j, f1, f2, f3, f4, f5⟩
        simp only at f1 f3 f4 f5
        subst f1 f4
        have ej : ∀ x : List GLink × Int, (j : Int) < m → w64 ((j : Int) + 1) = ((j + 1 : Nat) : Int) := fun _ hj => by rw [w64_of (by omega) (by omega)]; omega
        refine To.bind (Q := fun b => b = true → (j : Int) < m ∧ t7.length < 40) ?_ ?_
        · refine To.ite (fun hj => .ret fun hb => ⟨hj, ?_⟩) (fun _ => .ret fun hb => by cases hb)
          have := of_decide_eq_true hb
          simp only at this
          omega
        intro b hb
        cases b with
        | false => exact .ret (.end_ ⟨At.mono f3 (by omega), rfl, f5⟩)
        | true =>
        obtain ⟨hj, h40⟩ := hb rfl
        have e1 : w64 ((j : Int) + 1) = ((j + 1 : Nat) : Int) := by rw [w64_of (by omega) (by omega)]; omega
        have fin : ∀ (d : Gl1Cur) (x : GLink) (m' : Nat), At d m' → m' ≤ n + 166 + 300 * i + 10 * (j + 1) → To (bif decide (List.length t7 + List.length [x] ≤ lim) then some (Sum.inl (d.1, d.2.1, d.2.2.1, t4, t5, t6, t7 ++ [x], w64 ((j : Int) + 1))) else none : Option (((List Int) × Int × Int × (List GLink) × (List GLink) × (List GLink) × (List GLink) × Int) ⊕ (((List Int) × Int × Int × (List GLink) × (List GLink) × (List GLink) × (List GLink))))) (Turn (fun k st => ∃ j : Nat, st.2.2.2.2.2.2.2 = (j : Int) ∧ j + k = 17 ∧ At (st.1, st.2.1, st.2.2.1, ()) (n + 166 + 300 * i + 10 * j) ∧ st.2.2.2.2.2.1 = t6 ∧ st.2.2.2.2.2.2.1.length ≤ 40) (fun o => At (o.1, o.2.1, o.2.2.1, ()) (n + 166 + 300 * (i + 1)) ∧ o.2.2.2.2.2.1 = t6 ∧ o.2.2.2.2.2.2.length ≤ 40) k) := by
          intro d x m' hd hm'
          refine To.guard (by unfold lim; simp only [List.length_cons, List.length_nil]; omega) (.ret (.on (k - 1) (by omega) ⟨j + 1, e1, by omega, At.mono hd hm', rfl, ?_⟩))
          simp only [List.length_append, List.length_cons, List.length_nil]; omega
        have fin0 : ∀ (d : Gl1Cur) (m' : Nat), At d m' → m' ≤ n + 166 + 300 * i + 10 * (j + 1) → To (some (Sum.inl (d.1, d.2.1, d.2.2.1, t4, t5, t6, t7, w64 ((j : Int) + 1))) : Option (((List Int) × Int × Int × (List GLink) × (List GLink) × (List GLink) × (List GLink) × Int) ⊕ (((List Int) × Int × Int × (List GLink) × (List GLink) × (List GLink) × (List GLink))))) (Turn (fun k st => ∃ j : Nat, st.2.2.2.2.2.2.2 = (j : Int) ∧ j + k = 17 ∧ At (st.1, st.2.1, st.2.2.1, ()) (n + 166 + 300 * i + 10 * j) ∧ st.2.2.2.2.2.1 = t6 ∧ st.2.2.2.2.2.2.1.length ≤ 40) (fun o => At (o.1, o.2.1, o.2.2.1, ()) (n + 166 + 300 * (i + 1)) ∧ o.2.2.2.2.2.1 = t6 ∧ o.2.2.2.2.2.2.length ≤ 40) k) := by
          intro d m' hd hm'
          exact .ret (.on (k - 1) (by omega) ⟨j + 1, e1, by omega, At.mono hd hm', rfl, f5⟩)
        refine (t_one f3 (by omega) r12).bind ?_
        rintro ⟨u1, w1⟩ x1
        refine To.cond (To.cond ?_ (fin0 _ _ x1 (by omega))) (To.cond ?_ (To.cond ?_ (fin0 _ _ x1 (by omega))))
        · refine (t_pick x1 (by omega) 30).bind ?_
          rintro ⟨u2, w2⟩ ⟨x2, _, _⟩
          refine (t_among x2 (by omega) (by simp)).bind ?_
          rintro ⟨u3, w3⟩ ⟨x3, _⟩
          exact fin _ _ _ x3 (by omega)
        · refine (t_one x1 (by omega) 8).bind ?_
          rintro ⟨u4, w4⟩ x4
          refine To.cond ?_ (fin0 _ _ x4 (by omega))
          refine (t_pick x4 (by omega) 30).bind ?_
          rintro ⟨u2, w2⟩ ⟨x2, _, _⟩
          refine (t_among x2 (by omega) (by simp)).bind ?_
          rintro ⟨u3, w3⟩ ⟨x3, _⟩
          exact fin _ _ _ x3 (by omega)
        · refine (t_pick x1 (by omega) 30).bind ?_
          rintro ⟨u2, w2⟩ ⟨x2, _, _⟩
          refine (t_among x2 (by omega) (by simp)).bind ?_
          rintro ⟨u3, w3⟩ ⟨x3, _⟩
          exact fin _ _ _ x3 (by omega)
      rintro ⟨t1, t2, t3, t4, t5, t6, t7⟩ ⟨f1, f2, f3⟩
      simp only at f2 f3
      subst f2
      refine .ret (.on (k - 1) (by omega) ⟨i + 1, ?_, by omega, f1, rfl, f3⟩)
      show w64 ((i : Int) + 1) = _; rw [w64_of (by omega) (by omega)]; omega
    · exact .ret (.end_ ⟨At.mono g3 (by omega), rfl, g5⟩)
  rintro ⟨t1, t2, t3, t4, t5, t6, t7⟩ ⟨f1, f2, f3⟩
  simp only at f2 f3
  subst f2
  exact .ret ⟨f1, by show 1 ≤ t6.length; omega, q2, f3⟩
end Go.Proofs.Ytlalabdgkkfjpaa.Sh
namespace Go.Proofs.Ytlalabdgkkfjpaa.Sh
open Go Go.Ab Go.Proofs
set_option maxRecDepth 100000
theorem To.guard3 {α : Type} {p q r : Prop} [Decidable p] [Decidable q] [Decidable r] {x : Option α} {Q : α → Prop} (hp : p) (hq : q) (hr : r) (h : To x Q) : To (bif decide p && decide q && decide r then x else none) Q := by rw [dec_t hp, dec_t hq, dec_t hr]; exact h
theorem len1 {α : Type} {l : List α} {x : α} : (l ++ [x]).length = l.length + 1 := by simp
theorem t_fog {c : Gl1Cur} {n : Nat} (h : At c n) (hn : n ≤ 100000000) {w : GNet} (hw : w.2.1.length ≤ 1000) : To (s_l1Cur_fog c w) (fun r => At r.1 (n + 100000) ∧ r.2.length ≤ 10000) := by
  unfold s_l1Cur_fog
  refine (t_pick h (by omega) 4).bind ?_
  rintro ⟨d1, v1⟩ ⟨a1, b1, c1⟩
  have c1 := c1 (by omega)
  simp only at b1 c1
  refine To.bind (Q := fun o => At (o.1, o.2.1, o.2.2.1, ()) (n + 2 + 20 * 1000) ∧ o.2.2.2.length ≤ 4000) ?_ ?_
  · refine To.loop (fun k st => ∃ i : Nat, st.2.2.2.2 = (i : Int) ∧ i + k = 1001 ∧ At (st.1, st.2.1, st.2.2.1, ()) (n + 2 + 20 * i) ∧ st.2.2.2.1.length ≤ 4 * i ∧ i ≤ w.2.1.length) (n := 1001) ⟨0, rfl, by omega, a1, by simp, by omega⟩ ?_
    rintro k ⟨s1, s2, s3, s4, s5⟩ ⟨i, g1, g2, g3, g4, g5⟩
    simp only at g1 g3 g4
    subst g1
    refine To.ite (fun hlt => ?_) (fun hge => .ret (.end_ ⟨At.mono g3 (by omega), by simp only; omega⟩))
    simp only at hlt
    refine (t_pick g3 (by omega) 40).bind ?_
    rintro ⟨d3, v3⟩ ⟨a3, b3, c3⟩
    refine (t_pick a3 (by omega) _).bind ?_
    rintro ⟨d4, v4⟩ ⟨a4, b4, c4⟩
    rw [w64_of (x := v1 + 1) (by omega) (by omega)] at c4
    have c4 := c4 (by omega)
    simp only at b4 c4
    refine To.bind (Q := fun o => At (o.1, o.2.1, o.2.2.1, ()) (n + 2 + 20 * (i + 1)) ∧ o.2.2.2.length ≤ 4 * (i + 1)) ?_ ?_
    · refine To.loop (fun k st => st.2.2.2.2.2 = (k : Int) ∧ k ≤ 3 ∧ At (st.1, st.2.1, st.2.2.1, ()) (n + 2 + 20 * i + 4 + 4 * (3 - k)) ∧ st.2.2.2.1.length ≤ 4 * i + (3 - k)) (n := v4.toNat) ⟨by show v4 = _; omega, by omega, At.mono a4 (by omega), by simp only; omega⟩ ?_
      rintro k ⟨t1, t2, t3, t4, t5, t6⟩ ⟨f1, f2, f3, f4⟩
      simp only at f1 f3 f4
      subst f1
      refine To.ite (fun hlt2 => ?_) (fun hge => .ret (.end_ ⟨At.mono f3 (by omega), by simp only; omega⟩))
      simp only at hlt2
      refine (t_pick f3 (by omega) 30).bind ?_
      rintro ⟨d5, v5⟩ ⟨a5, b5, c5⟩
      refine To.guard (by unfold lim; simp only [List.length_cons, List.length_nil]; omega) ?_
      refine (t_pick a5 (by omega) 30).bind ?_
      rintro ⟨d6, v6⟩ ⟨a6, b6, c6⟩
      refine .ret (.on (k - 1) (by omega) ⟨?_, by omega, At.mono a6 (by omega), by simp only [len1]; omega⟩)
      show w64 ((k : Int) - 1) = _
      rw [w64_of (by omega) (by omega)]; omega
    · rintro ⟨t1, t2, t3, t4⟩ ⟨f1, f2⟩
      refine .ret (.on (k - 1) (by omega) ⟨i + 1, ?_, by omega, f1, f2, by omega⟩)
      show w64 ((i : Int) + 1) = _
      rw [w64_of (by omega) (by omega)]; omega
  rintro ⟨o1, o2, o3, o4⟩ ⟨a2, q⟩
  simp only at q
  refine To.bind (Q := fun o => At (o.1, o.2.1, o.2.2.1, ()) (n + 2 + 20 * 1000) ∧ o.2.2.2.length ≤ 4000) ?_ ?_
  · refine To.ite (fun h60 => ?_) (fun _ => .ret ⟨a2, q⟩)
    simp only at h60
    exact To.guard2 (by omega) (by simp only; omega) (.ret ⟨a2, by simp only [List.length_take]; omega⟩)
  rintro ⟨p1, p2, p3, p4⟩ ⟨a3, q3⟩
  simp only at q3
  refine To.bind (Q := fun o => At (o.1, o.2.1, o.2.2.1, ()) (n + 30000) ∧ o.2.2.2.length ≤ 4000) ?_ ?_
  · refine To.cond ?_ (To.cond ?_ (.ret ⟨At.mono a3 (by omega), q3⟩))
    · refine (t_one a3 (by omega) 24).bind ?_
      rintro ⟨d3, v3⟩ b3
      refine To.cond ?_ (.ret ⟨At.mono b3 (by omega), q3⟩)
      refine (t_pick b3 (by omega) 2).bind ?_
      rintro ⟨d4, v4⟩ ⟨b4, l4, r4⟩
      have r4 := r4 (by omega)
      simp only at l4 r4
      rw [w64_of (x := 60 + v4) (by omega) (by omega)]
      refine To.bind (Q := fun o => At (o.1, o.2.1, o.2.2.1, ()) (n + 30000) ∧ o.2.2.2.length ≤ 61) ?_ ?_
      · refine To.loop (fun k st => At (st.1, st.2.1, st.2.2.1, ()) (n + 30000) ∧ st.2.2.2.length + k = 61) (n := 61) ⟨At.mono b4 (by omega), rfl⟩ ?_
        rintro k ⟨t1, t2, t3, t4⟩ ⟨f1, f2⟩
        simp only at f1 f2
        refine To.ite (fun hlt => ?_) (fun hge => .ret (.end_ ⟨f1, by simp only; omega⟩))
        simp only at hlt
        exact To.guard (by unfold lim; simp only [List.length_cons, List.length_nil]; omega) (.ret (.on (k - 1) (by omega) ⟨f1, by simp only [len1]; omega⟩))
      · rintro ⟨t1, t2, t3, t4⟩ ⟨f1, f2⟩
        simp only at f2
        exact .ret ⟨f1, by simp only; omega⟩
    · refine (t_pick a3 (by omega) 2).bind ?_
      rintro ⟨d4, v4⟩ ⟨b4, l4, r4⟩
      have r4 := r4 (by omega)
      simp only at l4 r4
      rw [w64_of (x := 60 + v4) (by omega) (by omega)]
      refine To.bind (Q := fun o => At (o.1, o.2.1, o.2.2.1, ()) (n + 30000) ∧ o.2.2.2.length ≤ 61) ?_ ?_
      · refine To.loop (fun k st => At (st.1, st.2.1, st.2.2.1, ()) (n + 30000) ∧ st.2.2.2.length + k = 61) (n := 61) ⟨At.mono b4 (by omega), rfl⟩ ?_
        rintro k ⟨t1, t2, t3, t4⟩ ⟨f1, f2⟩
        simp only at f1 f2
        refine To.ite (fun hlt => ?_) (fun hge => .ret (.end_ ⟨f1, by simp only; omega⟩))
        simp only at hlt
        exact To.guard (by unfold lim; simp only [List.length_cons, List.length_nil]; omega) (.ret (.on (k - 1) (by omega) ⟨f1, by simp only [len1]; omega⟩))
      · rintro ⟨t1, t2, t3, t4⟩ ⟨f1, f2⟩
        simp only at f2
        exact .ret ⟨f1, by simp only; omega⟩
  rintro ⟨p1, p2, p3, p4⟩ ⟨a4, q4⟩
  simp only at q4
  refine To.ite (fun h0 => ?_) (fun _ => .ret ⟨At.mono a4 (by omega), by simp only; omega⟩)
  simp only at h0
  refine (t_pick a4 (by omega) _).bind ?_
  rintro ⟨d5, v5⟩ ⟨a5, b5, c5⟩
  have c5 := c5 (by omega)
  simp only at b5 c5
  refine To.guard2 b5 c5 ?_
  refine (t_pick a5 (by omega) 30).bind ?_
  rintro ⟨d6, v6⟩ ⟨a6, b6, c6⟩
  have hs : ∀ y : GLink, (p4.set (Int.toNat v5) y).length ≤ 10000 := fun y => by rw [List.length_set]; omega
  refine To.cond ?_ (To.cond ?_ (To.cond ?_ (.ret ⟨At.mono a6 (by omega), by simp only; omega⟩)))
  · refine (t_among a6 (by omega) (by simp)).bind ?_
    rintro ⟨d7, v7⟩ ⟨a7, _⟩
    exact To.at_ b5 c5 fun e _ => .ret ⟨At.mono a7 (by omega), hs _⟩
  · refine To.at_ b5 c5 fun e _ => ?_
    refine (t_among a6 (by omega) (by simp)).bind ?_
    rintro ⟨d7, v7⟩ ⟨a7, _⟩
    exact To.at_ b5 c5 fun e _ => .ret ⟨At.mono a7 (by omega), hs _⟩
  · refine To.at_ b5 c5 fun e _ => ?_
    refine (t_among a6 (by omega) (by simp)).bind ?_
    rintro ⟨d7, v7⟩ ⟨a7, _⟩
    exact To.at_ b5 c5 fun e _ => .ret ⟨At.mono a7 (by omega), hs _⟩
theorem t_anyNet {c : Gl1Cur} {n : Nat} (h : At c n) (hn : n ≤ 20000000) : To (s_l1Cur_anyNet c) (fun r => At r.1 (n + 20000) ∧ r.2.1.length ≤ 100 ∧ r.2.2.1.length ≤ 100) := by
  unfold s_l1Cur_anyNet
  refine (t_net h (by omega)).bind ?_
  rintro ⟨d1, T1, L1, u1⟩ ⟨a1, t1, t2, l1⟩
  simp only at t1 t2 l1
  refine (t_pick a1 (by omega) _).bind ?_
  rintro ⟨d2, v2⟩ ⟨a2, b2, c2⟩
  simp only at c2
  have c2 := c2 (by omega)
  simp only at b2 c2
  refine To.guard2 b2 c2 ?_
  refine (t_pick a2 (by omega) 36).bind ?_
  rintro ⟨d3, v3⟩ ⟨a3, _, _⟩
  have hs : ∀ y : GLink, (T1.set (Int.toNat v2) y).length ≤ 100 := fun y => by rw [List.length_set]; omega
  have hL : L1.length ≤ 100 := by omega
  refine To.cond ?_ (To.cond ?_ (To.cond ?_ (To.cond ?_ (To.cond ?_ ?_))))
  · refine (t_among a3 (by omega) (by simp)).bind ?_
    rintro ⟨d7, v7⟩ ⟨a7, _⟩
    exact To.at_ b2 c2 fun e _ => .ret ⟨At.mono a7 (by omega), hs _, hL⟩
  · refine (t_among a3 (by omega) (by simp)).bind ?_
    rintro ⟨d7, v7⟩ ⟨a7, _⟩
    exact To.at_ b2 c2 fun e _ => .ret ⟨At.mono a7 (by omega), hs _, hL⟩
  · refine (t_among a3 (by omega) (by simp)).bind ?_
    rintro ⟨d7, v7⟩ ⟨a7, _⟩
    exact To.at_ b2 c2 fun e _ => .ret ⟨At.mono a7 (by omega), hs _, hL⟩
  · exact .ret ⟨At.mono a3 (by omega), by simp, hL⟩
  · refine (t_pick a3 (by omega) 2).bind ?_
    rintro ⟨d4, v4⟩ ⟨a4, b4, c4⟩
    have c4 := c4 (by omega)
    simp only at b4 c4
    rw [w64_of (x := 16 + v4) (by omega) (by omega)]
    refine To.bind (Q := fun o => At (o.1, o.2.1, o.2.2.1, ()) (n + 20000) ∧ o.2.2.2.2.2.1.length ≤ 100 ∧ o.2.2.2.2.2.2.length ≤ 100) ?_ ?_
    · refine To.loop (fun k st => At (st.1, st.2.1, st.2.2.1, ()) (n + 20000) ∧ st.2.2.2.2.2.1.length + k = 40 ∧ st.2.2.2.2.2.1.length ≤ 20 ∧ 1 ≤ st.2.2.2.2.2.1.length ∧ st.2.2.2.2.2.2.length ≤ 100) (n := 40 - T1.length) ⟨At.mono a4 (by omega), by simp only; omega, by simp only; omega, t1, hL⟩ ?_
      rintro k ⟨s1, s2, s3, s4, s5, s6, s7⟩ ⟨g1, g2, g3, g4, g5⟩
      simp only at g1 g2 g3 g4 g5
      refine To.ite (fun hlt => ?_) (fun hge => .ret (.end_ ⟨g1, by simp only; omega, g5⟩))
      simp only at hlt
      refine To.guard2 (by omega) (by simp only; omega) ?_
      refine To.at_ (by omega) (by simp only; omega) fun e _ => ?_
      exact To.guard (by unfold lim; simp only [List.length_cons, List.length_nil]; omega) (.ret (.on (k - 1) (by omega) ⟨g1, by simp only [len1]; omega, by simp only [len1]; omega, by simp only [len1]; omega, g5⟩))
    · rintro ⟨s1, s2, s3, s4, s5, s6, s7⟩ ⟨g1, g2, g3⟩
      exact .ret ⟨g1, g2, g3⟩
  refine To.bind (Q := fun o => At (o.1, o.2.1, o.2.2.1, ()) (n + 10004) ∧ o.2.2.2.2.2.1.length ≤ 16 ∧ o.2.2.2.2.2.2.1.length ≤ 40) ?_ ?_
  · exact To.cond (.ret ⟨a3, t2, l1⟩) (.ret ⟨a3, t2, l1⟩)
  rintro ⟨j1, j2, j3, j4, j5, j6, j7, j8⟩ ⟨a4, q1, q2⟩
  simp only at q1 q2
  refine To.cond ?_ (To.cond ?_ (.ret ⟨At.mono a4 (by omega), by simp only; omega, by simp only; omega⟩))
  · refine To.ite (fun h0 => ?_) (fun _ => .ret ⟨At.mono a4 (by omega), by simp only; omega, by simp only; omega⟩)
    simp only at h0
    refine (t_pick a4 (by omega) _).bind ?_
    rintro ⟨d5, v5⟩ ⟨a5, b5, c5⟩
    have c5 := c5 (by omega)
    simp only at b5 c5
    refine To.guard2 b5 c5 ?_
    refine (t_pick a5 (by omega) 4).bind ?_
    rintro ⟨d6, v6⟩ ⟨a6, _, _⟩
    have hs2 : ∀ y : GLink, (j7.set (Int.toNat v5) y).length ≤ 100 := fun y => by rw [List.length_set]; omega
    refine To.cond ?_ (To.cond ?_ (To.cond ?_ (To.cond ?_ (.ret ⟨At.mono a6 (by omega), by simp only; omega, by simp only; omega⟩))))
    rotate_right
    · refine To.guard2 (by omega) (by simp only; omega) ?_
      refine To.at_ (by omega) (by simp only; omega) fun e _ => ?_
      exact To.guard (by unfold lim; simp only [List.length_cons, List.length_nil]; omega) (.ret ⟨At.mono a6 (by omega), by simp only; omega, by simp only [len1]; omega⟩)
    · refine To.at_ b5 c5 fun e _ => ?_
      refine (t_among a6 (by omega) (by simp)).bind ?_
      rintro ⟨d7, v7⟩ ⟨a7, _⟩
      exact To.at_ b5 c5 fun e _ => .ret ⟨At.mono a7 (by omega), by simp only; omega, hs2 _⟩
    · refine To.at_ b5 c5 fun e _ => ?_
      refine (t_among a6 (by omega) (by simp)).bind ?_
      rintro ⟨d7, v7⟩ ⟨a7, _⟩
      exact To.at_ b5 c5 fun e _ => .ret ⟨At.mono a7 (by omega), by simp only; omega, hs2 _⟩
    · refine (t_among a6 (by omega) (by simp)).bind ?_
      rintro ⟨d7, v7⟩ ⟨a7, _⟩
      exact To.at_ b5 c5 fun e _ => .ret ⟨At.mono a7 (by omega), by simp only; omega, hs2 _⟩
  · refine To.guard3 (by omega) (by omega) (by unfold lim; omega) ?_
    refine (t_pick a4 (by omega) 2).bind ?_
    rintro ⟨d5, v5⟩ ⟨a5, b5, c5⟩
    have c5 := c5 (by omega)
    simp only at b5 c5
    rw [w64_of (x := 40 + v5) (by omega) (by omega)]
    refine To.bind (Q := fun o => At (o.1, o.2.1, o.2.2.1, ()) (n + 20000) ∧ o.2.2.2.2.2.1.length ≤ 100 ∧ o.2.2.2.2.2.2.length ≤ 100) ?_ ?_
    · refine To.loop (fun k st => ∃ i : Nat, st.2.2.2.2.2.2.2 = (i : Int) ∧ i + k = 10 ∧ At (st.1, st.2.1, st.2.2.1, ()) (n + 20000) ∧ st.2.2.2.2.2.1.length ≤ 100 ∧ st.2.2.2.2.2.2.1.length ≤ 41) (n := 10) ⟨0, rfl, rfl, At.mono a5 (by omega), by simp only [List.length_replicate]; decide, by simp⟩ ?_
      rintro k ⟨s1, s2, s3, s4, s5, s6, s7, s8⟩ ⟨i, g1, g2, g3, g4, g5⟩
      simp only at g1 g3 g4 g5
      subst g1
      refine To.ite (fun hlt => ?_) (fun hge => .ret (.end_ ⟨g3, g4, by simp only; omega⟩))
      simp only at hlt
      refine To.bind (Q := fun o => At (o.1, o.2.1, o.2.2.1, ()) (n + 20000) ∧ o.2.2.2.2.2.1.length ≤ 100 ∧ o.2.2.2.2.2.2.length ≤ 41) ?_ ?_
      · refine To.loop (fun k st => ∃ j : Nat, st.2.2.2.2.2.2.2 = (j : Int) ∧ j + k = 11 ∧ At (st.1, st.2.1, st.2.2.1, ()) (n + 20000) ∧ st.2.2.2.2.2.1.length ≤ 100 ∧ st.2.2.2.2.2.2.1.length ≤ 41) (n := 11 - (i + 1)) ⟨i + 1, ?_, by omega, g3, g4, g5⟩ ?_
        · show w64 ((i : Int) + 1) = _; rw [w64_of (by omega) (by omega)]; omega
        rintro k ⟨t1, t2, t3, t4, t5, t6, t7, t8⟩ ⟨j, f1, f2, f3, f4, f5⟩
        simp only at f1 f3 f4 f5
        subst f1
        refine To.bind (Q := fun b => b = true → (j : Int) < 10 ∧ t7.length < 41) ?_ ?_
        · refine To.ite (fun hj => .ret fun hb => ⟨hj, ?_⟩) (fun _ => .ret fun hb => by cases hb)
          have := of_decide_eq_true hb
          simp only at this
          omega
        intro b hb
        cases b with
        | false => exact .ret (.end_ ⟨f3, f4, f5⟩)
        | true =>
        obtain ⟨hj, h41⟩ := hb rfl
        refine To.guard (by unfold lim; simp only [List.length_cons, List.length_nil]; omega) (.ret (.on (k - 1) (by omega) ⟨j + 1, ?_, by omega, f3, f4, by simp only [len1]; omega⟩))
        show w64 ((j : Int) + 1) = _; rw [w64_of (by omega) (by omega)]; omega
      · rintro ⟨t1, t2, t3, t4, t5, t6, t7⟩ ⟨f1, f2, f3⟩
        refine .ret (.on (k - 1) (by omega) ⟨i + 1, ?_, by omega, f1, f2, f3⟩)
        show w64 ((i : Int) + 1) = _; rw [w64_of (by omega) (by omega)]; omega
    · rintro ⟨s1, s2, s3, s4, s5, s6, s7⟩ ⟨g1, g2, g3⟩
      exact .ret ⟨g1, g2, g3⟩
theorem t_foggy {c : Gl1Cur} {n : Nat} (h : At c n) (hn : n ≤ 10000000) : To (s_l1Cur_foggy c) (fun r => At r.1 (n + 200000) ∧ SmallN r.2.1 ∧ r.2.2.length ≤ 10000) := by
  unfold s_l1Cur_foggy
  refine (t_net h (by omega)).bind ?_
  rintro ⟨d1, T1, L1, u1⟩ ⟨a1, t1, t2, l1⟩
  simp only at t1 t2 l1
  refine (t_one a1 (by omega) 20).bind ?_
  rintro ⟨d2, v2⟩ a2
  refine To.cond ?_ ?_
  · refine (t_anyNet a2 (by omega)).bind ?_
    rintro ⟨d3, N3⟩ ⟨a3, b3, c3⟩
    refine (t_fog a3 (by omega) (by simp only at c3 ⊢; omega)).bind ?_
    rintro ⟨d4, f4⟩ ⟨a4, b4⟩
    exact .ret ⟨At.mono a4 (by omega), ⟨by simp only at b3 ⊢; omega, by simp only at c3 ⊢; omega⟩, b4⟩
  · refine (t_fog a2 (by omega) (by simp only; omega)).bind ?_
    rintro ⟨d4, f4⟩ ⟨a4, b4⟩
    exact .ret ⟨At.mono a4 (by omega), ⟨by simp only; omega, by simp only; omega⟩, b4⟩
end Go.Proofs.Ytlalabdgkkfjpaa.Sh
namespace Go.Proofs.Ytlalabdgkkfjpaa.Sh
open Go Go.Ab Go.Proofs
set_option maxRecDepth 100000
theorem To.gd {α : Type} {b : Bool} {x : Option α} {Q : α → Prop} (hb : b = true) (h : To x Q) : To (bif b then x else none) Q := by rw [hb]; exact h
theorem t_nextL {w : GNet} (hw : SmallN w) (a : Int) : To (s_neNext w a) (fun _ => True) := by
  have hT := hw.t
  unfold s_neNext
  refine To.bind (Q := fun _ => True) ?_ fun r _ => .ret trivial
  refine To.loop (fun k st => ∃ i : Nat, st.2 = (i : Int) ∧ i + k = w.1.length ∧ st.1.length ≤ i) (n := w.1.length) ⟨0, rfl, by omega, by simp⟩ ?_
  rintro k ⟨s, j⟩ ⟨i, g1, g2, g3⟩
  simp only at g1 g3
  subst g1
  refine To.ite (fun hlt => ?_) (fun _ => .ret (.end_ trivial))
  simp only at hlt
  rw [s_link hw.fine]
  simp only [Option.bind_some]
  have e : w64 ((i : Int) + 1) = ((i + 1 : Nat) : Int) := by rw [w64_of (by omega) (by omega)]; omega
  refine To.cond ?_ (.ret (.on (k - 1) (by omega) ⟨i + 1, e, by omega, by simp only; omega⟩))
  exact To.guard (by unfold lim; simp only [List.length_cons, List.length_nil]; omega) (.ret (.on (k - 1) (by omega) ⟨i + 1, e, by omega, by simp only [len1]; omega⟩))
theorem t_act {c : Gl1Cur} {n : Nat} (h : At c n) (hn : n ≤ 100000000) {w : GNetwork} (hw : SmallW w) : To (s_l1Cur_act c w) (fun r => At r.1 (n + 100)) := by
  unfold s_l1Cur_act
  refine To.bind (Q := fun _ => True) ?_ fun r1 _ => ?_
  · unfold s_l1Most
    exact To.cond (.ret trivial) (.ret trivial)
  refine To.bind (Q := fun j => match j with | .inl x => At (x.1, x.2.1, x.2.2.1, ()) (n + 50) | .inr y => At (y.1, y.2.1, y.2.2.1, ()) (n + 50)) ?_ ?_
  · refine (t_pick h (by omega) 6).bind ?_
    rintro ⟨d1, v1⟩ ⟨a1, _, _⟩
    refine To.bind (Q := fun j => At (j.1, j.2.1, j.2.2.1, ()) (n + 2)) (To.cond (.ret a1) (.ret a1)) ?_
    rintro ⟨j1, j2, j3, j4, j5, j6, j7, j8, j9⟩ a2
    refine To.cond ?_ (To.cond ?_ (To.cond ?_ (.ret (At.mono a2 (by omega)))))
    · refine (t_pick a2 (by omega) 6).bind ?_
      rintro ⟨d2, v2⟩ ⟨a3, _, _⟩
      refine (t_pick a3 (by omega) _).bind ?_
      rintro ⟨d3, v3⟩ ⟨a4, _, _⟩
      refine (t_pick a4 (by omega) _).bind ?_
      rintro ⟨d4, v4⟩ ⟨a5, _, _⟩
      refine (t_pick a5 (by omega) _).bind ?_
      rintro ⟨d5, v5⟩ ⟨a6, _, _⟩
      exact .ret (At.mono a6 (by omega))
    · refine (t_among a2 (by omega) (by simp)).bind ?_
      rintro ⟨d2, v2⟩ ⟨a3, _⟩
      exact .ret (At.mono a3 (by omega))
    · refine (t_pick a2 (by omega) _).bind ?_
      rintro ⟨d2, v2⟩ ⟨a3, _, _⟩
      refine (t_among a3 (by omega) (by simp)).bind ?_
      rintro ⟨d3, v3⟩ ⟨a4, _⟩
      refine (t_pick a4 (by omega) _).bind ?_
      rintro ⟨d4, v4⟩ ⟨a5, _, _⟩
      refine (t_pick a5 (by omega) _).bind ?_
      rintro ⟨d5, v5⟩ ⟨a6, _, _⟩
      refine (t_among a6 (by omega) (by simp)).bind ?_
      rintro ⟨d6, v6⟩ ⟨a7, _⟩
      exact .ret (At.mono a7 (by omega))
  rintro (x | y) hj
  · simp only at hj ⊢
    refine (t_pick hj (by omega) 6).bind ?_
    rintro ⟨d2, v2⟩ ⟨a3, _, _⟩
    refine (t_pick a3 (by omega) _).bind ?_
    rintro ⟨d3, v3⟩ ⟨a4, _, _⟩
    refine To.ite (fun h0 => ?_) (fun _ => .ret (At.mono a4 (by omega)))
    refine (t_pick a4 (by omega) _).bind ?_
    rintro ⟨d4, v4⟩ ⟨a5, b5, c5⟩
    refine To.idx b5 (c5 h0) fun e _ => ?_
    refine (t_nextL hw.n _).bind fun l _ => ?_
    refine To.ite (fun h1 => ?_) (fun _ => .ret (At.mono a5 (by omega)))
    refine (t_pick a5 (by omega) _).bind ?_
    rintro ⟨d6, v6⟩ ⟨a6, b6, c6⟩
    exact To.guard2 b6 (c6 h1) (To.at_ b6 (c6 h1) fun e _ => .ret (At.mono a6 (by omega)))
  · exact .ret (At.mono hj (by omega))
theorem t_tower {c : Gl1Cur} {n : Nat} (h : At c n) (hn : n ≤ 100000000) (w : GNet) : To (s_l1Cur_tower c w) (fun r => At r.1 (n + 100)) := by
  unfold s_l1Cur_tower
  refine (t_pick h (by omega) _).bind ?_
  rintro ⟨d2, v2⟩ ⟨a3, _, _⟩
  refine (t_pick a3 (by omega) _).bind ?_
  rintro ⟨d3, v3⟩ ⟨a4, _, _⟩
  refine (t_pick a4 (by omega) _).bind ?_
  rintro ⟨d4, v4⟩ ⟨a5, _, _⟩
  exact .ret (At.mono a5 (by omega))
theorem small_of {a b f : List GLink} {t : Int} {p : List GParcel} (h1 : a.length ≤ 1048576) (h2 : b.length ≤ 1048576) (h3 : f.length ≤ 1048576) (h4 : p.length ≤ 1048576) : SmallW ((a, b, ()), f, t, p, ()) := ⟨⟨h1, h2⟩, h3, h4⟩
theorem t_network {c : Gl1Cur} {n : Nat} (h : At c n) (hn : n ≤ 1000000) : To (s_l1Cur_network c) (fun r => At r.1 (n + 300000) ∧ SmallW r.2) := by
  unfold s_l1Cur_network
  refine (t_foggy h (by omega)).bind ?_
  rintro ⟨d1, N1, F1⟩ ⟨a1, hN, hF⟩
  simp only at hN hF
  rw [(new_same hN (by omega : F1.length ≤ 1048576)).1]
  simp only [Option.bind_some]
  cases hb : (isNet N1 && areFogs N1.2.1.length F1) with
  | false => exact .ret ⟨At.mono a1 (by omega), hN, by simp only; omega, by simp⟩
  | true =>
  simp only [cond_true, Bool.not_true, cond_false]
  refine (t_pick a1 (by omega) 14).bind ?_
  rintro ⟨d2, v2⟩ ⟨a2, b2, c2⟩
  have c2 := c2 (by omega)
  simp only at b2 c2
  have hn0 : isNw (N1, F1, 0, [], ()) = true := by rw [isNw_new]; exact hb
  refine To.bind (Q := fun o => At (o.1, o.2.1, o.2.2.1, ()) (n + 250000) ∧ SmallW ((o.2.2.2.2.2.2.2.2.1, o.2.2.2.2.2.2.2.2.2.1, ()), o.2.2.2.2.2.2.2.2.2.2.1, o.2.2.2.2.2.2.2.2.2.2.2.1, o.2.2.2.2.2.2.2.2.2.2.2.2, ())) ?_ ?_
  · refine To.loop (fun k st => st.2.2.2.2.2.2.2.2.2.2.2.2.2 = (k : Int) ∧ k ≤ 14 ∧ At (st.1, st.2.1, st.2.2.1, ()) (n + 200002 + 200 * (14 - k)) ∧ SmallW ((st.2.2.2.2.2.2.2.2.1, st.2.2.2.2.2.2.2.2.2.1, ()), st.2.2.2.2.2.2.2.2.2.2.1, st.2.2.2.2.2.2.2.2.2.2.2.1, st.2.2.2.2.2.2.2.2.2.2.2.2.1, ()) ∧ isNw ((st.2.2.2.2.2.2.2.2.1, st.2.2.2.2.2.2.2.2.2.1, ()), st.2.2.2.2.2.2.2.2.2.2.1, st.2.2.2.2.2.2.2.2.2.2.2.1, st.2.2.2.2.2.2.2.2.2.2.2.2.1, ()) = true) (n := v2.toNat) ⟨by show v2 = _; omega, by omega, At.mono a2 (by omega), ⟨hN, by simp only; omega, by simp⟩, hn0⟩ ?_
    rintro k ⟨s1, s2, s3, s4, s5, s6, s7, s8, s9, s10, s11, s12, s13, s14⟩ ⟨g1, g2, g3, g4, g5⟩
    simp only at g1 g3 g4 g5
    subst g1
    refine To.ite (fun hlt => ?_) (fun _ => .ret (.end_ ⟨At.mono g3 (by omega), g4⟩))
    simp only at hlt
    have e : w64 ((k : Int) - 1) = ((k - 1 : Nat) : Int) := by rw [w64_of (by omega) (by omega)]; omega
    refine (t_act g3 (by omega) g4).bind ?_
    rintro ⟨d3, x⟩ a3
    simp only
    rw [s_acted g4 g5 x]
    simp only [Option.bind_some]
    cases hok : (acted ((s9, s10, ()), s11, s12, s13, ()) x).2 with
    | false => exact .ret (.on (k - 1) (by omega) ⟨e, by omega, At.mono a3 (by omega), g4, g5⟩)
    | true =>
      obtain ⟨i1, i2⟩ := acted_ok g4 g5 x hok
      exact .ret (.on (k - 1) (by omega) ⟨e, by omega, At.mono a3 (by omega), i2, i1⟩)
  rintro ⟨s1, s2, s3, s4, s5, s6, s7, s8, s9, s10, s11, s12, s13⟩ ⟨a3, g⟩
  simp only at g
  simp only [s_own g, Option.bind_some]
  have q1 : s9.length ≤ 1048576 := g.n.t
  have q2 : s10.length ≤ 1048576 := g.n.l
  have q3 : s11.length ≤ 1048576 := g.f
  have q4 : s13.length ≤ 1048576 := g.p
  refine To.bind (Q := fun o => At (o.1, o.2.1, o.2.2.1, ()) (n + 260000) ∧ SmallW ((o.2.2.2.2.2.2.2.2.1, o.2.2.2.2.2.2.2.2.2.1, ()), o.2.2.2.2.2.2.2.2.2.2.1, o.2.2.2.2.2.2.2.2.2.2.2.1, o.2.2.2.2.2.2.2.2.2.2.2.2, ())) ?_ ?_
  · refine To.ite (fun h0 => ?_) (fun _ => .ret ⟨At.mono a3 (by omega), g⟩)
    refine (t_pick a3 (by omega) _).bind ?_
    rintro ⟨d4, v4⟩ ⟨a4, b4, c4⟩
    have c4 := c4 h0
    simp only at b4 c4
    refine To.guard2 b4 c4 ?_
    refine (t_pick a4 (by omega) 30).bind ?_
    rintro ⟨d5, v5⟩ ⟨a5, _, _⟩
    have hs : ∀ x : GParcel, (s13.set (Int.toNat v4) x).length ≤ 1048576 := fun x => by rw [List.length_set]; exact q4
    refine To.cond ?_ (To.cond ?_ (To.cond ?_ (To.cond ?_ (To.cond ?_ (To.cond ?_ (To.cond ?_ (.ret ⟨At.mono a5 (by omega), g⟩)))))))
    · refine (t_among a5 (by omega) (by simp)).bind ?_
      rintro ⟨d6, v6⟩ ⟨a6, _⟩
      exact To.at_ b4 c4 fun e _ => .ret ⟨At.mono a6 (by omega), small_of q1 q2 q3 (hs _)⟩
    · refine To.at_ b4 c4 fun e _ => ?_
      refine (t_among a5 (by omega) (by simp)).bind ?_
      rintro ⟨d6, v6⟩ ⟨a6, _⟩
      exact To.at_ b4 c4 fun e _ => .ret ⟨At.mono a6 (by omega), small_of q1 q2 q3 (hs _)⟩
    · refine (t_among a5 (by omega) (by simp)).bind ?_
      rintro ⟨d6, v6⟩ ⟨a6, _⟩
      exact To.at_ b4 c4 fun e _ => .ret ⟨At.mono a6 (by omega), small_of q1 q2 q3 (hs _)⟩
    · refine (t_among a5 (by omega) (by simp)).bind ?_
      rintro ⟨d6, v6⟩ ⟨a6, _⟩
      exact To.at_ b4 c4 fun e _ => .ret ⟨At.mono a6 (by omega), small_of q1 q2 q3 (hs _)⟩
    · refine (t_among a5 (by omega) (by simp)).bind ?_
      rintro ⟨d6, v6⟩ ⟨a6, _⟩
      exact To.at_ b4 c4 fun e _ => .ret ⟨At.mono a6 (by omega), small_of q1 q2 q3 (hs _)⟩
    · refine (t_among a5 (by omega) (by simp)).bind ?_
      rintro ⟨d6, v6⟩ ⟨a6, _⟩
      exact To.at_ b4 c4 fun e _ => .ret ⟨At.mono a6 (by omega), small_of q1 q2 q3 (hs _)⟩
    · rw [w64_of (x := v4 + 1) (by omega) (by omega)]
      refine To.gd (by simp only [Bool.and_eq_true, decide_eq_true_eq]; omega) (To.gd (by simp only [Bool.and_eq_true, decide_eq_true_eq]; omega) (To.gd (by simp only [Bool.and_eq_true, decide_eq_true_eq, Nat.ble_eq]; unfold lim; omega) ?_))
      refine .ret ⟨At.mono a5 (by omega), small_of q1 q2 q3 ?_⟩
      simp only [List.length_append, List.length_take, List.length_drop]
      omega
  rintro ⟨j1, j2, j3, j4, j5, j6, j7, j8, j9, j10, j11, j12, j13⟩ ⟨a4, g2⟩
  simp only at g2
  refine To.bind (Q := fun o => At (o.1, o.2.1, o.2.2.1, ()) (n + 270000) ∧ SmallW ((o.2.2.2.2.2.2.2.2.1, o.2.2.2.2.2.2.2.2.2.1, ()), o.2.2.2.2.2.2.2.2.2.2.1, o.2.2.2.2.2.2.2.2.2.2.2.1, o.2.2.2.2.2.2.2.2.2.2.2.2, ())) ?_ ?_
  · refine (t_one a4 (by omega) 24).bind ?_
    rintro ⟨d6, v6⟩ a5
    refine To.cond ?_ (.ret ⟨At.mono a5 (by omega), g2⟩)
    refine (t_among a5 (by omega) (by simp)).bind ?_
    rintro ⟨d7, v7⟩ ⟨a6, _⟩
    exact .ret ⟨At.mono a6 (by omega), g2.n, g2.f, g2.p⟩
  rintro ⟨k1, k2, k3, k4, k5, k6, k7, k8, k9, k10, k11, k12, k13⟩ ⟨a5, g3⟩
  simp only at g3
  refine (t_one a5 (by omega) 24).bind ?_
  rintro ⟨d6, v6⟩ a6
  refine To.cond ?_ (.ret ⟨At.mono a6 (by omega), g3⟩)
  refine (t_pick a6 (by omega) 2).bind ?_
  rintro ⟨d7, v7⟩ ⟨a7, b7, c7⟩
  have c7 := c7 (by omega)
  simp only at b7 c7
  rw [w64_of (x := 40 + v7) (by omega) (by omega)]
  refine To.bind (Q := fun o => At (o.1, o.2.1, o.2.2.1, ()) (n + 300000) ∧ SmallW ((o.2.2.2.2.2.2.2.2.1, o.2.2.2.2.2.2.2.2.2.1, ()), o.2.2.2.2.2.2.2.2.2.2.1, o.2.2.2.2.2.2.2.2.2.2.2.1, o.2.2.2.2.2.2.2.2.2.2.2.2, ())) ?_ ?_
  · refine To.loop (fun k st => st.2.2.2.2.2.2.2.2.2.2.2.2.length + k = 41 ∧ At (st.1, st.2.1, st.2.2.1, ()) (n + 300000) ∧ SmallW ((st.2.2.2.2.2.2.2.2.1, st.2.2.2.2.2.2.2.2.2.1, ()), st.2.2.2.2.2.2.2.2.2.2.1, st.2.2.2.2.2.2.2.2.2.2.2.1, st.2.2.2.2.2.2.2.2.2.2.2.2, ())) (n := 41) ⟨rfl, At.mono a7 (by omega), g3.n, g3.f, by simp⟩ ?_
    rintro k ⟨s1, s2, s3, s4, s5, s6, s7, s8, s9, s10, s11, s12, s13⟩ ⟨g1, g2, g4⟩
    simp only at g1 g2 g4
    refine To.ite (fun hlt => ?_) (fun _ => .ret (.end_ ⟨g2, g4⟩))
    simp only at hlt
    exact To.guard (by unfold lim; simp only [List.length_cons, List.length_nil]; omega) (.ret (.on (k - 1) (by omega) ⟨by simp only [len1]; omega, g2, g4.n, g4.f, by simp only [len1]; omega⟩))
  rintro ⟨s1, s2, s3, s4, s5, s6, s7, s8, s9, s10, s11, s12, s13⟩ ⟨g1, g2⟩
  exact .ret ⟨g1, g2⟩
theorem start {code : List Int} (hb : ∀ b ∈ code, 0 ≤ b ∧ b ≤ 255) (hl : code.length ≤ 1048576) : At (code, 0, 0, ()) 0 := ⟨⟨hb, hl, by simp, by simp⟩, by simp⟩
section
variable {code : List Int} (hb : ∀ b ∈ code, 0 ≤ b ∧ b ≤ 255) (hl : code.length ≤ 1048576)
include hb hl
theorem t_whereD : To (s_DrawWhereIs code) (fun r => SmallW r.1) := by
  unfold s_DrawWhereIs
  refine (t_network (start hb hl) (by omega)).bind ?_
  rintro ⟨d1, w⟩ ⟨a1, h⟩
  simp only at h
  refine To.ite (fun h0 => ?_) (fun h0 => ?_)
  · refine (t_one a1 (by omega) _).bind ?_
    rintro ⟨d3, v3⟩ a3
    refine To.cond ?_ ?_
    · refine (t_pick a3 (by omega) _).bind ?_
      rintro ⟨d4, v4⟩ ⟨a4, b4, c4⟩
      exact To.idx b4 (c4 h0) fun e _ => .ret h
    · refine (t_pick a3 (by omega) _).bind ?_
      rintro ⟨d4, v4⟩ ⟨a4, b4, c4⟩
      exact .ret h
  · simp only [cond_false]
    refine (t_pick a1 (by omega) _).bind ?_
    rintro ⟨d4, v4⟩ ⟨a4, b4, c4⟩
    exact .ret h
theorem t_newD : To (s_DrawNewNetwork code) (fun r => SmallN r.1 ∧ r.2.length ≤ 1048576) := by
  unfold s_DrawNewNetwork
  refine (t_foggy (start hb hl) (by omega)).bind ?_
  rintro ⟨d1, N1, F1⟩ ⟨a1, h, h2⟩
  exact .ret ⟨h, by simp only at h2 ⊢; omega⟩
theorem t_acceptD : To (s_DrawAcceptParcels code) (fun r => SmallW r.1) := by
  unfold s_DrawAcceptParcels
  refine (t_network (start hb hl) (by omega)).bind ?_
  rintro ⟨d1, w⟩ ⟨a1, h⟩
  refine (t_among a1 (by omega) (by simp)).bind ?_
  rintro ⟨d2, v2⟩ ⟨a2, _⟩
  refine (t_among a2 (by omega) (by simp)).bind ?_
  rintro ⟨d3, v3⟩ ⟨a3, _⟩
  refine (t_tower a3 (by omega) _).bind ?_
  rintro ⟨d4, v4⟩ a4
  refine (t_tower a4 (by omega) _).bind ?_
  rintro ⟨d5, v5⟩ a5
  refine (t_among a5 (by omega) (by simp)).bind ?_
  rintro ⟨d6, v6⟩ ⟨a6, _⟩
  refine (t_among a6 (by omega) (by simp)).bind ?_
  rintro ⟨d7, v7⟩ ⟨a7, _⟩
  exact .ret h
theorem t_runD : To (s_DrawRunActs code) (fun r => SmallW r.1 ∧ r.2.length ≤ 200) := by
  unfold s_DrawRunActs
  refine (t_network (start hb hl) (by omega)).bind ?_
  rintro ⟨d1, w⟩ ⟨a1, h⟩
  simp only at h
  refine (t_pick a1 (by omega) 9).bind ?_
  rintro ⟨d2, v2⟩ ⟨a2, b2, c2⟩
  have c2 := c2 (by omega)
  simp only at b2 c2
  refine To.bind (Q := fun o => At (o.2.2.2.2.2.1, o.2.2.2.2.2.2.1, o.2.2.2.2.2.2.2.1, ()) 400000 ∧ SmallW ((o.2.2.2.2.2.2.2.2.1, o.2.2.2.2.2.2.2.2.2.1, ()), o.2.2.2.2.2.2.2.2.2.2.1, o.2.2.2.2.2.2.2.2.2.2.2.1, o.2.2.2.2.2.2.2.2.2.2.2.2.1, ()) ∧ o.2.2.2.2.2.2.2.2.2.2.2.2.2.length ≤ 9) ?_ ?_
  · refine To.loop (fun k st => st.2.2.2.2.2.2.2.2.2.2.2.2.2.2.2.2.2.2.2 = (k : Int) ∧ k ≤ 9 ∧ At (st.2.2.2.2.2.1, st.2.2.2.2.2.2.1, st.2.2.2.2.2.2.2.1, ()) (300002 + 200 * (9 - k)) ∧ SmallW ((st.2.2.2.2.2.2.2.2.1, st.2.2.2.2.2.2.2.2.2.1, ()), st.2.2.2.2.2.2.2.2.2.2.1, st.2.2.2.2.2.2.2.2.2.2.2.1, st.2.2.2.2.2.2.2.2.2.2.2.2.1, ()) ∧ SmallW ((st.2.2.2.2.2.2.2.2.2.2.2.2.2.2.1, st.2.2.2.2.2.2.2.2.2.2.2.2.2.2.2.1, ()), st.2.2.2.2.2.2.2.2.2.2.2.2.2.2.2.2.1, st.2.2.2.2.2.2.2.2.2.2.2.2.2.2.2.2.2.1, st.2.2.2.2.2.2.2.2.2.2.2.2.2.2.2.2.2.2.1, ()) ∧ st.2.2.2.2.2.2.2.2.2.2.2.2.2.1.length + k ≤ 9) (n := v2.toNat) ⟨by show v2 = _; omega, by omega, At.mono a2 (by omega), h, h, by simp only [List.length_nil]; omega⟩ ?_
    rintro k ⟨s1, s2, s3, s4, s5, s6, s7, s8, s9, s10, s11, s12, s13, s14, s15, s16, s17, s18, s19, s20⟩ ⟨g1, g2, g3, g4, g5, g6⟩
    simp only at g1 g3 g4 g5 g6
    subst g1
    refine To.ite (fun hlt => ?_) (fun _ => .ret (.end_ ⟨At.mono g3 (by omega), g4, by simp only; omega⟩))
    simp only at hlt
    have e : w64 ((k : Int) - 1) = ((k - 1 : Nat) : Int) := by rw [w64_of (by omega) (by omega)]; omega
    refine (t_act g3 (by omega) g5).bind ?_
    rintro ⟨d3, x⟩ a3
    simp only
    rw [s_isNw g5.fine]
    simp only [Option.bind_some]
    cases hnw : isNw ((s15, s16, ()), s17, s18, s19, ()) with
    | false => exact To.guard (by unfold lim; simp only [List.length_cons, List.length_nil]; omega) (.ret (.on (k - 1) (by omega) ⟨e, by omega, At.mono a3 (by omega), g4, g5, by simp only [len1]; omega⟩))
    | true =>
      simp only [cond_true]
      rw [s_acted g5 hnw x]
      simp only [Option.bind_some]
      cases hok : (acted ((s15, s16, ()), s17, s18, s19, ()) x).2 with
      | true =>
        obtain ⟨i1, i2⟩ := acted_ok g5 hnw x hok
        exact To.guard (by unfold lim; simp only [List.length_cons, List.length_nil]; omega) (.ret (.on (k - 1) (by omega) ⟨e, by omega, At.mono a3 (by omega), g4, i2, by simp only [len1]; omega⟩))
      | false =>
        simp only [cond_false]
        refine (t_one a3 (by omega) _).bind ?_
        rintro ⟨d4, v4⟩ a4
        refine To.cond (.ret (.on (k - 1) (by omega) ⟨e, by omega, At.mono a4 (by omega), g4, g5, by simp only; omega⟩)) ?_
        exact To.guard (by unfold lim; simp only [List.length_cons, List.length_nil]; omega) (.ret (.on (k - 1) (by omega) ⟨e, by omega, At.mono a4 (by omega), g4, g5, by simp only [len1]; omega⟩))
  rintro ⟨s1, s2, s3, s4, s5, s6, s7, s8, s9, s10, s11, s12, s13, s14⟩ ⟨a3, g1, g2⟩
  simp only at g1 g2
  refine (t_one a3 (by omega) _).bind ?_
  rintro ⟨d4, v4⟩ a4
  refine To.cond ?_ (.ret ⟨g1, by simp only; omega⟩)
  refine (t_pick a4 (by omega) 2).bind ?_
  rintro ⟨d5, v5⟩ ⟨a5, b5, c5⟩
  have c5 := c5 (by omega)
  simp only at b5 c5
  rw [w64_of (x := 100 + v5) (by omega) (by omega)]
  refine To.bind (Q := fun o => SmallW ((o.2.2.2.2.2.1, o.2.2.2.2.2.2.1, ()), o.2.2.2.2.2.2.2.1, o.2.2.2.2.2.2.2.2.1, o.2.2.2.2.2.2.2.2.2.1, ()) ∧ o.2.2.2.2.2.2.2.2.2.2.length ≤ 200) ?_ ?_
  · refine To.loop (fun k st => st.2.2.2.2.2.2.2.2.2.2.length + k = 101 ∧ SmallW ((st.2.2.2.2.2.1, st.2.2.2.2.2.2.1, ()), st.2.2.2.2.2.2.2.1, st.2.2.2.2.2.2.2.2.1, st.2.2.2.2.2.2.2.2.2.1, ())) (n := 101 - s14.length) ⟨by simp only; omega, g1⟩ ?_
    rintro k ⟨t1, t2, t3, t4, t5, t6, t7, t8, t9, t10, t11⟩ ⟨f1, f2⟩
    simp only at f1 f2
    refine To.ite (fun hlt => ?_) (fun _ => .ret (.end_ ⟨f2, by simp only; omega⟩))
    simp only at hlt
    exact To.guard (by unfold lim; simp only [List.length_cons, List.length_nil]; omega) (.ret (.on (k - 1) (by omega) ⟨by simp only [len1]; omega, f2⟩))
  rintro ⟨t1, t2, t3, t4, t5, t6, t7, t8, t9, t10, t11⟩ ⟨f1, f2⟩
  exact .ret ⟨f1, f2⟩
end
end Go.Proofs.Ytlalabdgkkfjpaa.Sh
