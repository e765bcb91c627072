/-
  What the two sides compute of prices, as closed forms.
-/
import Derived.Test.YtkjcobhldfhodaaEFns
import Derived.Test.YtkjcobhldfhodaaXLaw
namespace Go.Proofs.Ytkjcobhldfhodaa.Sh.P
open Go Go.Ab Go.Proofs

theorem l1In_eq (n lo hi : Int) : s_l1In n lo hi = some (decide (lo ≤ n) && decide (n ≤ hi)) := by
  unfold s_l1In
  cases decide (lo ≤ n) <;> rfl
theorem within_eq (n lo hi : Int) : i_within n lo hi = some (decide (lo ≤ n) && decide (n ≤ hi)) := by
  unfold i_within
  cases decide (lo ≤ n) <;> rfl
def inB (n lo hi : Int) : Bool := decide (lo ≤ n) && decide (n ≤ hi)
def isPrice (p : GPrice) : Bool := inB p.1 0 10000 && (inB p.2.1 0 100 && (inB p.2.2.1 0 1000 && inB p.2.2.2.1 0 200))
def isSent (x : GSent) : Bool := inB x.1 1 72 && (inB x.2.1 1 16 && inB x.2.2.2.1 0 10000)

theorem s_isPrice (p : GPrice) : s_pcPrice p = some (isPrice p) := by
  unfold s_pcPrice isPrice
  simp only [l1In_eq, inB]
  cases (decide (0 ≤ p.1) && decide (p.1 ≤ 10000)) <;> cases (decide (0 ≤ p.2.1) && decide (p.2.1 ≤ 100)) <;> cases (decide (0 ≤ p.2.2.1) && decide (p.2.2.1 ≤ 1000)) <;> rfl
theorem i_isPrice (p : GPrice) : i_IsPrice p = some (isPrice p) := by
  unfold i_IsPrice isPrice
  simp only [within_eq, inB]
  cases (decide (0 ≤ p.1) && decide (p.1 ≤ 10000)) <;> cases (decide (0 ≤ p.2.1) && decide (p.2.1 ≤ 100)) <;> cases (decide (0 ≤ p.2.2.1) && decide (p.2.2.1 ≤ 1000)) <;> rfl
theorem s_isSent (x : GSent) : s_pcSent x = some (isSent x) := by
  unfold s_pcSent isSent
  simp only [l1In_eq, inB]
  cases (decide (1 ≤ x.1) && decide (x.1 ≤ 72)) <;> cases (decide (1 ≤ x.2.1) && decide (x.2.1 ≤ 16)) <;> rfl
theorem i_isSent_eq (x : GSent) : i_isSent x = some (isSent x) := by
  unfold i_isSent isSent
  simp only [within_eq, inB]
  cases (decide (1 ≤ x.1) && decide (x.1 ≤ 72)) <;> cases (decide (1 ≤ x.2.1) && decide (x.2.1 ≤ 16)) <;> rfl

def cost (p : GPrice) (x : GSent) : Int :=
  bif x.2.2.1 then
    w64 ((w64 ((w64 (p.1 + (w64 ((w64 (p.2.1 * x.1)) * x.2.1)))) + (w64 (p.2.2.1 * x.2.1)))) + (w64 (Int.tdiv (w64 ((w64 ((w64 (p.1 + (w64 ((w64 (p.2.1 * x.1)) * x.2.1)))) + (w64 (p.2.2.1 * x.2.1)))) * p.2.2.2.1)) 100)))
  else
    w64 ((w64 (p.1 + (w64 ((w64 (p.2.1 * x.1)) * x.2.1)))) + (w64 (p.2.2.1 * x.2.1)))
theorem s_cost (p : GPrice) (x : GSent) : s_pcCost p x = some (cost p x) := by
  unfold s_pcCost cost
  cases x.2.2.1 <;> rfl
theorem i_cost (p : GPrice) (x : GSent) : i_priceOf p x = some (cost p x) := by
  unfold i_priceOf cost
  cases x.2.2.1 <;> rfl

def lastLe (c : Int → Bool) : Nat → Int
  | 0 => 0
  | n + 1 => bif c (n + 1) then n + 1 else lastLe c n

theorem lastLe_range (c : Int → Bool) : ∀ n, 0 ≤ lastLe c n ∧ lastLe c n ≤ n
  | 0 => by simp [lastLe]
  | n + 1 => by
    have := lastLe_range c n
    simp only [lastLe]
    cases c (n + 1) <;> simp <;> omega

theorem up_loop {c : Int → Bool} {N : Nat} (hN : N < 1000000) {f : Int × Int → Option ((Int × Int) ⊕ Int)}
    (hf : ∀ m t, f (m, t) = bif decide (t ≤ N) then (bif c t then some (.inl (t, w64 (t + 1))) else some (.inl (m, w64 (t + 1)))) else some (.inr m)) :
    ∀ k n : Nat, n + k = N → loopE f (lastLe c n, (n : Int) + 1) = some (lastLe c N)
  | 0, n, h => by
    have : n = N := by omega
    subst this
    refine loopE_done ?_
    rw [hf]
    rw [show decide ((n : Int) + 1 ≤ n) = false from decide_eq_false (by omega)]
    rfl
  | k + 1, n, h => by
    have ih := up_loop hN hf k (n + 1) (by omega)
    rw [← ih]
    refine loopE_step ?_
    rw [hf]
    rw [show decide ((n : Int) + 1 ≤ N) = true from decide_eq_true (by omega)]
    rw [w64_of (by omega) (by omega)]
    simp only [cond_true, lastLe]
    rw [show ((n + 1 : Nat) : Int) = (n : Int) + 1 from rfl]
    cases c (n + 1) <;> rfl

def downRes (l : Int) : Unit ⊕ (Int × Bool) := if l = 0 then .inl () else .inr (l, true)

theorem down_loop {c : Int → Bool} {g : Int → Option (Int ⊕ (Unit ⊕ (Int × Bool)))}
    (hg : ∀ t, g t = bif decide (0 < t) then (bif c t then some (.inr (.inr (t, true))) else some (.inl (w64 (t - 1)))) else some (.inr (.inl ()))) :
    ∀ n : Nat, n < 1000000 → loopE g n = some (downRes (lastLe c n))
  | 0, _ => by
    refine loopE_done ?_
    rw [hg]
    rfl
  | n + 1, h => by
    have hd : decide (0 < ((n + 1 : Nat) : Int)) = true := decide_eq_true (by omega)
    simp only [lastLe]
    have hc : ((n + 1 : Nat) : Int) = (n : Int) + 1 := rfl
    cases hb : c ((n : Int) + 1) with
    | true =>
      refine loopE_done ?_
      rw [hg, hd, hc, hb]
      simp only [cond_true, downRes]
      rw [if_neg (by omega)]
    | false =>
      have ih := down_loop hg n (by omega)
      simp only [cond_false]
      rw [← ih]
      refine loopE_step ?_
      rw [hg, hd, hc, hb]
      simp only [cond_true, cond_false]
      rw [w64_of (by omega) (by omega)]
      congr 2
      omega

theorem s_Farthest (p : GPrice) (s c : Int) : s_FarthestFor p s c = some (if isPrice p = true ∧ inB s 1 72 = true ∧ inB c 0 1000000 = true then (lastLe (fun t => decide (cost p (s, t, false, 0, ()) ≤ c)) 16, decide (0 < lastLe (fun t => decide (cost p (s, t, false, 0, ()) ≤ c)) 16)) else (0, false)) := by
  unfold s_FarthestFor s_pcCents
  simp only [s_isPrice, l1In_eq, Option.bind_some, s_cost]
  rw [show (decide (1 ≤ s) && decide (s ≤ 72)) = inB s 1 72 from rfl, show (decide (0 ≤ c) && decide (c ≤ 1000000)) = inB c 0 1000000 from rfl]
  cases isPrice p <;> cases inB s 1 72 <;> cases inB c 0 1000000 <;> try rfl
  simp only [Bool.not_true, cond_false, Option.bind_some, and_self, if_true]
  have := up_loop (c := fun t => decide (cost p (s, t, false, 0, ()) ≤ c)) (N := 16) (by decide) (f := fun st7 : Int × Int => bif (decide (st7.2 ≤ 16)) then bif (decide (cost p (s, st7.2, false, 0, ()) ≤ c)) then some (.inl (st7.2, (w64 (st7.2 + 1)))) else some (.inl (st7.1, (w64 (st7.2 + 1)))) else some (.inr st7.1)) (fun m t => rfl) 16 0 rfl
  simp only [lastLe] at this
  rw [show ((0 : Nat) : Int) + 1 = 1 from rfl] at this
  rw [this]
  rfl
theorem i_Farthest (p : GPrice) (s c : Int) : i_FarthestFor p s c = some (if isPrice p = true ∧ inB s 1 72 = true ∧ inB c 0 1000000 = true then (lastLe (fun t => decide (cost p (s, t, false, 0, ()) ≤ c)) 16, decide (0 < lastLe (fun t => decide (cost p (s, t, false, 0, ()) ≤ c)) 16)) else (0, false)) := by
  unfold i_FarthestFor
  simp only [i_isPrice, within_eq, Option.bind_some, i_cost]
  rw [show (decide (1 ≤ s) && decide (s ≤ 72)) = inB s 1 72 from rfl, show (decide (0 ≤ c) && decide (c ≤ 1000000)) = inB c 0 1000000 from rfl]
  cases isPrice p <;> cases inB s 1 72 <;> cases inB c 0 1000000 <;> try rfl
  simp only [Bool.not_true, cond_false, Option.bind_some, and_self, if_true]
  have := down_loop (c := fun t => decide (cost p (s, t, false, 0, ()) ≤ c)) (g := fun st7 : Int => bif (decide (0 < st7)) then bif (decide (cost p (s, st7, false, 0, ()) ≤ c)) then some (.inr (.inr (st7, true))) else some (.inl (w64 (st7 - 1))) else some (.inr (.inl ()))) (fun t => rfl) 16 (by decide)
  rw [show ((16 : Nat) : Int) = 16 from rfl] at this
  rw [this]
  generalize hl : lastLe (fun t => decide (cost p (s, t, false, 0, ()) ≤ c)) 16 = l
  have hr := lastLe_range (fun t => decide (cost p (s, t, false, 0, ()) ≤ c)) 16
  rw [hl] at hr
  by_cases h0 : l = 0
  · subst h0; rfl
  · simp only [downRes, if_neg h0, Option.bind_some]
    rw [show decide (0 < l) = true from decide_eq_true (by omega)]
theorem s_Signals (p : GPrice) (s c : Int) : s_SignalsFor p s c = some (if isPrice p = true ∧ inB s 1 16 = true ∧ inB c 0 1000000 = true then (lastLe (fun t => decide (cost p (t, s, false, 0, ()) ≤ c)) 72, decide (0 < lastLe (fun t => decide (cost p (t, s, false, 0, ()) ≤ c)) 72)) else (0, false)) := by
  unfold s_SignalsFor s_pcCents
  simp only [s_isPrice, l1In_eq, Option.bind_some, s_cost]
  rw [show (decide (1 ≤ s) && decide (s ≤ 16)) = inB s 1 16 from rfl, show (decide (0 ≤ c) && decide (c ≤ 1000000)) = inB c 0 1000000 from rfl]
  cases isPrice p <;> cases inB s 1 16 <;> cases inB c 0 1000000 <;> try rfl
  simp only [Bool.not_true, cond_false, Option.bind_some, and_self, if_true]
  have := up_loop (c := fun t => decide (cost p (t, s, false, 0, ()) ≤ c)) (N := 72) (by decide) (f := fun st7 : Int × Int => bif (decide (st7.2 ≤ 72)) then bif (decide (cost p (st7.2, s, false, 0, ()) ≤ c)) then some (.inl (st7.2, (w64 (st7.2 + 1)))) else some (.inl (st7.1, (w64 (st7.2 + 1)))) else some (.inr st7.1)) (fun m t => rfl) 72 0 rfl
  simp only [lastLe] at this
  rw [show ((0 : Nat) : Int) + 1 = 1 from rfl] at this
  rw [this]
  rfl
theorem i_Signals (p : GPrice) (s c : Int) : i_SignalsFor p s c = some (if isPrice p = true ∧ inB s 1 16 = true ∧ inB c 0 1000000 = true then (lastLe (fun t => decide (cost p (t, s, false, 0, ()) ≤ c)) 72, decide (0 < lastLe (fun t => decide (cost p (t, s, false, 0, ()) ≤ c)) 72)) else (0, false)) := by
  unfold i_SignalsFor
  simp only [i_isPrice, within_eq, Option.bind_some, i_cost]
  rw [show (decide (1 ≤ s) && decide (s ≤ 16)) = inB s 1 16 from rfl, show (decide (0 ≤ c) && decide (c ≤ 1000000)) = inB c 0 1000000 from rfl]
  cases isPrice p <;> cases inB s 1 16 <;> cases inB c 0 1000000 <;> try rfl
  simp only [Bool.not_true, cond_false, Option.bind_some, and_self, if_true]
  have := down_loop (c := fun t => decide (cost p (t, s, false, 0, ()) ≤ c)) (g := fun st7 : Int => bif (decide (0 < st7)) then bif (decide (cost p (st7, s, false, 0, ()) ≤ c)) then some (.inr (.inr (st7, true))) else some (.inl (w64 (st7 - 1))) else some (.inr (.inl ()))) (fun t => rfl) 72 (by decide)
  rw [show ((72 : Nat) : Int) = 72 from rfl] at this
  rw [this]
  generalize hl : lastLe (fun t => decide (cost p (t, s, false, 0, ()) ≤ c)) 72 = l
  have hr := lastLe_range (fun t => decide (cost p (t, s, false, 0, ()) ≤ c)) 72
  rw [hl] at hr
  by_cases h0 : l = 0
  · subst h0; rfl
  · simp only [downRes, if_neg h0, Option.bind_some]
    rw [show decide (0 < l) = true from decide_eq_true (by omega)]
theorem inB_iff {n lo hi : Int} : inB n lo hi = true ↔ lo ≤ n ∧ n ≤ hi := by simp [inB]

theorem mul_range {a b A B : Int} (h1 : 0 ≤ a) (h2 : a ≤ A) (h3 : 0 ≤ b) (h4 : b ≤ B) : 0 ≤ a * b ∧ a * b ≤ A * B :=
  ⟨Int.mul_nonneg h1 h3, Int.mul_le_mul h2 h4 h3 (by omega)⟩

theorem cost_range {p : GPrice} {x : GSent} (hp : isPrice p = true) (hx : isSent x = true) : 0 ≤ cost p x ∧ cost p x ≤ 423600 := by
  unfold isPrice at hp
  unfold isSent at hx
  simp only [Bool.and_eq_true, inB_iff] at hp hx
  obtain ⟨⟨b1, b2⟩, ⟨a1, a2⟩, ⟨c1, c2⟩, d1, d2⟩ := hp
  obtain ⟨⟨s1, s2⟩, ⟨t1, t2⟩, _⟩ := hx
  unfold cost
  have e1 := mul_range a1 a2 (show (0 : Int) ≤ x.1 by omega) s2
  have e2 := mul_range e1.1 e1.2 (show (0 : Int) ≤ x.2.1 by omega) t2
  have e3 := mul_range c1 c2 (show (0 : Int) ≤ x.2.1 by omega) t2
  generalize p.2.1 * x.1 = u at *
  generalize hv : u * x.2.1 = v at *
  generalize p.2.2.1 * x.2.1 = z at *
  rw [w64_of (x := u) (by omega) (by omega), hv, w64_of (x := v) (by omega) (by omega), w64_of (x := p.1 + v) (by omega) (by omega), w64_of (x := z) (by omega) (by omega), w64_of (x := p.1 + v + z) (by omega) (by omega)]
  have e4 := mul_range (show 0 ≤ p.1 + v + z by omega) (show p.1 + v + z ≤ 141200 by omega) d1 d2
  cases x.2.2.1 with
  | false => simp only [cond_false]; omega
  | true =>
    simp only [cond_true]
    generalize (p.1 + v + z) * p.2.2.2.1 = y at *
    rw [w64_of (x := y) (by omega) (by omega), Int.tdiv_eq_ediv_of_nonneg (by omega), w64_of (x := y / 100) (by omega) (by omega), w64_of (by omega) (by omega)]
    omega

def tot (c : Int → Int) (n : Nat) : Nat → Int
  | 0 => 0
  | k + 1 => c n + tot c (n + 1) k

theorem sum_loop {c : Int → Int} {N : Nat} (hN : N < 1000000) {f : Int × Int → Option ((Int × Int) ⊕ Int)}
    (hf : ∀ s t, f (s, t) = bif decide (t < N) then some (.inl (w64 (s + c t), w64 (t + 1))) else some (.inr s)) :
    ∀ (k n : Nat) (s : Int), n + k = N → loopE f (w64 s, (n : Int)) = some (w64 (s + tot c n k))
  | 0, n, s, h => by
    have : n = N := by omega
    subst this
    refine loopE_done ?_
    rw [hf, show decide ((n : Int) < n) = false from decide_eq_false (by omega)]
    simp [tot]
  | k + 1, n, s, h => by
    have ih := sum_loop hN hf k (n + 1) (s + c n) (by omega)
    have e : s + tot c n (k + 1) = s + c n + tot c (n + 1) k := by simp only [tot]; omega
    rw [e, ← ih]
    refine loopE_step ?_
    rw [hf, show decide ((n : Int) < N) = true from decide_eq_true (by omega), w64_add_left, w64_of (x := (n : Int) + 1) (by omega) (by omega)]
    rfl

def part (p : GPrice) (x : GSent) (n : Int) (i : Int) : Int := bif decide (i < Int.tmod x.1 n) then cost p (w64 (w64 (Int.tdiv x.1 n) + 1), x.2) else cost p (w64 (Int.tdiv x.1 n), x.2)

theorem part_bind {p : GPrice} {x : GSent} {n i : Int} {R : Type} {k : Int → Option R} {g : GPrice → GSent → Option Int} (hg : ∀ p x, g p x = some (cost p x)) :
    (bif (decide (i < (Int.tmod x.1 n))) then (g p ((w64 ((w64 (Int.tdiv x.1 n)) + 1)), x.2)).bind k else (g p ((w64 (Int.tdiv x.1 n)), x.2)).bind k) = k (part p x n i) := by
  unfold part
  simp only [hg, Option.bind_some]
  cases decide (i < (Int.tmod x.1 n)) <;> rfl

theorem s_pcList_eq {l : List GSent} (h : l.length ≤ 1048576) : s_pcList l = some (l.all isSent && decide ((l.length : Int) ≤ 20)) := by
  unfold s_pcList
  rw [for_loop (a := l) (fun (_ : Unit) i => i) (fun _ _ x => some (bif isSent x then .inl () else .inr (.inr false))) (fun _ => .inl ()) () ?_ ?_ ?_]
  · obtain ⟨h1, h2⟩ := all_res isSent (fun _ => false) l 0
    cases ha : l.all isSent with
    | true => rw [h1 ha]; rfl
    | false => obtain ⟨_, _, e⟩ := h2 ha; rw [e]; rfl
  · rfl
  · intro s i x hi hx
    simp only [idx_get, hx, Option.bind_some, s_isSent]
    rw [show decide ((i : Int) < l.length) = true from decide_eq_true (by omega), w64_of (by omega) (by omega)]
    cases isSent x <;> rfl
  · intro s; simp

theorem i_AreSent_eq {l : List GSent} (h : l.length ≤ 1048576) : i_AreSent l = some (l.all isSent && decide ((l.length : Int) ≤ 20)) := by
  unfold i_AreSent slices_ContainsFunc_Sent_54 slices_IndexFunc_Sent_54
  have hi : ∀ x, i_AreSent_1 x = some (!isSent x) := fun x => by
    unfold i_AreSent_1
    rw [i_isSent_eq]
    rfl
  rw [for_loop (a := l) (fun (_ : Unit) i => i) (fun _ i x => some (bif isSent x then .inl () else .inr (.inr (i : Int)))) (fun _ => .inl ()) () ?_ ?_ ?_]
  · obtain ⟨h1, h2⟩ := all_res isSent (fun i => (i : Int)) l 0
    cases ha : l.all isSent with
    | true =>
      rw [h1 ha]
      cases decide ((l.length : Int) ≤ 20) <;> rfl
    | false =>
      obtain ⟨j, _, e⟩ := h2 ha
      rw [e]
      simp only [Option.bind_some]
      rw [show decide ((0 : Int) ≤ (j : Int)) = true from decide_eq_true (by omega)]
      cases decide ((l.length : Int) ≤ 20) <;> rfl
  · rfl
  · intro s i x hi' hx
    simp only [idx_get, hx, Option.bind_some, hi]
    rw [show decide ((i : Int) < l.length) = true from decide_eq_true (by omega), w64_of (by omega) (by omega)]
    cases isSent x <;> rfl
  · intro s; simp

theorem cmp_sign (a b : Int) (ha : 0 ≤ a ∧ a ≤ 423600) (hb : 0 ≤ b ∧ b ≤ 423600) : cmp_Compare_int a b = s_l1Sign (w64 (a - b)) := by
  unfold cmp_Compare_int cmp_isNaN_int s_l1Sign
  rw [w64_of (by omega) (by omega)]
  simp only [decide_true, Bool.not_true, Option.bind_some, cond_false]
  by_cases h1 : a < b
  · rw [show decide (a < b) = true from decide_eq_true h1, show decide (0 < a - b) = false from decide_eq_false (by omega), show decide (a - b < 0) = true from decide_eq_true (by omega)]
    rfl
  · by_cases h2 : b < a
    · rw [show decide (a < b) = false from decide_eq_false h1, show decide (0 < a - b) = true from decide_eq_true (by omega), show decide (b < a) = true from decide_eq_true h2]
      rfl
    · rw [show decide (a < b) = false from decide_eq_false h1, show decide (0 < a - b) = false from decide_eq_false (by omega), show decide (b < a) = false from decide_eq_false h2, show decide (a - b < 0) = false from decide_eq_false (by omega)]
      rfl

def sgn (n : Int) : Int := bif decide (0 < n) then 1 else (bif decide (n < 0) then -1 else 0)
theorem sign_eq (n : Int) : s_l1Sign n = some (sgn n) := by
  unfold s_l1Sign sgn
  cases decide (0 < n) <;> cases decide (n < 0) <;> rfl

theorem cmp_res (a b : GPrice) : ∀ (r : List GSent) (out : List Int) (i : Nat), out.length + r.length ≤ 1048576 →
    forRes (fun (out : List Int) _ x => bif decide (out.length + 1 ≤ lim) then some (.inl (out ++ [sgn (w64 (cost a x - cost b x))])) else none) (fun out => out) out i r = some (out ++ r.map fun x => sgn (w64 (cost a x - cost b x)))
  | [], out, i, _ => by simp [forRes]
  | x :: r, out, i, h => by
    simp only [List.length_cons] at h
    have hlim : lim = 4294967296 := rfl
    simp only [forRes]
    rw [show decide (out.length + 1 ≤ lim) = true from decide_eq_true (by omega)]
    simp only [cond_true, Option.bind_some]
    rw [cmp_res a b r _ (i + 1) (by simp; omega)]
    simp

theorem split_same (p : GPrice) (x : GSent) (n : Int) : ∃ v, s_SplitPrice p x n = some v ∧ i_SplitPrice p x n = some v ∧ (v.2 = true → n ≤ 1 → v.1 = 0) := by
  unfold s_SplitPrice i_SplitPrice
  simp only [s_isPrice, i_isPrice, s_isSent, i_isSent_eq, l1In_eq, within_eq, Option.bind_some]
  rw [show (decide (1 ≤ n) && decide (n ≤ 9)) = inB n 1 9 from rfl]
  have hb : (decide (1 ≤ n) && decide (n ≤ bif decide (x.1 < 9) then x.1 else 9)) = (inB n 1 9 && !decide (x.1 < n)) := by
    unfold inB
    by_cases h : x.1 < 9
    · rw [show decide (x.1 < 9) = true from decide_eq_true h, cond_true, ← Bool.decide_and, ← Bool.decide_and, ← decide_not, ← Bool.decide_and]
      exact decide_eq_decide.2 (by omega)
    · rw [show decide (x.1 < 9) = false from decide_eq_false h, cond_false, ← Bool.decide_and, ← decide_not, ← Bool.decide_and]
      exact decide_eq_decide.2 (by omega)
  rw [hb]
  cases isPrice p with
  | false => simp
  | true =>
    cases hxs : isSent x with
    | false => simp
    | true =>
      cases h9 : inB n 1 9 with
      | false => simp
      | true =>
        cases hlt : decide (x.1 < n) with
        | true => simp
        | false =>
          have hr := inB_iff.1 h9
          simp only [Bool.not_true, Bool.not_false, Bool.and_true, cond_false, Option.bind_some, s_cost, i_cost]
          rw [show decide (n = 0) = false from decide_eq_false (by omega)]
          simp only [Bool.not_false, cond_true]
          obtain ⟨N, rfl⟩ : ∃ N : Nat, n = N := ⟨n.toNat, by omega⟩
          have L := fun s => sum_loop (c := part p x N) (N := N) (by omega) (f := fun st8 : Int × Int => bif (decide (st8.2 < N)) then bif (decide (st8.2 < (Int.tmod x.1 N))) then some (.inl ((w64 (st8.1 + cost p ((w64 ((w64 (Int.tdiv x.1 N)) + 1)), x.2))), (w64 (st8.2 + 1)))) else some (.inl ((w64 (st8.1 + cost p ((w64 (Int.tdiv x.1 N)), x.2))), (w64 (st8.2 + 1)))) else some (.inr st8.1)) (fun s t => by
            unfold part
            cases decide (t < Int.tmod x.1 N) <;> rfl) N 0 s (by omega)
          rw [show ((0 : Nat) : Int) = 0 from rfl] at L
          have L0 := L 0
          have L1 := L (0 - cost p x)
          rw [show w64 0 = 0 from rfl] at L0
          rw [L0, L1]
          simp only [Option.bind_some]
          rw [w64_sub_left]
          rw [show (0 : Int) + tot (part p x N) 0 N - cost p x = 0 - cost p x + tot (part p x N) 0 N by omega]
          refine ⟨_, rfl, rfl, fun _ hn1 => ?_⟩
          have e1 : N = 1 := by omega
          subst e1
          have hs := hxs
          unfold isSent at hs
          simp only [Bool.and_eq_true, inB_iff] at hs
          have et : Int.tmod x.1 ((1 : Nat) : Int) = 0 := Int.tmod_one x.1
          have ed : Int.tdiv x.1 ((1 : Nat) : Int) = x.1 := Int.tdiv_one x.1
          have ep : part p x ((1 : Nat) : Int) ((0 : Nat) : Int) = cost p x := by
            unfold part
            rw [et, ed, w64_of (x := x.1) (by omega) (by omega), show decide (((0 : Nat) : Int) < 0) = false from rfl]
            rfl
          show w64 (0 - cost p x + (part p x ((1 : Nat) : Int) ((0 : Nat) : Int) + 0)) = 0
          rw [ep]
          rw [show 0 - cost p x + (cost p x + 0) = 0 by omega]
          rfl

noncomputable def cmpV (a b : GPrice) (l : List GSent) : List Int × Bool := bif isPrice a && (isPrice b && (l.all isSent && decide ((l.length : Int) ≤ 20))) then (l.map fun x => sgn (w64 (cost a x - cost b x)), true) else ([], false)
theorem compare_same (a b : GPrice) (l : List GSent) (h : l.length ≤ 1048576) : s_ComparePrices a b l = some (cmpV a b l) ∧ i_ComparePrices a b l = some (cmpV a b l) := by
  unfold s_ComparePrices i_ComparePrices
  simp only [s_isPrice, i_isPrice, s_pcList_eq h, i_AreSent_eq h, Option.bind_some]
  cases hp : isPrice a with
  | false => unfold cmpV; rw [hp]; exact ⟨rfl, rfl⟩
  | true =>
  cases hq : isPrice b with
  | false => unfold cmpV; rw [hp, hq]; exact ⟨rfl, rfl⟩
  | true =>
  cases ha : (l.all isSent && decide ((l.length : Int) ≤ 20)) with
  | false => unfold cmpV; rw [hp, hq, ha]; exact ⟨rfl, rfl⟩
  | true =>
  have ha0 := ha
  simp only [Bool.and_eq_true, List.all_eq_true] at ha
  simp only [Bool.not_true, cond_false, Option.bind_some]
  rw [for_loop (a := l) Prod.mk (fun (out : List Int) _ x => bif decide (out.length + 1 ≤ lim) then some (.inl (out ++ [sgn (w64 (cost a x - cost b x))])) else none) (fun out => out) [] ?_ ?_ ?_]
  · rw [for_loop (a := l) Prod.mk (fun (out : List Int) _ x => bif decide (out.length + 1 ≤ lim) then some (.inl (out ++ [sgn (w64 (cost a x - cost b x))])) else none) (fun out => out) [] ?_ ?_ ?_]
    · rw [cmp_res a b l [] 0 (by simpa using h)]
      unfold cmpV; rw [hp, hq, ha0]; exact ⟨rfl, rfl⟩
    · rfl
    · intro out i y hi hy
      have hs := ha.1 y (List.mem_of_getElem? hy)
      simp only [idx_get, hy, Option.bind_some, i_cost, cmp_sign _ _ (cost_range hp hs) (cost_range hq hs), sign_eq]
      rw [show decide ((i : Int) < l.length) = true from decide_eq_true (by omega), w64_of (x := (i : Int) + 1) (by omega) (by omega)]
      simp only [List.length_cons, List.length_nil, Nat.zero_add, cond_true]
      cases decide (out.length + 1 ≤ lim) <;> rfl
    · intro out; simp
  · rfl
  · intro out i y hi hy
    simp only [idx_get, hy, Option.bind_some, s_cost, sign_eq]
    rw [show decide ((i : Int) < l.length) = true from decide_eq_true (by omega), w64_of (x := (i : Int) + 1) (by omega) (by omega)]
    simp only [List.length_cons, List.length_nil, Nat.zero_add, cond_true]
    cases decide (out.length + 1 ≤ lim) <;> rfl
  · intro out; simp

end Go.Proofs.Ytkjcobhldfhodaa.Sh.P
