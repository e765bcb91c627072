/-
  AreSent, DearestOf, BillOf, ComparePrices, in plain Lean.
-/
import Derived.Test.YtbbfieonkkgkkaaXLaw
import Derived.Test.YtbbfieonkkgkkaaFns3
namespace Go.Proofs.Ytbbfieonkkgkkaa.Sh
open Go Go.Ab Go.Proofs

theorem l1In_eq (n lo hi : Int) : s_l1In n lo hi = some (decide (lo ≤ n) && decide (n ≤ hi)) := by
  unfold s_l1In
  cases decide (lo ≤ n) <;> rfl
theorem within_eq (n lo hi : Int) : i_within n lo hi = some (decide (lo ≤ n) && decide (n ≤ hi)) := by
  unfold i_within
  cases decide (lo ≤ n) <;> rfl

def inB (n lo hi : Int) : Bool := decide (lo ≤ n) && decide (n ≤ hi)
def isPrice (p : GPrice) : Bool := inB p.1 0 10000 && (inB p.2.1 0 100 && (inB p.2.2.1 0 1000 && inB p.2.2.2.1 0 200))
def isSent (x : GSent) : Bool := inB x.1 1 72 && (inB x.2.1 1 16 && inB x.2.2.2.1 0 10000)

theorem s_isSent (x : GSent) : s_pcSent x = some (isSent x) := by
  unfold s_pcSent isSent
  simp only [l1In_eq, inB]
  cases (decide (1 ≤ x.1) && decide (x.1 ≤ 72)) <;> cases (decide (1 ≤ x.2.1) && decide (x.2.1 ≤ 16)) <;> rfl
theorem i_isSent_eq (x : GSent) : i_isSent x = some (isSent x) := by
  unfold i_isSent isSent
  simp only [within_eq, inB]
  cases (decide (1 ≤ x.1) && decide (x.1 ≤ 72)) <;> cases (decide (1 ≤ x.2.1) && decide (x.2.1 ≤ 16)) <;> rfl

theorem toSent (p : GSent) : l_toSent p = some p := rfl

theorem toSentS {l : List GSent} (h : l.length ≤ 1048576) : l_toSentS l = some l := by
  unfold l_toSentS
  have hlim : (lim : Int) = 4294967296 := rfl
  rw [show (decide (0 ≤ (l.length : Int)) && decide ((l.length : Int) ≤ (l.length : Int)) && decide ((l.length : Int) ≤ lim)) = true by simp; omega, cond_true]
  rw [for_loop (a := l) Prod.mk (fun (out : List GSent) i x => if i < out.length then some (.inl (out.set i x)) else none) (fun out => out) (List.replicate l.length (0, (0, (false, (0, ()))))) ?_ ?_ ?_]
  · have := copy_res (fun x : GSent => x) l [] (List.replicate l.length (0, (0, (false, (0, ()))))) (by simp)
    simp only [List.nil_append, List.length_nil, List.map_id'] at this
    rw [this]
    rfl
  · rfl
  · intro out i x hi hx
    simp only [toSent, idx_get, hx, Option.bind_some]
    rw [show decide ((i : Int) < l.length) = true from decide_eq_true (by omega), cond_true]
    rw [w64_of (by omega) (by omega)]
    by_cases h2 : i < out.length
    · rw [if_pos h2, show (decide (0 ≤ (i : Int)) && decide ((i : Int) < (out.length : Int))) = true by simp; omega]
      rfl
    · rw [if_neg h2, show (decide (0 ≤ (i : Int)) && decide ((i : Int) < (out.length : Int))) = false by simp; omega]
      rfl
  · intro out; simp

theorem eqSent (x : GSent) : l_eqSent x x = some true := by
  unfold l_eqSent
  simp

theorem eqSentS {l : List GSent} (h : l.length ≤ 1048576) : l_eqSentS l l = some true := by
  unfold l_eqSentS
  simp only [decide_true, Bool.not_true, cond_false]
  rw [for_loop (a := l) (fun (_ : Unit) i => i) (fun _ _ _ => some (.inl ())) (fun _ => .inl ()) () ?_ ?_ ?_]
  · have : ∀ (r : List GSent) i, forRes (ρ := Unit ⊕ Bool) (fun (_ : Unit) _ (_ : GSent) => some (.inl ())) (fun _ => .inl ()) () i r = some (.inl ()) := by
      intro r
      induction r with
      | nil => intro i; rfl
      | cons x r ih => intro i; exact ih (i + 1)
    rw [this]
    rfl
  · rfl
  · intro s i x hi hx
    simp only [idx_get, hx, Option.bind_some, eqSent]
    rw [show decide ((i : Int) < l.length) = true from decide_eq_true (by omega), w64_of (by omega) (by omega)]
    rfl
  · intro s; simp

theorem szSentS {l : List GSent} (hg : l.length ≤ maxLen) : ∃ r, l_szSentS l 1048576 = some r ∧ (r < 0 ∨ l.length ≤ 1048576) := by
  unfold l_szSentS
  unfold maxLen at hg
  rw [w64_of (by omega) (by omega)]
  by_cases h : (1048576 : Int) - l.length < 0
  · rw [show decide ((1048576 : Int) - l.length < 0) = true from decide_eq_true h]
    exact ⟨_, rfl, .inl (by decide)⟩
  · rw [show decide ((1048576 : Int) - l.length < 0) = false from decide_eq_false h]
    exact ⟨_, rfl, .inr (by omega)⟩

/-! lists of messages that are sent -/

theorem s_pcList_eq {l : List GSent} (h : l.length ≤ 1048576) : s_pcList l = some (l.all isSent && decide ((l.length : Int) ≤ 20)) := by
  unfold s_pcList
  rw [for_loop (a := l) (fun (_ : Unit) i => i) (fun _ _ x => some (bif isSent x then .inl () else .inr (.inr false))) (fun _ => .inl ()) () ?_ ?_ ?_]
  · obtain ⟨h1, h2⟩ := all_res isSent (fun _ => false) l 0
    cases ha : l.all isSent with
    | true => rw [h1 ha]; rfl
    | false => obtain ⟨_, _, e⟩ := h2 ha; rw [e]; rfl
  · rfl
  · intro s i x hi hx
    simp only [idx_get, hx, Option.bind_some, s_isSent]
    rw [show decide ((i : Int) < l.length) = true from decide_eq_true (by omega), w64_of (by omega) (by omega)]
    cases isSent x <;> rfl
  · intro s; simp

theorem i_AreSent_eq {l : List GSent} (h : l.length ≤ 1048576) : i_AreSent l = some (l.all isSent && decide ((l.length : Int) ≤ 20)) := by
  unfold i_AreSent slices_ContainsFunc_Sent_68 slices_IndexFunc_Sent_68
  have hi : ∀ x, i_AreSent_1 x = some (!isSent x) := fun x => by
    unfold i_AreSent_1
    rw [i_isSent_eq]
    rfl
  rw [for_loop (a := l) (fun (_ : Unit) i => i) (fun _ i x => some (bif isSent x then .inl () else .inr (.inr (i : Int)))) (fun _ => .inl ()) () ?_ ?_ ?_]
  · obtain ⟨h1, h2⟩ := all_res isSent (fun i => (i : Int)) l 0
    cases ha : l.all isSent with
    | true =>
      rw [h1 ha]
      cases decide ((l.length : Int) ≤ 20) <;> rfl
    | false =>
      obtain ⟨j, _, e⟩ := h2 ha
      rw [e]
      simp only [Option.bind_some]
      rw [show decide ((0 : Int) ≤ (j : Int)) = true from decide_eq_true (by omega)]
      cases decide ((l.length : Int) ≤ 20) <;> rfl
  · rfl
  · intro s i x hi' hx
    simp only [idx_get, hx, Option.bind_some, hi]
    rw [show decide ((i : Int) < l.length) = true from decide_eq_true (by omega), w64_of (by omega) (by omega)]
    cases isSent x <;> rfl
  · intro s; simp

/-- FnExactAreSent -/
theorem plain_AreSent (l : List GSent) (hg : l.length ≤ maxLen) : l_FnExactAreSent l = some true := by
  unfold l_FnExactAreSent s_AreSent
  obtain ⟨r, hr, h⟩ := szSentS hg
  rw [hr]
  simp only [Option.bind_some]
  rcases h with h | h
  · rw [decide_eq_true h]; rfl
  · cases decide (r < 0) with
    | true => rfl
    | false => simp [toSentS h, s_pcList_eq h, i_AreSent_eq h, eqSentS h]

theorem s_isPrice (p : GPrice) : s_pcPrice p = some (isPrice p) := by
  unfold s_pcPrice isPrice
  simp only [l1In_eq, inB]
  cases (decide (0 ≤ p.1) && decide (p.1 ≤ 10000)) <;> cases (decide (0 ≤ p.2.1) && decide (p.2.1 ≤ 100)) <;> cases (decide (0 ≤ p.2.2.1) && decide (p.2.2.1 ≤ 1000)) <;> rfl
theorem i_isPrice (p : GPrice) : i_IsPrice p = some (isPrice p) := by
  unfold i_IsPrice isPrice
  simp only [within_eq, inB]
  cases (decide (0 ≤ p.1) && decide (p.1 ≤ 10000)) <;> cases (decide (0 ≤ p.2.1) && decide (p.2.1 ≤ 100)) <;> cases (decide (0 ≤ p.2.2.1) && decide (p.2.2.1 ≤ 1000)) <;> rfl

def cost (p : GPrice) (x : GSent) : Int :=
  bif x.2.2.1 then
    w64 ((w64 ((w64 (p.1 + (w64 ((w64 (p.2.1 * x.1)) * x.2.1)))) + (w64 (p.2.2.1 * x.2.1)))) + (w64 (Int.tdiv (w64 ((w64 ((w64 (p.1 + (w64 ((w64 (p.2.1 * x.1)) * x.2.1)))) + (w64 (p.2.2.1 * x.2.1)))) * p.2.2.2.1)) 100)))
  else
    w64 ((w64 (p.1 + (w64 ((w64 (p.2.1 * x.1)) * x.2.1)))) + (w64 (p.2.2.1 * x.2.1)))
theorem s_cost (p : GPrice) (x : GSent) : s_pcCost p x = some (cost p x) := by
  unfold s_pcCost cost
  cases x.2.2.1 <;> rfl
theorem i_cost (p : GPrice) (x : GSent) : i_priceOf p x = some (cost p x) := by
  unfold i_priceOf cost
  cases x.2.2.1 <;> rfl
theorem toPrice (p : GPrice) : l_toPrice p = some p := rfl
theorem inB_iff {n lo hi : Int} : inB n lo hi = true ↔ lo ≤ n ∧ n ≤ hi := by simp [inB]

theorem mul_range {a b A B : Int} (h1 : 0 ≤ a) (h2 : a ≤ A) (h3 : 0 ≤ b) (h4 : b ≤ B) : 0 ≤ a * b ∧ a * b ≤ A * B :=
  ⟨Int.mul_nonneg h1 h3, Int.mul_le_mul h2 h4 h3 (by omega)⟩

theorem cost_range {p : GPrice} {x : GSent} (hp : isPrice p = true) (hx : isSent x = true) : 0 ≤ cost p x ∧ cost p x ≤ 423600 := by
  unfold isPrice at hp
  unfold isSent at hx
  simp only [Bool.and_eq_true, inB_iff] at hp hx
  obtain ⟨⟨b1, b2⟩, ⟨a1, a2⟩, ⟨c1, c2⟩, d1, d2⟩ := hp
  obtain ⟨⟨s1, s2⟩, ⟨t1, t2⟩, _⟩ := hx
  unfold cost
  have e1 := mul_range a1 a2 (show (0 : Int) ≤ x.1 by omega) s2
  have e2 := mul_range e1.1 e1.2 (show (0 : Int) ≤ x.2.1 by omega) t2
  have e3 := mul_range c1 c2 (show (0 : Int) ≤ x.2.1 by omega) t2
  generalize p.2.1 * x.1 = u at *
  generalize hv : u * x.2.1 = v at *
  generalize p.2.2.1 * x.2.1 = z at *
  rw [w64_of (x := u) (by omega) (by omega), hv, w64_of (x := v) (by omega) (by omega), w64_of (x := p.1 + v) (by omega) (by omega), w64_of (x := z) (by omega) (by omega), w64_of (x := p.1 + v + z) (by omega) (by omega)]
  have e4 := mul_range (show 0 ≤ p.1 + v + z by omega) (show p.1 + v + z ≤ 141200 by omega) d1 d2
  cases x.2.2.1 with
  | false => simp only [cond_false]; omega
  | true =>
    simp only [cond_true]
    generalize (p.1 + v + z) * p.2.2.2.1 = y at *
    rw [w64_of (x := y) (by omega) (by omega), Int.tdiv_eq_ediv_of_nonneg (by omega), w64_of (x := y / 100) (by omega) (by omega), w64_of (by omega) (by omega)]
    omega

/-! the dearest -/

/-- the place of the first dearest, so far -/
def dear (p : GPrice) : Int × Int → Nat → GSent → Option ((Int × Int) ⊕ Int) := fun s i x => some (.inl (bif decide (s.2 < cost p x) then ((i : Int), cost p x) else s))

theorem dear_same (p : GPrice) (l : List GSent) : ∀ (r : List GSent) (i : Nat) (b : Int) (e : GSent), idx l b = some e → (∀ k x, r[k]? = some x → l[i + k]? = some x) →
    forRes (fun (b : Int) i x => (idx l b).bind fun e => some (.inl (bif decide (cost p e < cost p x) then (i : Int) else b))) (fun b => b) b i r = forRes (dear p) (fun s => s.1) (b, cost p e) i r
  | [], _, _, _, _, _ => rfl
  | x :: r, i, b, e, hb, hl => by
    simp only [forRes, dear, hb, Option.bind_some]
    have hx : l[i]? = some x := hl 0 x rfl
    have hl' : ∀ k y, r[k]? = some y → l[i + 1 + k]? = some y := fun k y hk => by
      have := hl (k + 1) y hk
      rw [show i + 1 + k = i + (k + 1) by omega]; exact this
    cases decide (cost p e < cost p x) with
    | true => exact dear_same p l r (i + 1) i x (by rw [idx_get]; exact hx) hl'
    | false => exact dear_same p l r (i + 1) b e hb hl'

theorem dear_some (p : GPrice) : ∀ (r : List GSent) (s : Int × Int) (i : Nat), ∃ v, forRes (dear p) (fun s => s.1) s i r = some v
  | [], s, _ => ⟨s.1, rfl⟩
  | x :: r, s, i => by
    simp only [forRes, dear, Option.bind_some]
    exact dear_some p r _ (i + 1)

/-- FnExactDearestOf -/
theorem plain_DearestOf (p : GPrice) (l : List GSent) (hg : l.length ≤ maxLen) : l_FnExactDearestOf p l = some true := by
  unfold l_FnExactDearestOf
  obtain ⟨r, hr, h⟩ := szSentS hg
  rw [hr]
  simp only [Option.bind_some]
  rcases h with h | h
  · rw [decide_eq_true h]; rfl
  cases decide (r < 0) with
  | true => rfl
  | false =>
  simp only [toSentS h, toPrice, eqSentS h, Option.bind_some, cond_false]
  have key : ∃ v, s_DearestOf p l = some v ∧ i_DearestOf p l = some v := by
    unfold s_DearestOf i_DearestOf
    simp only [s_isPrice, i_isPrice, s_pcList_eq h, i_AreSent_eq h, Option.bind_some]
    cases hp : isPrice p with
    | false => exact ⟨_, rfl, rfl⟩
    | true =>
    cases ha : (l.all isSent && decide ((l.length : Int) ≤ 20)) with
    | false => exact ⟨_, rfl, rfl⟩
    | true =>
    cases l with
    | nil => exact ⟨_, rfl, rfl⟩
    | cons x l =>
    have hx : isSent x = true := by simp only [List.all_cons, Bool.and_eq_true] at ha; exact ha.1.1
    have hc := cost_range hp hx
    have hne : decide ((((x :: l).length : Nat) : Int) = 0) = false := decide_eq_false (by simp only [List.length_cons]; omega)
    simp only [Bool.not_true, cond_false, Option.bind_some, hne]
    rw [for_loop (a := x :: l) Prod.mk (fun (b : Int) i y => (idx (x :: l) b).bind fun e => some (.inl (bif decide (cost p e < cost p y) then (i : Int) else b))) (fun b => b) 0 ?_ ?_ ?_]
    · rw [for_loop (a := x :: l) (fun (s : Int × Int) i => (s.1, s.2, i)) (dear p) (fun s => s.1) (0, -1) ?_ ?_ ?_]
      · have h0 : idx (x :: l) 0 = some x := rfl
        have e1 : ∀ v : Int, (bif decide (v < v) then ((0 : Nat) : Int) else 0) = 0 := fun v => by simp
        simp only [forRes, dear, h0, Option.bind_some, e1]
        rw [show decide ((-1 : Int) < cost p x) = true from decide_eq_true (by omega)]
        have := dear_same p (x :: l) l 1 0 x h0 (fun k y hk => by rw [Nat.add_comm]; simpa using hk)
        obtain ⟨v, hv⟩ := dear_some p l (0, cost p x) 1
        simp only [Nat.zero_add, cond_true]
        refine ⟨(v, true), ?_, ?_⟩
        · rw [this, hv]; rfl
        · show (forRes (dear p) (fun s => s.1) ((0 : Nat), cost p x) 1 l).bind _ = _
          rw [show (((0 : Nat) : Int), cost p x) = ((0 : Int), cost p x) from rfl, hv]; rfl
      · rfl
      · intro s i y hi hy
        simp only [idx_get, hy, Option.bind_some, i_cost, dear]
        rw [show decide ((i : Int) < (x :: l).length) = true from decide_eq_true (by omega), w64_of (by omega) (by omega)]
        cases decide (s.2 < cost p y) <;> rfl
      · intro s; simp
    · rfl
    · intro b i y hi hy
      simp only [idx_get, hy, Option.bind_some, s_cost]
      rw [show decide ((i : Int) < (x :: l).length) = true from decide_eq_true (by omega), w64_of (by omega) (by omega)]
      simp only [cond_true]
      cases idx (x :: l) b with
      | none => rfl
      | some e =>
        simp only [Option.bind_some]
        cases decide (cost p e < cost p y) <;> rfl
    · intro s; simp
  obtain ⟨v, h1, h2⟩ := key
  rw [h1, h2]
  simp

/-! the bill -/

theorem refund_same {p : GPrice} {x : GSent} (hp : isPrice p = true) (hx : isSent x = true) : i_refundOf p x = s_pcRefund p x := by
  obtain ⟨r1, r2⟩ := cost_range hp hx
  unfold i_refundOf s_pcRefund s_l1Least
  simp only [s_cost, i_cost, Option.bind_some]
  unfold isSent at hx
  simp only [Bool.and_eq_true, inB_iff] at hx
  obtain ⟨_, _, l1, l2⟩ := hx
  rw [Int.tdiv_eq_ediv_of_nonneg l1]
  generalize cost p x = r at *
  generalize hq : x.2.2.2.1 / 600 = q
  have q1 : 0 ≤ q := by omega
  have q2 : q ≤ 16 := by omega
  rw [w64_of (x := q) (by omega) (by omega)]
  have m1 := mul_range r1 r2 q1 q2
  rw [w64_of (x := r * q) (by omega) (by omega), Int.tdiv_eq_ediv_of_nonneg m1.1]
  by_cases h : 10 < q
  · rw [show decide ((10 : Int) < q) = true from decide_eq_true h]
    simp only [cond_true, Option.bind_some]
    have m2 : r * 10 ≤ r * q := Int.mul_le_mul_of_nonneg_left (by omega) r1
    rw [w64_of (x := r * q / 10) (by omega) (by omega), w64_of (x := r * 10) (by omega) (by omega), Int.tdiv_eq_ediv_of_nonneg (by omega), w64_of (x := r * 10 / 10) (by omega) (by omega)]
    rw [show decide (r * q / 10 < r) = false from decide_eq_false (by omega)]
    simp only [cond_false]
    congr 1
    omega
  · rw [show decide ((10 : Int) < q) = false from decide_eq_false h]
    simp only [cond_false, Option.bind_some]
    have m2 : r * q ≤ r * 10 := Int.mul_le_mul_of_nonneg_left (by omega) r1
    rw [w64_of (x := r * q) (by omega) (by omega), Int.tdiv_eq_ediv_of_nonneg m1.1, w64_of (x := r * q / 10) (by omega) (by omega)]
    by_cases h2 : r * q / 10 < r
    · rw [show decide (r * q / 10 < r) = true from decide_eq_true h2]; rfl
    · rw [show decide (r * q / 10 < r) = false from decide_eq_false h2]
      simp only [cond_false]
      congr 1
      omega

theorem bill_some (p : GPrice) : ∀ (r : List GSent) (s : Int × Int) (i : Nat), ∃ v, forRes (fun (s : Int × Int) (_ : Nat) x => (s_pcRefund p x).bind fun q => some (.inl (w64 (s.1 + cost p x), w64 (s.2 + q)))) (fun s => s) s i r = some v
  | [], s, _ => ⟨s, rfl⟩
  | x :: r, s, i => by
    obtain ⟨q, hq⟩ : ∃ r, s_pcRefund p x = some r := by
      unfold s_pcRefund s_l1Least
      rw [s_cost]
      cases decide ((10 : Int) < w64 (Int.tdiv x.2.2.2.1 600)) <;> exact ⟨_, rfl⟩
    simp only [forRes, hq, Option.bind_some]
    exact bill_some p r _ (i + 1)

/-- FnExactBillOf -/
theorem plain_BillOf (p : GPrice) (l : List GSent) (hg : l.length ≤ maxLen) : l_FnExactBillOf p l = some true := by
  unfold l_FnExactBillOf
  obtain ⟨r, hr, h⟩ := szSentS hg
  rw [hr]
  simp only [Option.bind_some]
  rcases h with h | h
  · rw [decide_eq_true h]; rfl
  cases decide (r < 0) with
  | true => rfl
  | false =>
  simp only [toSentS h, toPrice, eqSentS h, Option.bind_some, cond_false]
  have key : ∃ v, s_BillOf p l = some v ∧ i_BillOf p l = some v := by
    unfold s_BillOf i_BillOf
    simp only [s_isPrice, i_isPrice, s_pcList_eq h, i_AreSent_eq h, Option.bind_some]
    cases hp : isPrice p with
    | false => exact ⟨_, rfl, rfl⟩
    | true =>
    cases ha : (l.all isSent && decide ((l.length : Int) ≤ 20)) with
    | false => exact ⟨_, rfl, rfl⟩
    | true =>
    simp only [Bool.and_eq_true, List.all_eq_true] at ha
    obtain ⟨v, hv⟩ := bill_some p l (0, 0) 0
    simp only [Bool.not_true, cond_false, Option.bind_some]
    rw [for_loop (a := l) (fun (s : Int × Int) i => (s.1, s.2, i)) (fun (s : Int × Int) (_ : Nat) x => (s_pcRefund p x).bind fun q => some (.inl (w64 (s.1 + cost p x), w64 (s.2 + q)))) (fun s => s) (0, 0) ?_ ?_ ?_]
    · rw [for_loop (a := l) (fun (s : Int × Int) i => (s.1, s.2, i)) (fun (s : Int × Int) (_ : Nat) x => (s_pcRefund p x).bind fun q => some (.inl (w64 (s.1 + cost p x), w64 (s.2 + q)))) (fun s => s) (0, 0) ?_ ?_ ?_]
      · rw [hv]; exact ⟨_, rfl, rfl⟩
      · rfl
      · intro s i y hi hy
        simp only [idx_get, hy, Option.bind_some, i_cost, refund_same hp (ha.1 y (List.mem_of_getElem? hy))]
        rw [show decide ((i : Int) < l.length) = true from decide_eq_true (by omega), w64_of (x := (i : Int) + 1) (by omega) (by omega)]
        cases s_pcRefund p y <;> rfl
      · intro s; simp
    · rfl
    · intro s i y hi hy
      simp only [idx_get, hy, Option.bind_some, s_cost]
      rw [show decide ((i : Int) < l.length) = true from decide_eq_true (by omega), w64_of (x := (i : Int) + 1) (by omega) (by omega)]
      cases s_pcRefund p y <;> rfl
    · intro s; simp
  obtain ⟨v, h1, h2⟩ := key
  rw [h1, h2]
  simp

/-! lists of numbers and of messages, marked -/

theorem eqIntS {l : List Int} (h : l.length ≤ 1048576) : l_eqIntS l l = some true := by
  unfold l_eqIntS
  simp only [decide_true, Bool.not_true, cond_false]
  rw [all_loop (l := l) (fun _ => true) false ?_ ?_]
  · have : (l.all fun _ => true) = true := by simp
    rw [this]
    rfl
  · intro i x hx hi
    simp only [idx_get, hx, Option.bind_some, decide_true, Bool.not_true, cond_false]
    rw [show decide ((i : Int) < l.length) = true from decide_eq_true (by omega), w64_of (by omega) (by omega)]
    rfl
  · simp

def wrInt (_ : Int) (k : Int) : Int × Int := (k, k + 1)
theorem markIntS {l : List Int} (h : l.length ≤ 1048576) : l_markIntS l 1 = some (marked wrInt l 1, (1 : Int) + (l.length : Int)) := by
  unfold l_markIntS
  have := mark_loop wrInt (fun _ => 1) (B := 9000000000000000000) (f := fun (st2 : (List Int) × Int × Int) => (
      bif (decide (st2.2.2 < (st2.1.length : Int))) then
        bif decide (0 ≤ st2.2.2) && decide (st2.2.2 < (st2.1.length : Int)) then
          some (.inl ((st2.1.set (Int.toNat st2.2.2) st2.2.1), (w64 (st2.2.1 + 1)), (w64 (st2.2.2 + 1))))
        else
          none
      else
        some (.inr (st2.1, st2.2.1)) : Option (((List Int) × Int × Int) ⊕ (((List Int) × Int))))) (fun _ _ => rfl) (fun l k => by simp) l [] 1
    (fun x _ pre suf k h0 hB hl => by
      have h1 : (pre.length : Int) < (pre ++ x :: suf).length := by simp; omega
      have h2 : pre.length < 4194304 := by simp at hl; omega
      simp only [set_mid, h1, decide_true, cond_true]
      rw [w64_of (x := k + 1) (by omega) (by omega), w64_of (x := (pre.length : Int) + 1) (by omega) (by omega)]
      simp [wrInt]) (by omega) (by rw [total_const]; omega) (by simpa using (by omega : l.length ≤ 4194304))
  simp only [List.nil_append, List.length_nil] at this
  rw [show ((0 : Nat) : Int) = 0 from rfl] at this
  rw [this, total_const]
  simp

theorem heldIntS {l : List Int} (h : l.length ≤ 1048576) : l_heldIntS (marked wrInt l 1) 1 = some ((1 : Int) + (l.length : Int)) := by
  unfold l_heldIntS
  have hml := marked_len wrInt l 1
  rw [for_loop (a := marked wrInt l 1) Prod.mk (fun (k : Int) _ x => some (bif decide (x = k) && decide (k ≤ 9000000000000000000) then .inl (w64 (k + 1)) else (bif (!decide (x = k)) then .inr (.inr (-1)) else .inl (w64 (k + 1))))) (fun k => .inl k) 1 ?_ ?_ ?_]
  · have := held_res wrInt (fun _ => 1) (fun (k : Int) _ x => some (bif decide (x = k) && decide (k ≤ 9000000000000000000) then .inl (w64 (k + 1)) else (bif (!decide (x = k)) then .inr (.inr (-1)) else .inl (w64 (k + 1))))) (fun _ _ => rfl) (B := 9000000000000000000) l 1 0 (fun x _ k i h0 hB => by
      have hB' : k + 1 ≤ 9000000000000000000 := by simpa using hB
      simp only [wrInt, decide_true, Bool.true_and]
      rw [show decide (k ≤ 9000000000000000000) = true from decide_eq_true (by omega), w64_of (by omega) (by omega)]
      rfl) (by omega) (by rw [total_const]; omega)
    rw [this, total_const]
    simp
  · rfl
  · intro k i x hi hx
    simp only [idx_get, hx, Option.bind_some]
    rw [show decide ((i : Int) < (marked wrInt l 1).length) = true from decide_eq_true (by omega), w64_of (x := (i : Int) + 1) (by omega) (by omega)]
    cases decide (x = k) <;> cases decide (k ≤ 9000000000000000000) <;> rfl
  · intro k; simp

def wrSent (_ : GSent) (k : Int) : GSent × Int := ((k, k + 1, decide (Int.tmod (k + 2) 3 = 0), k + 3, ()), k + 4)
theorem markSentS {l : List GSent} (h : l.length ≤ 1048576) : ∃ r, l_markSentS l 1 = some r ∧ decide (r.2 < 0) = false := by
  unfold l_markSentS
  rw [show (l, (1 : Int), (0 : Int)) = ([] ++ l, 1, ((([] : List GSent).length : Nat) : Int)) from rfl]
  rw [mark_loop wrSent (fun _ => 4) (B := 9000000000000000000) (fun _ _ => rfl) ?_ l [] 1 ?_ (by omega) (by rw [total_const]; omega) (by simpa using (by omega : l.length ≤ 4194304))]
  · refine ⟨_, rfl, ?_⟩
    rw [total_const]
    exact decide_eq_false (by simp only; omega)
  · intro l k; simp
  · intro x _ pre suf k h0 hB hl
    have hB' : k + 4 ≤ 9000000000000000000 := by simpa using hB
    have h2 : pre.length < 4194304 := by simp at hl; omega
    have hlen : ∀ y : GSent, decide ((pre.length : Int) < ((pre ++ y :: suf).length : Int)) = true := fun y => by simp; omega
    have h00 : decide ((0 : Int) ≤ (pre.length : Int)) = true := by simp
    simp only [get_mid, set_mid, hlen, h00, Bool.and_self, cond_true, Option.bind_some]
    rw [w64_of (x := k + 1) (by omega) (by omega), w64_of (x := k + 1 + 1) (by omega) (by omega), w64_of (x := k + 1 + 1 + 1) (by omega) (by omega), w64_of (x := k + 1 + 1 + 1 + 1) (by omega) (by omega), w64_of (x := (pre.length : Int) + 1) (by omega) (by omega)]
    simp only [wrSent]
    rw [show k + 1 + 1 + 1 + 1 = k + 4 by omega, show k + 1 + 1 + 1 = k + 3 by omega, show k + 1 + 1 = k + 2 by omega]

theorem cmp_sign (a b : Int) (ha : 0 ≤ a ∧ a ≤ 423600) (hb : 0 ≤ b ∧ b ≤ 423600) : cmp_Compare_int a b = s_l1Sign (w64 (a - b)) := by
  unfold cmp_Compare_int cmp_isNaN_int s_l1Sign
  rw [w64_of (by omega) (by omega)]
  simp only [decide_true, Bool.not_true, Option.bind_some, cond_false]
  by_cases h1 : a < b
  · rw [show decide (a < b) = true from decide_eq_true h1, show decide (0 < a - b) = false from decide_eq_false (by omega), show decide (a - b < 0) = true from decide_eq_true (by omega)]
    rfl
  · by_cases h2 : b < a
    · rw [show decide (a < b) = false from decide_eq_false h1, show decide (0 < a - b) = true from decide_eq_true (by omega), show decide (b < a) = true from decide_eq_true h2]
      rfl
    · rw [show decide (a < b) = false from decide_eq_false h1, show decide (0 < a - b) = false from decide_eq_false (by omega), show decide (b < a) = false from decide_eq_false h2, show decide (a - b < 0) = false from decide_eq_false (by omega)]
      rfl

def sgn (n : Int) : Int := bif decide (0 < n) then 1 else (bif decide (n < 0) then -1 else 0)
theorem sign_eq (n : Int) : s_l1Sign n = some (sgn n) := by
  unfold s_l1Sign sgn
  cases decide (0 < n) <;> cases decide (n < 0) <;> rfl

theorem cmp_res (a b : GPrice) : ∀ (r : List GSent) (out : List Int) (i : Nat), out.length + r.length ≤ 1048576 →
    forRes (fun (out : List Int) _ x => bif decide (out.length + 1 ≤ lim) then some (.inl (out ++ [sgn (w64 (cost a x - cost b x))])) else none) (fun out => out) out i r = some (out ++ r.map fun x => sgn (w64 (cost a x - cost b x)))
  | [], out, i, _ => by simp [forRes]
  | x :: r, out, i, h => by
    simp only [List.length_cons] at h
    have hlim : lim = 4294967296 := rfl
    simp only [forRes]
    rw [show decide (out.length + 1 ≤ lim) = true from decide_eq_true (by omega)]
    simp only [cond_true, Option.bind_some]
    rw [cmp_res a b r _ (i + 1) (by simp; omega)]
    simp

/-- FnExactComparePrices -/
theorem plain_ComparePrices (a b : GPrice) (l : List GSent) (hg : l.length ≤ maxLen) : l_FnExactComparePrices a b l = some true := by
  unfold l_FnExactComparePrices
  obtain ⟨r, hr, h⟩ := szSentS hg
  rw [hr]
  simp only [Option.bind_some]
  rcases h with h | h
  · rw [decide_eq_true h]; rfl
  cases decide (r < 0) with
  | true => rfl
  | false =>
  obtain ⟨ms, hms, hms2⟩ := markSentS h
  simp only [toSentS h, toPrice, eqSentS h, hms, hms2, Option.bind_some, cond_false]
  have key : ∃ v, s_ComparePrices a b l = some v ∧ i_ComparePrices a b l = some v ∧ v.1.length ≤ 1048576 := by
    unfold s_ComparePrices i_ComparePrices
    simp only [s_isPrice, i_isPrice, s_pcList_eq h, i_AreSent_eq h, Option.bind_some]
    cases hp : isPrice a with
    | false => exact ⟨_, rfl, rfl, Nat.zero_le _⟩
    | true =>
    cases hq : isPrice b with
    | false => exact ⟨_, rfl, rfl, Nat.zero_le _⟩
    | true =>
    cases ha : (l.all isSent && decide ((l.length : Int) ≤ 20)) with
    | false => exact ⟨_, rfl, rfl, Nat.zero_le _⟩
    | true =>
    simp only [Bool.and_eq_true, List.all_eq_true] at ha
    simp only [Bool.not_true, cond_false, Option.bind_some]
    rw [for_loop (a := l) Prod.mk (fun (out : List Int) _ x => bif decide (out.length + 1 ≤ lim) then some (.inl (out ++ [sgn (w64 (cost a x - cost b x))])) else none) (fun out => out) [] ?_ ?_ ?_]
    · rw [for_loop (a := l) Prod.mk (fun (out : List Int) _ x => bif decide (out.length + 1 ≤ lim) then some (.inl (out ++ [sgn (w64 (cost a x - cost b x))])) else none) (fun out => out) [] ?_ ?_ ?_]
      · rw [cmp_res a b l [] 0 (by simpa using h)]
        exact ⟨_, rfl, rfl, by simpa using h⟩
      · rfl
      · intro out i y hi hy
        have hs := ha.1 y (List.mem_of_getElem? hy)
        simp only [idx_get, hy, Option.bind_some, i_cost, cmp_sign _ _ (cost_range hp hs) (cost_range hq hs), sign_eq]
        rw [show decide ((i : Int) < l.length) = true from decide_eq_true (by omega), w64_of (x := (i : Int) + 1) (by omega) (by omega)]
        simp only [List.length_cons, List.length_nil, Nat.zero_add, cond_true]
        cases decide (out.length + 1 ≤ lim) <;> rfl
      · intro out; simp
    · rfl
    · intro out i y hi hy
      simp only [idx_get, hy, Option.bind_some, s_cost, sign_eq]
      rw [show decide ((i : Int) < l.length) = true from decide_eq_true (by omega), w64_of (x := (i : Int) + 1) (by omega) (by omega)]
      simp only [List.length_cons, List.length_nil, Nat.zero_add, cond_true]
      cases decide (out.length + 1 ≤ lim) <;> rfl
    · intro out; simp
  obtain ⟨v, h1, h2, h3⟩ := key
  simp only [h1, h2, eqIntS h3, markIntS h3, heldIntS h3, Option.bind_some]
  have : decide ((1 : Int) + v.1.length < 0) = false := decide_eq_false (by omega)
  simp [this]
end Go.Proofs.Ytbbfieonkkgkkaa.Sh
