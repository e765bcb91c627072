/-
  Bills, in plain Lean: what both sides count, the dearest message.
-/
import Derived.Test.YtkjcobhldfhodaaEPlain2
namespace Go.Proofs.Ytkjcobhldfhodaa.Sh
open Go Go.Ab
set_option maxRecDepth 100000

noncomputable def rf (p : GPrice) (x : GSent) : Int := (s_pcRefund p x).getD 0
theorem refund_val {p : GPrice} {x : GSent} (hp : P.isPrice p = true) (hx : P.isSent x = true) : i_refundOf p x = some (rf p x) ∧ s_pcRefund p x = some (rf p x) ∧ 0 ≤ rf p x ∧ rf p x ≤ P.cost p x ∧ (x.2.2.2.1 < 600 → rf p x = 0) := by
  obtain ⟨r1, r2⟩ := P.cost_range hp hx
  suffices h : ∃ r, i_refundOf p x = some r ∧ s_pcRefund p x = some r ∧ 0 ≤ r ∧ r ≤ P.cost p x ∧ (x.2.2.2.1 < 600 → r = 0) by
    obtain ⟨r, h1, h2, h3⟩ := h
    have e : rf p x = r := by unfold rf; rw [h2]; rfl
    rw [e]
    exact ⟨h1, h2, h3⟩
  unfold i_refundOf s_pcRefund s_l1Least
  simp only [P.s_cost, P.i_cost, Option.bind_some]
  unfold P.isSent at hx
  simp only [Bool.and_eq_true, P.inB_iff] at hx
  obtain ⟨_, _, l1, l2⟩ := hx
  rw [Int.tdiv_eq_ediv_of_nonneg l1]
  generalize P.cost p x = r at *
  have hl6 : x.2.2.2.1 < 600 → x.2.2.2.1 / 600 = 0 := fun h => by omega
  generalize hq : x.2.2.2.1 / 600 = q at hl6 ⊢
  have q1 : 0 ≤ q := by omega
  have q2 : q ≤ 16 := by omega
  rw [w64_of (x := q) (by omega) (by omega)]
  have m1 := P.mul_range r1 r2 q1 q2
  rw [w64_of (x := r * q) (by omega) (by omega), Int.tdiv_eq_ediv_of_nonneg m1.1]
  by_cases h : 10 < q
  · rw [show decide ((10 : Int) < q) = true from decide_eq_true h]
    simp only [cond_true, Option.bind_some]
    have m2 : r * 10 ≤ r * q := Int.mul_le_mul_of_nonneg_left (by omega) r1
    rw [w64_of (x := r * q / 10) (by omega) (by omega), w64_of (x := r * 10) (by omega) (by omega), Int.tdiv_eq_ediv_of_nonneg (by omega), w64_of (x := r * 10 / 10) (by omega) (by omega)]
    rw [show decide (r * q / 10 < r) = false from decide_eq_false (by omega)]
    simp only [cond_false]
    exact ⟨r, rfl, by congr 1; omega, by omega, by omega, fun h6 => by have := hl6 h6; omega⟩
  · rw [show decide ((10 : Int) < q) = false from decide_eq_false h]
    simp only [cond_false, Option.bind_some]
    have m2 : r * q ≤ r * 10 := Int.mul_le_mul_of_nonneg_left (by omega) r1
    rw [w64_of (x := r * q) (by omega) (by omega), w64_of (x := r * q / 10) (by omega) (by omega), Int.tdiv_eq_ediv_of_nonneg m1.1, w64_of (x := r * q / 10) (by omega) (by omega)]
    by_cases h2 : r * q / 10 < r
    · rw [dec_t h2]
      exact ⟨r * q / 10, rfl, rfl, by omega, by omega, fun h6 => by have := hl6 h6; subst this; simp⟩
    · rw [dec_f h2]
      have : r * q / 10 = r := by omega
      exact ⟨r, rfl, by rw [this], by omega, by omega, fun h6 => by have := hl6 h6; subst this; simp at this; omega⟩

def psum (g : GSent → Int) (l : List GSent) (k : Nat) : Int := ((l.take k).map g).sum
theorem psum_step {g : GSent → Int} {l : List GSent} {k : Nat} (h : k < l.length) : psum g l (k + 1) = psum g l k + g (l[k]'h) := by
  unfold psum
  rw [List.take_succ_eq_append_getElem h, List.map_append, List.sum_append, List.map_singleton, List.sum_singleton]
theorem psum_range {g : GSent → Int} {l : List GSent} (h : ∀ x ∈ l, 0 ≤ g x ∧ g x ≤ 423600) : ∀ k, k ≤ l.length → 0 ≤ psum g l k ∧ psum g l k ≤ 423600 * (k : Int)
  | 0, _ => by simp [psum]
  | k + 1, hk => by
    have ih := psum_range h k (by omega)
    have hx := h _ (List.getElem_mem (show k < l.length by omega))
    rw [psum_step (by omega)]
    omega

def okB (p : GPrice) (l : List GSent) : Bool := P.isPrice p && (l.all P.isSent && decide ((l.length : Int) ≤ 20))
theorem okB_spec {p : GPrice} {l : List GSent} (h : okB p l = true) : P.isPrice p = true ∧ (∀ x ∈ l, P.isSent x = true) ∧ l.length ≤ 20 := by
  unfold okB at h
  simp only [Bool.and_eq_true, List.all_eq_true, decide_eq_true_eq] at h
  exact ⟨h.1, h.2.1, by omega⟩

theorem bill_val {p : GPrice} {l : List GSent} (hl : l.length ≤ 1048576) :
    i_BillOf p l = some (if okB p l = true then (psum (P.cost p) l l.length, psum (rf p) l l.length, true) else (0, 0, false)) ∧ s_BillOf p l = some (if okB p l = true then (psum (P.cost p) l l.length, psum (rf p) l l.length, true) else (0, 0, false)) := by
  unfold i_BillOf s_BillOf
  simp only [P.i_isPrice, P.s_isPrice, P.i_AreSent_eq hl, P.s_pcList_eq hl, Option.bind_some]
  have hif : ∀ b : Bool, ((bif (!b) then some true else some (!(l.all P.isSent && decide ((l.length : Int) ≤ 20)))) : Option Bool) = some (!(b && (l.all P.isSent && decide ((l.length : Int) ≤ 20)))) := fun b => by cases b <;> rfl
  simp only [hif, Option.bind_some]
  have he : (P.isPrice p && (l.all P.isSent && decide ((l.length : Int) ≤ 20))) = okB p l := rfl
  rw [he]
  cases hok : okB p l with
  | false => exact ⟨rfl, rfl⟩
  | true =>
    obtain ⟨h1, h2, h3⟩ := okB_spec hok
    have rc := psum_range (g := P.cost p) (l := l) fun x hx => P.cost_range h1 (h2 x hx)
    have rr := psum_range (g := rf p) (l := l) fun x hx => by
      have a := refund_val h1 (h2 x hx)
      have b := P.cost_range h1 (h2 x hx)
      omega
    simp only [Bool.not_true, cond_false, if_true]
    constructor
    · refine bind_eq (one_loop' (n := l.length) (y := (psum (P.cost p) l l.length, psum (rf p) l l.length)) (fun i st => st = (psum (P.cost p) l i, psum (rf p) l i, (i : Int))) rfl (fun i st hi hst => ?_) (fun st hst => ?_)) rfl
      · subst hst
        have hx : l[i]? = some (l[i]'hi) := by simp [hi]
        have a := refund_val h1 (h2 _ (List.getElem_mem hi))
        have c1 := rc i (by omega)
        have c2 := rr i (by omega)
        have c3 := P.cost_range h1 (h2 _ (List.getElem_mem hi))
        refine ⟨_, ?_, rfl⟩
        simp only [dec_t (by omega : (i : Int) < (l.length : Int)), cond_true, idx_get, hx, Option.bind_some, P.i_cost, a.1]
        rw [psum_step hi, psum_step hi, w64_of (by omega) (by omega), w64_of (by omega) (by omega), w64_of (by omega) (by omega)]
        rfl
      · subst hst
        simp only [dec_f (by omega : ¬ (l.length : Int) < (l.length : Int)), cond_false]
    · refine bind_eq (one_loop' (n := l.length) (y := (psum (P.cost p) l l.length, psum (rf p) l l.length)) (fun i st => st = (psum (P.cost p) l i, psum (rf p) l i, (i : Int))) rfl (fun i st hi hst => ?_) (fun st hst => ?_)) rfl
      · subst hst
        have hx : l[i]? = some (l[i]'hi) := by simp [hi]
        have a := refund_val h1 (h2 _ (List.getElem_mem hi))
        have c1 := rc i (by omega)
        have c2 := rr i (by omega)
        have c3 := P.cost_range h1 (h2 _ (List.getElem_mem hi))
        refine ⟨_, ?_, rfl⟩
        simp only [dec_t (by omega : (i : Int) < (l.length : Int)), cond_true, idx_get, hx, Option.bind_some, P.s_cost, a.2.1]
        rw [psum_step hi, psum_step hi, w64_of (by omega) (by omega), w64_of (by omega) (by omega), w64_of (by omega) (by omega)]
        rfl
      · subst hst
        simp only [dec_f (by omega : ¬ (l.length : Int) < (l.length : Int)), cond_false]

/-! the dearest -/

def cAt (p : GPrice) (l : List GSent) (i : Nat) : Int := match l[i]? with
  | some x => P.cost p x
  | none => 0
def Best (c : Nat → Int) (k b : Nat) : Prop := b < k ∧ ∀ i, i < k → c i ≤ c b ∧ (c i = c b → b ≤ i)
theorem Best.one {c : Nat → Int} : Best c 1 0 := ⟨by omega, fun i hi => by
  have : i = 0 := by omega
  subst this
  exact ⟨Int.le_refl _, fun _ => Nat.le_refl _⟩⟩
theorem Best.next {c : Nat → Int} {k b : Nat} (h : Best c k b) : (c b < c k → Best c (k + 1) k) ∧ (¬ c b < c k → Best c (k + 1) b) := by
  obtain ⟨h1, h2⟩ := h
  refine ⟨fun hlt => ⟨by omega, fun i hi => ?_⟩, fun hlt => ⟨by omega, fun i hi => ?_⟩⟩
  · by_cases e : i = k
    · subst e; exact ⟨Int.le_refl _, fun _ => Nat.le_refl _⟩
    · have := h2 i (by omega)
      exact ⟨by omega, fun e => by omega⟩
  · by_cases e : i = k
    · subst e; exact ⟨by omega, fun _ => by omega⟩
    · exact h2 i (by omega)
theorem Best.unique {c : Nat → Int} {k a b : Nat} (h : Best c k a) (g : Best c k b) : a = b := by
  have h1 := h.2 b g.1
  have h2 := g.2 a h.1
  have e : c a = c b := by omega
  have := h1.2 e.symm
  have := h2.2 e
  omega

theorem dear_val {p : GPrice} {l : List GSent} (hl : l.length ≤ 1048576) : ∃ v, i_DearestOf p l = some v ∧ s_DearestOf p l = some v ∧ v.2 = (okB p l && decide (0 < (l.length : Int))) ∧ (v.2 = true → ∃ b : Nat, v.1 = (b : Int) ∧ Best (cAt p l) l.length b) := by
  unfold i_DearestOf s_DearestOf
  simp only [P.i_isPrice, P.s_isPrice, P.i_AreSent_eq hl, P.s_pcList_eq hl, Option.bind_some]
  have hif : ∀ b : Bool, ((bif (!b) then some true else some (!(l.all P.isSent && decide ((l.length : Int) ≤ 20)))) : Option Bool) = some (!(b && (l.all P.isSent && decide ((l.length : Int) ≤ 20)))) := fun b => by cases b <;> rfl
  simp only [hif, Option.bind_some]
  have he : (P.isPrice p && (l.all P.isSent && decide ((l.length : Int) ≤ 20))) = okB p l := rfl
  rw [he]
  cases hok : okB p l with
  | false => exact ⟨(0, false), rfl, rfl, rfl, fun h => by cases h⟩
  | true =>
    obtain ⟨h1, h2, h3⟩ := okB_spec hok
    simp only [Bool.not_true, cond_false, Option.bind_some, Bool.true_and]
    by_cases h0 : (l.length : Int) = 0
    · rw [dec_t h0, dec_f (by omega : ¬ 0 < (l.length : Int))]
      exact ⟨(0, false), rfl, rfl, rfl, fun h => by cases h⟩
    · rw [dec_f h0, dec_t (by omega : 0 < (l.length : Int))]
      simp only [cond_false]
      have atc : ∀ {i : Nat} (hi : i < l.length), cAt p l i = P.cost p (l[i]'hi) := fun {i} hi => by unfold cAt; rw [List.getElem?_eq_getElem hi]
      have nn : ∀ {i : Nat} (hi : i < l.length), 0 ≤ cAt p l i := fun {i} hi => by rw [atc hi]; exact (P.cost_range h1 (h2 _ (List.getElem_mem hi))).1
      have A : ∃ z, loopE (fun (st6 : Int × Int × Int) => (
        bif (decide (st6.2.2 < (l.length : Int))) then
          (idx l st6.2.2).bind fun e7 =>
          (i_priceOf p e7).bind fun r8 =>
          bif (decide (st6.2.1 < r8)) then
            some (.inl (st6.2.2, r8, (w64 (st6.2.2 + 1))))
          else
            some (.inl (st6.1, st6.2.1, (w64 (st6.2.2 + 1))))
        else
          some (.inr st6.1) : Option ((Int × Int × Int) ⊕ (Int)))) (0, (-1), 0) = some z ∧ ∃ b : Nat, z = (b : Int) ∧ Best (cAt p l) l.length b := by
        refine one_loop (n := l.length) (fun i st => st.2.2 = (i : Int) ∧ ((i = 0 ∧ st.1 = 0 ∧ st.2.1 = -1) ∨ ∃ b : Nat, Best (cAt p l) i b ∧ st.1 = (b : Int) ∧ st.2.1 = cAt p l b)) _ (fun i st hi ⟨e1, e2⟩ => .inl ?_) (fun st ⟨e1, e2⟩ => ?_) l.length 0 _ (by omega) ⟨rfl, .inl ⟨rfl, rfl, rfl⟩⟩
        · obtain ⟨s1, s2, s3⟩ := st
          simp only at e1 e2
          subst e1
          have hx : l[i]? = some (l[i]'hi) := by simp [hi]
          simp only [dec_t (by omega : (i : Int) < (l.length : Int)), cond_true, idx_get, hx, Option.bind_some, P.i_cost, ← atc hi]
          rw [w64_of (by omega) (by omega)]
          rcases e2 with ⟨rfl, rfl, rfl⟩ | ⟨b, hb, rfl, rfl⟩
          · rw [dec_t (by have := nn hi; omega : (-1 : Int) < cAt p l 0)]
            exact ⟨_, rfl, rfl, .inr ⟨0, Best.one, rfl, rfl⟩⟩
          · by_cases hlt : cAt p l b < cAt p l i
            · rw [dec_t hlt]
              exact ⟨_, rfl, rfl, .inr ⟨i, hb.next.1 hlt, rfl, rfl⟩⟩
            · rw [dec_f hlt]
              exact ⟨_, rfl, rfl, .inr ⟨b, hb.next.2 hlt, rfl, rfl⟩⟩
        · obtain ⟨s1, s2, s3⟩ := st
          simp only at e1 e2
          subst e1
          rcases e2 with ⟨h, _⟩ | ⟨b, hb, rfl, _⟩
          · omega
          · exact ⟨_, by simp only [dec_f (by omega : ¬ (l.length : Int) < (l.length : Int)), cond_false], b, rfl, hb⟩
      have B : ∃ z, loopE (fun (st6 : Int × Int) => (
        bif (decide (st6.2 < (l.length : Int))) then
          (idx l st6.2).bind fun e7 =>
          (s_pcCost p e7).bind fun r8 =>
          (idx l st6.1).bind fun e9 =>
          (s_pcCost p e9).bind fun r10 =>
          bif (decide (r10 < r8)) then
            some (.inl (st6.2, (w64 (st6.2 + 1))))
          else
            some (.inl (st6.1, (w64 (st6.2 + 1))))
        else
          some (.inr st6.1) : Option ((Int × Int) ⊕ (Int)))) (0, 0) = some z ∧ ∃ b : Nat, z = (b : Int) ∧ Best (cAt p l) l.length b := by
        refine one_loop (n := l.length) (fun i st => st.2 = (i : Int) ∧ ((i = 0 ∧ st.1 = 0) ∨ ∃ b : Nat, Best (cAt p l) i b ∧ st.1 = (b : Int))) _ (fun i st hi ⟨e1, e2⟩ => .inl ?_) (fun st ⟨e1, e2⟩ => ?_) l.length 0 _ (by omega) ⟨rfl, .inl ⟨rfl, rfl⟩⟩
        · obtain ⟨s1, s3⟩ := st
          simp only at e1 e2
          subst e1
          have hx : l[i]? = some (l[i]'hi) := by simp [hi]
          rcases e2 with ⟨rfl, rfl⟩ | ⟨b, hb, rfl⟩
          · simp only [dec_t (by omega : ((0 : Nat) : Int) < (l.length : Int)), cond_true, idx_get, hx, Option.bind_some, P.s_cost]
            have : idx l 0 = some (l[0]'hi) := by rw [show (0 : Int) = ((0 : Nat) : Int) from rfl, idx_get, hx]
            rw [this]
            simp only [Option.bind_some, dec_f (Int.lt_irrefl _), cond_false]
            rw [w64_of (by omega) (by omega)]
            exact ⟨_, rfl, rfl, .inr ⟨0, Best.one, rfl⟩⟩
          · have hbl : b < l.length := by have := hb.1; omega
            have hy : l[b]? = some (l[b]'hbl) := by simp [hbl]
            simp only [dec_t (by omega : (i : Int) < (l.length : Int)), cond_true, idx_get, hx, hy, Option.bind_some, P.s_cost, ← atc hi, ← atc hbl]
            rw [w64_of (by omega) (by omega)]
            by_cases hlt : cAt p l b < cAt p l i
            · rw [dec_t hlt]
              exact ⟨_, rfl, rfl, .inr ⟨i, hb.next.1 hlt, rfl⟩⟩
            · rw [dec_f hlt]
              exact ⟨_, rfl, rfl, .inr ⟨b, hb.next.2 hlt, rfl⟩⟩
        · obtain ⟨s1, s3⟩ := st
          simp only at e1 e2
          subst e1
          rcases e2 with ⟨h, _⟩ | ⟨b, hb, rfl⟩
          · omega
          · exact ⟨_, by simp only [dec_f (by omega : ¬ (l.length : Int) < (l.length : Int)), cond_false], b, rfl, hb⟩
      obtain ⟨z, a1, b, rfl, a2⟩ := A
      obtain ⟨y, b1, b', rfl, b2⟩ := B
      have := a2.unique b2
      subst this
      exact ⟨((b : Int), true), by rw [a1]; rfl, by rw [b1]; rfl, rfl, fun _ => ⟨b, rfl, a2⟩⟩
end Go.Proofs.Ytkjcobhldfhodaa.Sh
