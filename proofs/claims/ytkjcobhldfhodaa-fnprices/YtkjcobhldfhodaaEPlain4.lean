/-
  FnPrices.
-/
import Derived.Test.YtkjcobhldfhodaaEPlain3
import Derived.Test.YtkjcobhldfhodaaEDraw6
namespace Go.Proofs.Ytkjcobhldfhodaa.Sh
open Go Go.Ab
set_option maxRecDepth 100000

theorem cost_clean {p : GPrice} {x : GSent} (hp : P.isPrice p = true) (hx : P.isSent x = true) :
    P.cost p x = bif x.2.2.1 then (p.1 + p.2.1 * x.1 * x.2.1 + p.2.2.1 * x.2.1) + (p.1 + p.2.1 * x.1 * x.2.1 + p.2.2.1 * x.2.1) * p.2.2.2.1 / 100 else p.1 + p.2.1 * x.1 * x.2.1 + p.2.2.1 * x.2.1 := by
  unfold P.isPrice at hp
  unfold P.isSent at hx
  simp only [Bool.and_eq_true, P.inB_iff] at hp hx
  obtain ⟨⟨b1, b2⟩, ⟨a1, a2⟩, ⟨c1, c2⟩, d1, d2⟩ := hp
  obtain ⟨⟨s1, s2⟩, ⟨t1, t2⟩, _⟩ := hx
  unfold P.cost
  have e1 := P.mul_range a1 a2 (show (0 : Int) ≤ x.1 by omega) s2
  have e2 := P.mul_range e1.1 e1.2 (show (0 : Int) ≤ x.2.1 by omega) t2
  have e3 := P.mul_range c1 c2 (show (0 : Int) ≤ x.2.1 by omega) t2
  generalize p.2.1 * x.1 = u at *
  generalize hv : u * x.2.1 = v at *
  generalize p.2.2.1 * x.2.1 = z at *
  rw [w64_of (x := u) (by omega) (by omega), hv, w64_of (x := v) (by omega) (by omega), w64_of (x := p.1 + v) (by omega) (by omega), w64_of (x := z) (by omega) (by omega), w64_of (x := p.1 + v + z) (by omega) (by omega)]
  have e4 := P.mul_range (show 0 ≤ p.1 + v + z by omega) (show p.1 + v + z ≤ 141200 by omega) d1 d2
  cases x.2.2.1 with
  | false => rfl
  | true =>
    simp only [cond_true]
    generalize (p.1 + v + z) * p.2.2.2.1 = y at *
    rw [w64_of (x := y) (by omega) (by omega), Int.tdiv_eq_ediv_of_nonneg (by omega), w64_of (x := y / 100) (by omega) (by omega), w64_of (by omega) (by omega)]

theorem cost_more {p : GPrice} {x : GSent} (hp : P.isPrice p = true) (hx : P.isSent x = true) (h : x.1 < 72) : P.isSent (w64 (x.1 + 1), x.2) = true ∧ P.cost p x ≤ P.cost p (w64 (x.1 + 1), x.2) := by
  have hs := hx
  unfold P.isSent at hs
  simp only [Bool.and_eq_true, P.inB_iff] at hs
  obtain ⟨⟨s1, s2⟩, ⟨t1, t2⟩, l1, l2⟩ := hs
  rw [w64_of (by omega) (by omega)]
  have hx2 : P.isSent (x.1 + 1, x.2) = true := by
    unfold P.isSent
    simp only [Bool.and_eq_true, P.inB_iff]
    exact ⟨⟨by omega, by omega⟩, ⟨t1, t2⟩, l1, l2⟩
  refine ⟨hx2, ?_⟩
  rw [cost_clean hp hx, cost_clean hp hx2]
  unfold P.isPrice at hp
  simp only [Bool.and_eq_true, P.inB_iff] at hp
  obtain ⟨⟨b1, b2⟩, ⟨a1, a2⟩, ⟨c1, c2⟩, d1, d2⟩ := hp
  simp only
  have e1 : p.2.1 * x.1 * x.2.1 ≤ p.2.1 * (x.1 + 1) * x.2.1 := Int.mul_le_mul_of_nonneg_right (Int.mul_le_mul_of_nonneg_left (by omega) a1) (by omega)
  generalize p.2.1 * x.1 * x.2.1 = u at *
  generalize p.2.1 * (x.1 + 1) * x.2.1 = v at *
  generalize p.2.2.1 * x.2.1 = z at *
  cases x.2.2.1 with
  | false => simp only [cond_false]; omega
  | true =>
    simp only [cond_true]
    have e2 : (p.1 + u + z) * p.2.2.2.1 ≤ (p.1 + v + z) * p.2.2.2.1 := Int.mul_le_mul_of_nonneg_right (by omega) d1
    have e3 : (p.1 + u + z) * p.2.2.2.1 / 100 ≤ (p.1 + v + z) * p.2.2.2.1 / 100 := Int.ediv_le_ediv (by omega) e2
    omega

theorem refund_of {p : GPrice} {x : GSent} (hp : P.isPrice p = true) (hx : P.isSent x = true) : i_RefundOf p x = some (rf p x, true) := by
  unfold i_RefundOf
  simp only [P.i_isPrice, P.i_isSent_eq, (refund_val hp hx).1, hp, hx, Option.bind_some]
  rfl

/-- both sides' price and refund -/
theorem price_same (p : GPrice) (x : GSent) : i_PriceOf p x = some (if (P.isPrice p && P.isSent x) = true then (P.cost p x, true) else (0, false)) ∧ s_PriceOf p x = some (if (P.isPrice p && P.isSent x) = true then (P.cost p x, true) else (0, false)) ∧
    i_RefundOf p x = some (if (P.isPrice p && P.isSent x) = true then (rf p x, true) else (0, false)) ∧ s_RefundOf p x = some (if (P.isPrice p && P.isSent x) = true then (rf p x, true) else (0, false)) := by
  unfold i_PriceOf s_PriceOf i_RefundOf s_RefundOf
  simp only [P.i_isPrice, P.s_isPrice, P.i_isSent_eq, P.s_isSent, P.i_cost, P.s_cost, Option.bind_some]
  cases hp : P.isPrice p with
  | false => exact ⟨rfl, rfl, rfl, rfl⟩
  | true =>
    cases hx : P.isSent x with
    | false => exact ⟨rfl, rfl, rfl, rfl⟩
    | true =>
      have h := refund_val hp hx
      rw [h.1, h.2.1]
      exact ⟨rfl, rfl, rfl, rfl⟩

theorem letters_law {b : GBook} (hb : Q.Fine b) {s : Bytes} (hs : s.length ≤ maxLen) (p : GPrice) (t : Int) : ∃ v n ok, s_PriceOfLetters p b s t = some v ∧ i_PriceOfLetters p b s t = some v ∧ i_LeastSignals b s = some (n, ok) ∧ (v.2 = true → ok = true ∧ i_PriceOf p (n, t, false, 0, ()) = some (v.1, true)) := by
  unfold s_PriceOfLetters i_PriceOfLetters
  obtain ⟨n, ok, e1, e2, _, _⟩ := Q.least_same hb hs
  have h := (price_same p (n, t, false, 0, ())).1
  simp only [e1, e2, P.i_isPrice, P.s_isPrice, P.i_isSent_eq, P.s_isSent, P.i_cost, P.s_cost, Option.bind_some]
  cases ok with
  | false => exact ⟨_, n, false, rfl, rfl, rfl, fun h => by cases h⟩
  | true =>
    cases hp : P.isPrice p with
    | false => exact ⟨_, n, true, rfl, rfl, rfl, fun h => by cases h⟩
    | true =>
      cases hx : P.isSent (n, t, false, 0, ()) with
      | false => exact ⟨_, n, true, rfl, rfl, rfl, fun h => by cases h⟩
      | true => exact ⟨_, n, true, rfl, rfl, rfl, fun _ => ⟨rfl, by rw [h, hp, hx]; rfl⟩⟩

/-- FnPrices -/
theorem plain_Prices (code more : List Int) (hc : ∀ b ∈ code, 0 ≤ b ∧ b ≤ 255) (hm : ∀ b ∈ more, 0 ≤ b ∧ b ≤ 255) (hlc : code.length ≤ maxLen) (hlm : more.length ≤ maxLen) : l_FnPrices code more = some true := by
  unfold l_FnPrices l_big
  unfold maxLen at hlc hlm
  by_cases h1 : 1048576 < (code.length : Int)
  · rw [dec_t h1]; rfl
  rw [dec_f h1, w64_of (by omega) (by omega)]
  by_cases h2 : 1048576 - (code.length : Int) < (more.length : Int)
  · rw [dec_t h2]; rfl
  rw [dec_f h2]
  simp only [cond_false, Option.bind_some]
  have l1 : code.length ≤ 1048576 := by omega
  have l2 : more.length ≤ 1048576 := by omega
  obtain ⟨p, l, e1, hl⟩ := draw_bill hc l1
  have hl1 : l.length ≤ 1048576 := by omega
  obtain ⟨e2, e3⟩ := bill_val (p := p) (l := l) hl1
  obtain ⟨v, e4, e5, e6, e7⟩ := dear_val (p := p) (l := l) hl1
  obtain ⟨q, x, f1⟩ := draw_price hm l2
  obtain ⟨f2, f3, f4, f5⟩ := price_same q x
  obtain ⟨u, b, s, t, g1, g2, g3⟩ := draw_letters hm l2
  obtain ⟨w, n, ok, g4, g5, g6, g7⟩ := letters_law g2 (s := s) (by unfold maxLen; omega) u t
  simp only [e1, e2, e3, e4, e5, Option.bind_some, bne_self_eq_false, cond_false, decide_true, Bool.not_true]
  have hok : (if okB p l = true then (psum (P.cost p) l l.length, psum (rf p) l l.length, true) else ((0 : Int), (0 : Int), false)).2.2 = okB p l := by cases okB p l <;> rfl
  have hc1 : ∀ (a : Bool), ((bif a then some (decide (0 < (l.length : Int))) else some false) : Option Bool) = some (a && decide (0 < (l.length : Int))) := fun a => by cases a <;> rfl
  simp only [hok, hc1, Option.bind_some, e6, bne_self_eq_false, cond_false]
  refine bind_eq (x := .inl ()) ?_ ?_
  · cases hk : okB p l with
    | false => rfl
    | true =>
      obtain ⟨k1, k2, k3⟩ := okB_spec hk
      have rc := psum_range (g := P.cost p) (l := l) fun x hx => P.cost_range k1 (k2 x hx)
      have rr := psum_range (g := rf p) (l := l) fun x hx => by
        have a := refund_val k1 (k2 x hx)
        have b := P.cost_range k1 (k2 x hx)
        omega
      simp only [cond_true, if_true]
      refine bind_eq (one_loop' (n := l.length) (y := (Sum.inl (p.1, p.2.1, p.2.2.1, p.2.2.2.1, l, psum (P.cost p) l l.length, psum (rf p) l l.length) : (Int × Int × Int × Int × (List GSent) × Int × Int) ⊕ Bool)) (a := (p.1, p.2.1, p.2.2.1, p.2.2.2.1, l, (0 : Int), (0 : Int), (0 : Int))) (fun i st => st = (p.1, p.2.1, p.2.2.1, p.2.2.2.1, l, psum (P.cost p) l i, psum (rf p) l i, (i : Int))) rfl (fun i st hi hst => ?_) (fun st hst => ?_)) ?_
      · subst hst
        have hl0 : 0 < (l.length : Int) := by omega
        obtain ⟨b, hb1, hb2, hb3⟩ := e7 (by rw [e6, hk, dec_t hl0]; rfl)
        have hx : l[i]? = some (l[i]'hi) := by simp [hi]
        have hy : l[b]? = some (l[b]'hb2) := by simp [hb2]
        have sx := k2 _ (List.getElem_mem hi)
        have sy := k2 _ (List.getElem_mem hb2)
        have hbest := hb3 i hi
        have ci : cAt p l i = P.cost p (l[i]'hi) := by unfold cAt; rw [hx]
        have cb : cAt p l b = P.cost p (l[b]'hb2) := by unfold cAt; rw [hy]
        rw [ci, cb] at hbest
        have R := refund_val k1 sx
        have pe : ∀ z, P.isSent z = true → i_PriceOf (p.1, p.2.1, p.2.2.1, p.2.2.2.1, ()) z = some (P.cost p z, true) := fun z hz => price_of (p := p) k1 hz
        have re : ∀ z, P.isSent z = true → i_RefundOf (p.1, p.2.1, p.2.2.1, p.2.2.2.1, ()) z = some (rf p z, true) := fun z hz => refund_of (p := p) k1 hz
        have c1 := rc i (by omega)
        have c2 := rr i (by omega)
        have c3 := P.cost_range k1 sx
        refine ⟨_, ?_, rfl⟩
        simp only [dec_t (by omega : (i : Int) < (l.length : Int)), dec_t (by omega : (0 : Int) ≤ (i : Int)), Bool.and_self, cond_true, Int.toNat_natCast, hx, Option.bind_some, pe _ sx, re _ sx, hb1, dec_t (by omega : (0 : Int) ≤ (b : Int)), dec_t (by omega : (b : Int) < (l.length : Int)), hy, pe _ sy, Bool.not_true, cond_false, dec_f (by omega : ¬ rf p (l[i]'hi) < 0), dec_f (by omega : ¬ P.cost p (l[i]'hi) < rf p (l[i]'hi)), dec_f (by omega : ¬ P.cost p (l[b]'hb2) < P.cost p (l[i]'hi))]
        have hz : ((bif decide ((l[i]'hi).2.2.2.1 < 600) then some (!decide (rf p (l[i]'hi) = 0)) else some false) : Option Bool) = some false := by
          by_cases h6 : (l[i]'hi).2.2.2.1 < 600
          · rw [dec_t h6, dec_t (R.2.2.2.2 h6)]; rfl
          · rw [dec_f h6]; rfl
        have hw : ((bif decide (P.cost p (l[i]'hi) = P.cost p (l[b]'hb2)) then some (decide ((i : Int) < (b : Int))) else some false) : Option Bool) = some false := by
          by_cases h6 : P.cost p (l[i]'hi) = P.cost p (l[b]'hb2)
          · rw [dec_t h6, dec_f (by have := hbest.2 h6; omega)]; rfl
          · rw [dec_f h6]; rfl
        simp only [hz, hw, Option.bind_some, cond_false]
        rw [psum_step hi, psum_step hi, w64_of (x := psum (P.cost p) l i + _) (by omega) (by omega), w64_of (x := psum (rf p) l i + _) (by omega) (by omega), w64_of (x := (i : Int) + 1) (by omega) (by omega)]
        rfl
      · subst hst
        simp only [dec_f (by omega : ¬ (l.length : Int) < (l.length : Int)), cond_false]
      · have hle : decide ((l.length : Int) ≤ 20) = true := dec_t (by omega)
        have hall : l.all P.isSent = true := List.all_eq_true.2 k2
        have ip : i_IsPrice (p.1, p.2.1, p.2.2.1, p.2.2.2.1, ()) = some true := by rw [show ((p.1, p.2.1, p.2.2.1, p.2.2.2.1, ()) : GPrice) = p from rfl, P.i_isPrice, k1]
        simp only [decide_true, Bool.not_true, cond_false, Option.bind_some, P.i_AreSent_eq hl1, hall, hle, Bool.and_self, ip]
  simp only [f1, f2, f3, f4, f5, Option.bind_some, bne_self_eq_false, cond_false, decide_true, Bool.not_true]
  cases hpx : (P.isPrice q && P.isSent x) with
  | false =>
    simp only [Bool.false_eq_true, if_false, bne_self_eq_false, cond_false, Option.bind_some, g1, g4, g5, g6, decide_true, Bool.not_true]
    cases hw2 : w.2 with
    | false => rfl
    | true =>
      obtain ⟨g8, g9⟩ := g7 hw2
      simp only [g9, g8, cond_true, Option.bind_some, decide_true]
  | true =>
    rw [Bool.and_eq_true] at hpx
    simp only [if_true, bne_self_eq_false, cond_false, cond_true, Option.bind_some]
    refine bind_eq (x := .inl ()) ?_ ?_
    · by_cases h7 : x.1 < 72
      · obtain ⟨m1, m2⟩ := cost_more hpx.1 hpx.2 h7
        rw [dec_t h7]
        simp only [cond_true, price_of hpx.1 m1, Option.bind_some, Bool.not_true, cond_false, dec_f (by omega : ¬ P.cost q (w64 (x.1 + 1), x.2) < P.cost q x)]
      · rw [dec_f h7]; rfl
    · simp only [Option.bind_some, g1, g4, g5, g6, decide_true, Bool.not_true, bne_self_eq_false, cond_false]
      cases hw2 : w.2 with
      | false => rfl
      | true =>
        obtain ⟨g8, g9⟩ := g7 hw2
        simp only [g9, g8, cond_true, Option.bind_some, decide_true]
end Go.Proofs.Ytkjcobhldfhodaa.Sh
