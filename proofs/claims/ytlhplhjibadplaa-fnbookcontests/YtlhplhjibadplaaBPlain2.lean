/-
  FnBookContests.
-/
import Derived.Test.YtlhplhjibadplaaBPlain1
namespace Go.Proofs.Ytlhplhjibadplaa.Sh
open Go Go.Ab
set_option maxRecDepth 100000

theorem wins_same' {a b : GBook} (ha : Q.Fine a) (hb : Q.Fine b) {l : List Bytes} (hf : Q.FineL l) : s_CountWins a b l = i_CountWins a b l := by
  obtain ⟨v, h1, h2⟩ := Q.wins_same ha hb hf
  rw [h1, h2]

theorem signal_far {x y : GPhrase} (hx : Q.Ph x) (hy : Q.Ph y) (hl : x.2.1.length = y.2.1.length) {i : Nat} (hi : i < x.2.1.length) : ∃ u v, x.2.1[i]? = some u ∧ y.2.1[i]? = some v ∧ i_SignalDistance u v = some (dAt x y i, true) ∧ s_SignalDistance u v = some (dAt x y i, true) := by
  obtain ⟨u, v, e1, e2, r1, r2, e3, e4, _⟩ := at_phrase hx hy hl hi
  refine ⟨u, v, e1, e2, ?_, ?_⟩
  · unfold i_SignalDistance i_isSignal
    simp only [Q.within_eq, Option.bind_some]
    have h1 : Q.inB u 0 63 = true := by unfold Q.inB; rw [dec_t (by omega : (0 : Int) ≤ u), dec_t (by omega : u ≤ 63)]; rfl
    have h2 : Q.inB v 0 63 = true := by unfold Q.inB; rw [dec_t (by omega : (0 : Int) ≤ v), dec_t (by omega : v ≤ 63)]; rfl
    simp only [h1, h2, e4, Bool.not_true, cond_false, Option.bind_some]
  · unfold s_SignalDistance s_sgGood
    simp only [Q.l1In_eq, Option.bind_some]
    have h1 : Q.inB u 0 63 = true := by unfold Q.inB; rw [dec_t (by omega : (0 : Int) ≤ u), dec_t (by omega : u ≤ 63)]; rfl
    have h2 : Q.inB v 0 63 = true := by unfold Q.inB; rw [dec_t (by omega : (0 : Int) ≤ v), dec_t (by omega : v ≤ 63)]; rfl
    simp only [h1, h2, e3, Bool.not_true, cond_false, Option.bind_some]

/-- FnBookContests -/
theorem plain_BookContests (code more : List Int) (hc : ∀ b ∈ code, 0 ≤ b ∧ b ≤ 255) (hm : ∀ b ∈ more, 0 ≤ b ∧ b ≤ 255) (hlc : code.length ≤ maxLen) (hlm : more.length ≤ maxLen) : l_FnBookContests code more = some true := by
  unfold l_FnBookContests
  unfold maxLen at hlc hlm
  by_cases hbig : 1048576 < w64 ((code.length : Int) + (more.length : Int))
  · rw [dec_t hbig]; rfl
  rw [dec_f hbig]
  have l1 : code.length ≤ 9223372036854775807 := by omega
  have l2 : more.length ≤ 9223372036854775807 := by omega
  obtain ⟨a, b, l, e1, ha, hb, hl, hls⟩ := draw_wins hc l1
  have hf : Q.FineL l := ⟨by unfold maxLen; omega, fun s hs => by have := hls s hs; unfold maxLen; omega⟩
  have W1 := wins_val ha.fine hb.fine hf
  have W2 := wins_val hb.fine ha.fine hf
  have W3 := wins_same' ha.fine hb.fine hf
  obtain ⟨c, d, s, f1, hc', hd', hs'⟩ := draw_compare hm l2
  obtain ⟨v, f2, f3, f4, f5⟩ := compare_turn hc'.fine hd'.fine (s := s) (by unfold maxLen; omega)
  obtain ⟨u, g1, hu⟩ := draw_is hm l2
  obtain ⟨w, dd, g2, g3, g4, g5, g6⟩ := closest_law hu.fine
  obtain ⟨e, t, n, k1, he, ht⟩ := draw_show hm l2
  obtain ⟨z, m, ok, k2, k3, k4, k5⟩ := show_law he.fine (s := t) (by unfold maxLen; omega) n
  have hdc : s_DrawClosestPhrases more = some (u.1, ()) := by unfold s_DrawClosestPhrases; rw [g1]; rfl
  have hu2 : ((u.1, ()) : GBook) = u := rfl
  have hv : w64 (0 - v.1) = -v.1 := by rw [w64_of (by omega) (by omega)]; omega
  simp only [cond_false, hv, e1, W1, W3, f1, f2, f3, f4, hdc, hu2, g2, g3, g4, g5, k1, k2, k3, Option.bind_some, bne_self_eq_false, decide_true, Bool.not_true]
  refine bind_eq (x := .inl (a.1, b.1, e.1)) ?_ ?_
  · cases hw : w.2.2 with
    | false => rfl
    | true =>
      obtain ⟨i, k, x, y, h1, h2, h3, h4, h5, h6, h7, h8, h9, h10⟩ := g6 hw
      have x3 := h7.len
      simp only [cond_true, h1, h2, idx_get, h5, h6, Option.bind_some, dec_f (by omega : ¬ (k : Int) ≤ (i : Int)), dec_t (by omega : (x.2.1.length : Int) = (y.2.1.length : Int)), Bool.not_true, cond_false]
      refine bind_eq (one_loop' (n := x.2.1.length) (y := (Sum.inl (a.1, b.1, e.1, dSum x y x.2.1.length) : ((List GPhrase) × (List GPhrase) × (List GPhrase) × Int) ⊕ Bool)) (a := (a.1, b.1, e.1, (0 : Int), (0 : Int))) (fun i st => st = (a.1, b.1, e.1, dSum x y i, (i : Int))) rfl (fun i st hi hst => ?_) (fun st hst => ?_)) ?_
      · subst hst
        obtain ⟨p, q, p1, p2, p3, p4⟩ := signal_far h7 h8 h4 hi
        obtain ⟨_, _, _, _, _, _, _, _, d0, d6, _⟩ := at_phrase h7 h8 h4 hi
        have r := dSum_range h7 h8 h4 i (by omega)
        refine ⟨_, ?_, rfl⟩
        simp only [dec_t (by omega : (i : Int) < (x.2.1.length : Int)), cond_true, idx_get, p1, p2, p3, p4, Option.bind_some, Bool.not_true, cond_false, decide_true]
        rw [w64_of (by omega) (by omega), w64_of (by omega) (by omega)]
        rfl
      · subst hst
        simp only [dec_f (by omega : ¬ (x.2.1.length : Int) < (x.2.1.length : Int)), cond_false]
      · rw [← h9]
        simp only [decide_true, Bool.not_true, cond_false, Option.bind_some, dec_f (by omega : ¬ dd < 1)]
  simp only
  refine bind_eq (x := .inl (a.1, b.1)) ?_ ?_
  · cases hz : z.2 with
    | false => rfl
    | true =>
      obtain ⟨k6, k7⟩ := k5 hz
      have he2 : ((e.1, ()) : GBook) = e := rfl
      simp only [cond_true, he2, k4, k6, Option.bind_some, Bool.not_true, cond_false, k7, decide_true]
  simp only
  have ha2 : ((a.1, ()) : GBook) = a := rfl
  have hb2 : ((b.1, ()) : GBook) = b := rfl
  cases hok : winsOk a b l with
  | false => rfl
  | true =>
    have hl20 : l.length ≤ 20 := by
      unfold winsOk at hok
      simp only [Bool.and_eq_true, decide_eq_true_eq] at hok
      exact hok.2.2.1
    have hok2 : winsOk b a l = true := by
      unfold winsOk at hok ⊢
      simp only [Bool.and_eq_true] at hok ⊢
      exact ⟨hok.2.1, hok.1, hok.2.2⟩
    rw [hok2] at W2
    simp only [if_true] at W2
    have hturn := ct_turn ha.fine hb.fine hf l.length (Nat.le_refl _)
    rw [hturn] at W2
    have hcn := ct_cnt a b l
    simp only [if_true, Bool.not_true, cond_false, ha2, hb2, W2, Option.bind_some]
    refine bind_eq (one_loop' (n := l.length) (y := (ct a b l l.length).1 + (ct a b l l.length).2.1 + (ct a b l l.length).2.2) (fun i st => st = (a.1, b.1, (ct a b l i).1 + (ct a b l i).2.1 + (ct a b l i).2.2, (i : Int))) rfl (fun i st hi hst => ?_) (fun st hst => ?_)) ?_
    · subst hst
      have hx : l[i]? = some (l[i]'hi) := by simp [hi]
      obtain ⟨v, v1, v2, _, _⟩ := compare_turn ha.fine hb.fine (hf.got _ (List.getElem_mem hi))
      have hsum := ct_sum (a := a) (b := b) (l := l) i
      have hcv : cv a b (l.getD i []) = v := by
        unfold cv
        rw [List.getD_eq_getElem?_getD, List.getElem?_eq_getElem hi]
        show (match i_CompareBooks a b (l[i]'hi) with | some v => v | none => (0, false)) = v
        rw [v1]
      rw [hcv] at hsum
      have c := hcn i
      have c1 := c.a; have c2 := c.b; have c3 := c.c
      refine ⟨_, ?_, rfl⟩
      simp only [dec_t (by omega : (i : Int) < (l.length : Int)), cond_true, idx_get, hx, Option.bind_some, ha2, hb2, v2]
      cases hv2 : v.2 with
      | true =>
        rw [hv2] at hsum
        simp only [cond_true] at hsum ⊢
        rw [w64_of (by omega) (by omega), w64_of (by omega) (by omega), ← hsum]
        rfl
      | false =>
        rw [hv2] at hsum
        simp only [cond_false] at hsum ⊢
        rw [w64_of (x := (i : Int) + 1) (by omega) (by omega), hsum]
        simp
    · subst hst
      simp only [dec_f (by omega : ¬ (l.length : Int) < (l.length : Int)), cond_false]
    · have c := hcn l.length
      have c1 := c.a; have c2 := c.b; have c3 := c.c
      rw [w64_of (x := (ct a b l l.length).1 + (ct a b l l.length).2.1) (by omega) (by omega), w64_of (by omega) (by omega)]
      simp
end Go.Proofs.Ytlhplhjibadplaa.Sh
