/-
  Comparisons turned about, wins counted, and how far closest phrases are.
-/
import Derived.Test.YtlhplhjibadplaaBDraw9
namespace Go.Proofs.Ytlhplhjibadplaa.Sh
open Go Go.Ab
set_option maxRecDepth 100000

/-! comparisons -/

def sgn (n : Int) : Int := bif decide (0 < n) then 1 else (bif decide (n < 0) then -1 else 0)
theorem sign_eq (n : Int) : s_l1Sign n = some (sgn n) := by
  unfold s_l1Sign sgn
  cases decide (0 < n) <;> cases decide (n < 0) <;> rfl
theorem sgn_cases (n : Int) : (0 < n ∧ sgn n = 1) ∨ (n < 0 ∧ sgn n = -1) ∨ (n = 0 ∧ sgn n = 0) := by
  unfold sgn
  by_cases h1 : 0 < n
  · rw [dec_t h1]; exact .inl ⟨h1, rfl⟩
  · rw [dec_f h1]
    by_cases h2 : n < 0
    · rw [dec_t h2]; exact .inr (.inl ⟨h2, rfl⟩)
    · rw [dec_f h2]; exact .inr (.inr ⟨by omega, rfl⟩)

theorem compare_turn {a b : GBook} (ha : Q.Fine a) (hb : Q.Fine b) {s : Bytes} (hs : s.length ≤ maxLen) : ∃ v : Int × Bool, i_CompareBooks a b s = some v ∧ s_CompareBooks a b s = some v ∧ i_CompareBooks b a s = some (-v.1, v.2) ∧ (v.1 = -1 ∨ v.1 = 0 ∨ v.1 = 1) := by
  unfold s_CompareBooks i_CompareBooks s_msCompare
  obtain ⟨n, ok, e1, e2, n1, n2⟩ := Q.least_same ha hs
  obtain ⟨m, ok', e3, e4, m1, m2⟩ := Q.least_same hb hs
  simp only [e1, e2, e3, e4, Option.bind_some]
  rw [Q.cmp_sign n m ⟨by omega, by omega⟩ ⟨by omega, by omega⟩, Q.cmp_sign m n ⟨by omega, by omega⟩ ⟨by omega, by omega⟩, sign_eq, sign_eq, w64_of (by omega) (by omega), w64_of (by omega) (by omega)]
  have c1 := sgn_cases (n - m)
  have c2 := sgn_cases (m - n)
  have he : sgn (m - n) = - sgn (n - m) := by omega
  rw [he]
  cases ok <;> cases ok' <;> first | exact ⟨(sgn (n - m), true), rfl, rfl, rfl, by show sgn (n - m) = -1 ∨ _; omega⟩ | exact ⟨(0, false), rfl, rfl, rfl, .inr (.inl rfl)⟩

noncomputable def cv (a b : GBook) (s : Bytes) : Int × Bool := match i_CompareBooks a b s with
  | some v => v
  | none => (0, false)
noncomputable def ct (a b : GBook) (l : List Bytes) : Nat → Int × Int × Int
  | 0 => (0, 0, 0)
  | i + 1 => Q.bump (cv a b (l.getD i [])) (ct a b l i)
theorem ct_cnt (a b : GBook) (l : List Bytes) : ∀ i, Q.Cnt (ct a b l i) i
  | 0 => ⟨by simp [ct], by simp [ct], by simp [ct]⟩
  | i + 1 => (ct_cnt a b l i).bump _
theorem ct_loop {a b : GBook} (ha : Q.Fine a) (hb : Q.Fine b) {l : List Bytes} (hf : Q.FineL l) (hl : l.length ≤ 20) : loopE (Q.iLoop a b l) (0, 0, 0, 0) = some ((ct a b l l.length).1, (ct a b l l.length).2.1, (ct a b l l.length).2.2) := by
  refine one_loop' (n := l.length) (fun i st => st = ((ct a b l i).1, (ct a b l i).2.1, (ct a b l i).2.2, (i : Int))) rfl (fun i st hi hst => ?_) (fun st hst => ?_)
  · subst hst
    obtain ⟨v, h1, _, _, h4⟩ := compare_turn ha hb (hf.got _ (List.getElem_mem hi))
    refine ⟨_, Q.i_step hl hi h1 h4 (ct_cnt a b l i), ?_⟩
    have : cv a b (l.getD i []) = v := by
      unfold cv
      rw [List.getD_eq_getElem?_getD, List.getElem?_eq_getElem hi]
      show (match i_CompareBooks a b (l[i]'hi) with | some v => v | none => (0, false)) = v
      rw [h1]
    show _ = ((Q.bump (cv a b (l.getD i [])) (ct a b l i)).1, _, _, _)
    simp only [ct, this]
  · subst hst
    unfold Q.iLoop
    simp

theorem ct_turn {a b : GBook} (ha : Q.Fine a) (hb : Q.Fine b) {l : List Bytes} (hf : Q.FineL l) : ∀ i, i ≤ l.length → ct b a l i = ((ct a b l i).2.2, (ct a b l i).2.1, (ct a b l i).1)
  | 0, _ => rfl
  | i + 1, h => by
    have ih := ct_turn ha hb hf i (by omega)
    have hi : i < l.length := by omega
    obtain ⟨v, h1, _, h3, h4⟩ := compare_turn ha hb (hf.got _ (List.getElem_mem hi))
    have e : l.getD i [] = l[i]'hi := by rw [List.getD_eq_getElem?_getD, List.getElem?_eq_getElem hi]; rfl
    have c1 : cv a b (l.getD i []) = v := by unfold cv; rw [e, h1]
    have c2 : cv b a (l.getD i []) = (-v.1, v.2) := by unfold cv; rw [e, h3]
    simp only [ct, c1, c2, ih]
    obtain ⟨n, t⟩ := v
    simp only at h4
    unfold Q.bump
    cases t with
    | false => rfl
    | true => rcases h4 with rfl | rfl | rfl <;> rfl

theorem ct_sum {a b : GBook} {l : List Bytes} (i : Nat) : (ct a b l (i + 1)).1 + (ct a b l (i + 1)).2.1 + (ct a b l (i + 1)).2.2 = (ct a b l i).1 + (ct a b l i).2.1 + (ct a b l i).2.2 + (bif (cv a b (l.getD i [])).2 then 1 else 0) := by
  simp only [ct]
  unfold Q.bump
  cases (cv a b (l.getD i [])).2 with
  | false => simp
  | true =>
    cases decide ((cv a b (l.getD i [])).1 = -1) with
    | true => simp; omega
    | false =>
      cases decide ((cv a b (l.getD i [])).1 = 0) with
      | true => simp; omega
      | false => simp; omega

def winsOk (a b : GBook) (l : List Bytes) : Bool := Q.isBook a && (Q.isBook b && (decide (l.length ≤ 20) && l.all Q.isLet))
theorem wins_val {a b : GBook} (ha : Q.Fine a) (hb : Q.Fine b) {l : List Bytes} (hf : Q.FineL l) : i_CountWins a b l = some (if winsOk a b l = true then ((ct a b l l.length).1, (ct a b l l.length).2.1, (ct a b l l.length).2.2, true) else (0, 0, 0, false)) := by
  unfold i_CountWins winsOk
  rw [Q.i_good ha, Q.i_good hb]
  simp only [Option.bind_some]
  cases Q.isBook a with
  | false => rfl
  | true =>
    cases Q.isBook b with
    | false => rfl
    | true =>
      simp only [Bool.not_true, cond_false, Option.bind_some, Bool.true_and]
      by_cases h20 : 20 < (l.length : Int)
      · rw [dec_t h20, dec_f (by omega : ¬ l.length ≤ 20)]; rfl
      rw [dec_f h20, dec_t (by omega : l.length ≤ 20), Q.any_lets hf]
      simp only [cond_false, Option.bind_some, Bool.true_and]
      cases l.all Q.isLet with
      | false => rfl
      | true => exact bind_eq (ct_loop ha hb hf (by omega)) rfl

/-! how far signals are -/

theorem far_one {a b : Int} (ha : 0 ≤ a ∧ a < 64) (hb : 0 ≤ b ∧ b < 64) : ∃ d : Int, 0 ≤ d ∧ d ≤ 6 ∧ s_sgDistance a b = some d ∧ i_distanceOf a b = some d ∧ (a ≠ b → 1 ≤ d) := by
  obtain ⟨d, h1, h2, h3⟩ := Q.dist_one ha hb
  refine ⟨(d : Int), by omega, by omega, h2, h3, fun hne => ?_⟩
  have key : ∀ m k : Fin 64, m ≠ k → i_distanceOf ((m.val : Nat) : Int) ((k.val : Nat) : Int) ≠ some 0 := by decide +kernel
  have := key ⟨a.toNat, by omega⟩ ⟨b.toNat, by omega⟩ (fun e => hne (by have := congrArg Fin.val e; simp only at this; omega))
  simp only [Int.toNat_of_nonneg ha.1, Int.toNat_of_nonneg hb.1, h3] at this
  have hd : d ≠ 0 := fun e => this (by rw [e]; rfl)
  omega

noncomputable def dAt (x y : GPhrase) (i : Nat) : Int := (i_distanceOf (x.2.1.getD i 0) (y.2.1.getD i 0)).getD 0
noncomputable def dSum (x y : GPhrase) : Nat → Int
  | 0 => 0
  | i + 1 => dSum x y i + dAt x y i
theorem at_phrase {x y : GPhrase} (hx : Q.Ph x) (hy : Q.Ph y) (hl : x.2.1.length = y.2.1.length) {i : Nat} (hi : i < x.2.1.length) :
    ∃ u v, x.2.1[i]? = some u ∧ y.2.1[i]? = some v ∧ (0 ≤ u ∧ u < 64) ∧ (0 ≤ v ∧ v < 64) ∧ s_sgDistance u v = some (dAt x y i) ∧ i_distanceOf u v = some (dAt x y i) ∧ 0 ≤ dAt x y i ∧ dAt x y i ≤ 6 ∧ (u ≠ v → 1 ≤ dAt x y i) := by
  have hy' : i < y.2.1.length := by omega
  have r1 := hx.sig _ (List.getElem_mem hi)
  have r2 := hy.sig _ (List.getElem_mem hy')
  obtain ⟨d, d0, d6, h2, h3, h4⟩ := far_one r1 r2
  have e : dAt x y i = d := by
    unfold dAt
    rw [List.getD_eq_getElem?_getD, List.getD_eq_getElem?_getD, List.getElem?_eq_getElem hi, List.getElem?_eq_getElem hy']
    show (i_distanceOf (x.2.1[i]'hi) (y.2.1[i]'hy')).getD 0 = d
    rw [h3]; rfl
  rw [e]
  exact ⟨_, _, List.getElem?_eq_getElem hi, List.getElem?_eq_getElem hy', r1, r2, h2, h3, d0, d6, h4⟩
theorem dSum_range {x y : GPhrase} (hx : Q.Ph x) (hy : Q.Ph y) (hl : x.2.1.length = y.2.1.length) : ∀ i, i ≤ x.2.1.length → 0 ≤ dSum x y i ∧ dSum x y i ≤ 6 * (i : Int)
  | 0, _ => by simp [dSum]
  | i + 1, h => by
    have ih := dSum_range hx hy hl i (by omega)
    obtain ⟨u, v, _, _, _, _, _, _, h0, h6, _⟩ := at_phrase hx hy hl (i := i) (by omega)
    simp only [dSum]
    omega
theorem dSum_far {x y : GPhrase} (hx : Q.Ph x) (hy : Q.Ph y) (hl : x.2.1.length = y.2.1.length) : ∀ i, i ≤ x.2.1.length → dSum x y i < 1 → ∀ j, j < i → x.2.1[j]? = y.2.1[j]?
  | 0, _, _, j, hj => by omega
  | i + 1, h, h1, j, hj => by
    have r := dSum_range hx hy hl i (by omega)
    obtain ⟨u, v, e1, e2, _, _, _, _, h0, h6, h7⟩ := at_phrase hx hy hl (i := i) (by omega)
    simp only [dSum] at h1
    by_cases e : j = i
    · subst e
      rw [e1, e2]
      by_cases hne : u = v
      · rw [hne]
      · have := h7 hne; omega
    · exact dSum_far hx hy hl i (by omega) (by omega) j (by omega)
theorem dist_sum {x y : GPhrase} (hx : Q.Ph x) (hy : Q.Ph y) (hl : x.2.1.length = y.2.1.length) : i_phraseDistance x y = some (dSum x y x.2.1.length) := by
  unfold i_phraseDistance
  have h3 := hx.len
  refine bind_eq (one_loop' (n := x.2.1.length) (y := dSum x y x.2.1.length) (fun i st => st = (dSum x y i, (i : Int))) rfl (fun i st hi hst => ?_) (fun st hst => ?_)) rfl
  · subst hst
    obtain ⟨u, v, e1, e2, _, _, _, e3, h0, h6, _⟩ := at_phrase hx hy hl hi
    have r := dSum_range hx hy hl i (by omega)
    refine ⟨_, ?_, rfl⟩
    simp only [dec_t (by omega : (i : Int) < (x.2.1.length : Int)), cond_true, idx_get, e1, e2, Option.bind_some, e3]
    rw [w64_of (by omega) (by omega), w64_of (by omega) (by omega)]
    rfl
  · subst hst
    simp only [dec_f (by omega : ¬ (x.2.1.length : Int) < (x.2.1.length : Int)), cond_false]

theorem first_none {α : Type} {t : α → Bool} : ∀ {l : List α} {k : Nat}, firstAt t l k = none → ∀ x ∈ l, t x = false
  | [], _, _, x, hx => by cases hx
  | y :: l, k, h, x, hx => by
    unfold firstAt at h
    cases ht : t y with
    | true => rw [ht] at h; cases h
    | false =>
      rw [ht] at h
      rcases List.mem_cons.1 hx with rfl | hx
      · exact ht
      · exact first_none h x hx
theorem book_apart {b : GBook} (hb : Q.isBook b = true) {i k : Nat} {x y : GPhrase} (hik : i < k) (hx : b.1[i]? = some x) (hy : b.1[k]? = some y) : x.2.1 ≠ y.2.1 := by
  simp only [Q.isBook, Bool.and_eq_true, List.all_eq_true] at hb
  have hk : k < b.1.length := (List.getElem?_eq_some_iff.1 hy).1
  have := hb.1 k (List.mem_range.2 hk)
  simp only [Q.goodAt, hy, Bool.and_eq_true, Option.isNone_iff_eq_none] at this
  have h2 := first_none this.2 x (List.mem_of_getElem? (by rw [List.getElem?_take, if_pos hik]; exact hx))
  exact of_decide_eq_false h2

theorem closest_law {b : GBook} (h : Q.Fine b) : ∃ v : Int × Int × Bool, ∃ d : Int, i_ClosestPhrases b = some v ∧ s_ClosestPhrases b = some v ∧ i_LeastDistance b = some (d, v.2.2) ∧ s_LeastDistance b = some (d, v.2.2) ∧
    (v.2.2 = true → ∃ (i k : Nat) (x y : GPhrase), v.1 = (i : Int) ∧ v.2.1 = (k : Int) ∧ i < k ∧ x.2.1.length = y.2.1.length ∧ b.1[i]? = some x ∧ b.1[k]? = some y ∧ Q.Ph x ∧ Q.Ph y ∧ d = dSum x y x.2.1.length ∧ 1 ≤ d) := by
  unfold i_ClosestPhrases s_ClosestPhrases i_LeastDistance s_LeastDistance
  rw [Q.i_good h, Q.s_good h]
  simp only [Option.bind_some]
  cases hb : Q.isBook b with
  | false => exact ⟨(0, 0, false), 0, rfl, rfl, rfl, rfl, fun h => by cases h⟩
  | true =>
    have ph := Q.book_ph hb
    obtain ⟨p, q, l, e1, e2, hB⟩ := Q.closest_same h ph
    simp only [Bool.not_true, cond_false, e1, e2, Option.bind_some]
    rcases hB with hn | ⟨h0, i, k, x, y, rfl, rfl, hik, hl, hx, hy, hd⟩
    · rw [dec_f (by omega : ¬ 0 ≤ l), dec_t hn]
      exact ⟨(p, q, false), 0, rfl, rfl, rfl, rfl, fun h => by cases h⟩
    · have px := ph _ (List.mem_of_getElem? hx)
      have py := ph _ (List.mem_of_getElem? hy)
      have hs := dist_sum px py hl
      have hls : l = dSum x y x.2.1.length := by rw [hs] at hd; exact (Option.some.inj hd).symm
      rw [dec_t h0, dec_f (by omega : ¬ l < 0)]
      simp only [Bool.not_true, cond_false, idx_get, hx, hy, hd, Option.bind_some]
      refine ⟨((i : Int), (k : Int), true), l, rfl, rfl, rfl, rfl, fun _ => ⟨i, k, x, y, rfl, rfl, hik, hl, hx, hy, px, py, hls, ?_⟩⟩
      by_cases h1 : 1 ≤ l
      · exact h1
      · exfalso
        have hall := dSum_far px py hl x.2.1.length (Nat.le_refl _) (by omega)
        refine book_apart hb hik hx hy (List.ext_getElem? fun j => ?_)
        by_cases hj : j < x.2.1.length
        · exact hall j hj
        · rw [List.getElem?_eq_none (by omega), List.getElem?_eq_none (by omega)]

theorem show_law {b : GBook} (hb : Q.Fine b) {s : Bytes} (hs : s.length ≤ maxLen) (sec : Int) : ∃ v n ok, i_ShowSeconds b s sec = some v ∧ s_ShowSeconds b s sec = some v ∧ i_LeastSignals b s = some (n, ok) ∧ (v.2 = true → ok = true ∧ w64 (w64 (n + 1) * sec) = v.1) := by
  unfold s_ShowSeconds i_ShowSeconds
  obtain ⟨n, ok, e1, e2, _, _⟩ := Q.least_same hb hs
  simp only [e1, e2, Q.within_eq, Q.l1In_eq, Option.bind_some]
  cases ok with
  | false => exact ⟨_, n, false, rfl, rfl, rfl, fun h => by cases h⟩
  | true =>
    cases Q.inB sec 1 60 with
    | false => exact ⟨_, n, true, rfl, rfl, rfl, fun h => by cases h⟩
    | true => exact ⟨_, n, true, rfl, rfl, rfl, fun _ => ⟨rfl, rfl⟩⟩
end Go.Proofs.Ytlhplhjibadplaa.Sh
