/-
  What the functions of FnBookUses come to at a book: uses, means, unused signals, costs.
-/
import Derived.Test.YtlhplhjibadplaaUD1
import Derived.Test.YtlhplhjibadplaaUDraw
namespace Go.Proofs.Ytlhplhjibadplaa.Sh
open Go Go.Ab D
open Q (Fine inB)
set_option maxRecDepth 100000

theorem book_sig {b : GBook} (hb : Q.isBook b = true) : b.1.length ≤ 40 ∧ 1 ≤ b.1.length ∧ ∀ x ∈ b.1, x.2.1.length ≤ 3 ∧ ∀ n ∈ x.2.1, 1 ≤ n ∧ n ≤ 60 := by
  obtain ⟨_, h2, _, h4⟩ := (isBook_iff b).1 hb
  simp only [inB, Bool.and_eq_true, decide_eq_true_eq] at h4
  refine ⟨by omega, by omega, fun x hx => ?_⟩
  have := h2 x.2.1 (List.mem_map.2 ⟨x, hx, rfl⟩)
  simp only [Q.isSignals, inB, Bool.and_eq_true, decide_eq_true_eq, List.all_eq_true] at this
  exact ⟨by omega, this.2⟩
theorem flat_snoc {l : List GPhrase} {i : Nat} (h : i < l.length) : flatS (l.take (i + 1)) = flatS (l.take i) ++ l[i].2.1 := by
  unfold flatS sigs
  rw [List.take_succ_eq_append_getElem h, List.map_append, List.flatten_append]
  simp
theorem flat_len {l : List GPhrase} (h : ∀ x ∈ l, x.2.1.length ≤ 3) : (flatS l).length ≤ 3 * l.length := by
  induction l with
  | nil => simp [flatS, sigs]
  | cons x l ih =>
    have h1 := h x (by simp)
    have h2 := ih fun y hy => h y (List.mem_cons_of_mem _ hy)
    simp only [flatS, sigs, List.map_cons, List.flatten_cons, List.length_append, List.length_cons] at h2 ⊢
    omega
theorem flat_take_len {l : List GPhrase} (h : ∀ x ∈ l, x.2.1.length ≤ 3) (i : Nat) : (flatS (l.take i)).length ≤ 3 * l.length := by
  have := flat_len (l := l.take i) fun x hx => h x (List.mem_of_mem_take hx)
  rw [List.length_take] at this
  omega

theorem uses_val {b : GBook} (hb : Q.isBook b = true) : s_msUses b = some (usesOf (flatS b.1)) := by
  obtain ⟨h40, _, hx⟩ := book_sig hb
  have hlim : lim = 4294967296 := rfl
  unfold s_msUses
  rw [show (decide (0 ≤ 60) && decide (60 ≤ 60) && decide (60 ≤ lim)) = true by rw [hlim]; decide]
  simp only [cond_true]
  refine bind_eq (one_loop' (n := b.1.length) (fun i st => st = (usesOf (flatS (b.1.take i)), (i : Int))) ?_ (fun i st hi hst => ?_) (fun st hst => ?_)) rfl
  · exact rfl
  · subst hst
    have ex : b.1[i]? = some b.1[i] := by simp [hi]
    have hxi := hx _ (List.getElem_mem hi)
    have hfl := flat_take_len (fun x h => (hx x h).1) (l := b.1) i
    have ht := flat_snoc hi
    generalize b.1[i] = x at ex hxi ht
    refine ⟨_, ?_, rfl⟩
    simp only [dec_t (show (i : Int) < (b.1.length : Int) by omega), cond_true, idx_get, ex, Option.bind_some]
    refine bind_eq (one_loop' (n := x.2.1.length) (y := usesOf (flatS (b.1.take (i + 1)))) (fun j st => st = (usesOf (flatS (b.1.take i) ++ x.2.1.take j), (j : Int))) ?_ (fun j st hj hst => ?_) (fun st hst => ?_)) ?_
    · rw [List.take_zero, List.append_nil]; rfl
    · subst hst
      have en : x.2.1[j]? = some x.2.1[j] := by simp [hj]
      have hn := hxi.2 _ (List.getElem_mem hj)
      have htk : x.2.1.take (j + 1) = x.2.1.take j ++ [x.2.1[j]] := List.take_succ_eq_append_getElem hj
      generalize x.2.1[j] = n at en hn htk
      have hll := usesOf_len (flatS (b.1.take i) ++ x.2.1.take j)
      have hc : (flatS (b.1.take i) ++ x.2.1.take j).count n ≤ 1000 := by
        have := List.count_le_length (l := flatS (b.1.take i) ++ x.2.1.take j) (a := n)
        rw [List.length_append, List.length_take] at this
        omega
      have hget := usesOf_get (flatS (b.1.take i) ++ x.2.1.take j) (i := (n - 1).toNat) (by omega)
      rw [show (((n - 1).toNat : Nat) : Int) + 1 = n by omega] at hget
      refine ⟨_, ?_, rfl⟩
      have g1 : (decide ((0 : Int) ≤ n - 1) && decide (n - 1 < ((usesOf (flatS (b.1.take i) ++ x.2.1.take j)).length : Int))) = true := by rw [hll]; simp; omega
      simp only [dec_t (show (j : Int) < (x.2.1.length : Int) by omega), cond_true, idx_get, en, Option.bind_some, w64_of (x := n - 1) (by omega) (by omega), g1, hget]
      rw [w64_of (x := (((flatS (b.1.take i) ++ x.2.1.take j).count n : Nat) : Int) + 1) (by omega) (by omega), usesOf_snoc _ hn, w64_of (x := (j : Int) + 1) (by omega) (by omega), htk, List.append_assoc]
      rfl
    · subst hst
      simp only [dec_f (Int.lt_irrefl (x.2.1.length : Int)), cond_false, List.take_length, ht]
    · rw [w64_of (x := (i : Int) + 1) (by omega) (by omega)]
      rfl
  · subst hst
    simp only [dec_f (Int.lt_irrefl (b.1.length : Int)), cond_false, List.take_length]

theorem uses_both {b : GBook} (h : Fine b) : ∃ u, s_SignalUses b = some (u, Q.isBook b) ∧ i_SignalUses b = some (u, Q.isBook b) ∧ u.length ≤ 60 ∧ (Q.isBook b = true → u = usesOf (flatS b.1)) := by
  unfold s_SignalUses i_SignalUses
  have e : i_signalUses b = s_msUses b := rfl
  simp only [Q.s_good h, Q.i_good h, Option.bind_some, e]
  cases hb : Q.isBook b with
  | false => exact ⟨[], rfl, rfl, by simp, (fun h => by cases h)⟩
  | true =>
    rw [uses_val hb]
    exact ⟨_, rfl, rfl, by rw [usesOf_len]; omega, fun _ => rfl⟩

theorem unused_both {b : GBook} (h : Fine b) : ∃ l, s_UnusedSignals b = some (l, Q.isBook b) ∧ i_UnusedSignals b = some (l, Q.isBook b) ∧ l.length ≤ 60 ∧ (Q.isBook b = true → ∀ i : Nat, i < 60 → ((i : Int) + 1 ∈ l ↔ (usesOf (flatS b.1))[i]? = some 0)) := by
  unfold s_UnusedSignals i_UnusedSignals
  have e : i_signalUses b = s_msUses b := rfl
  simp only [Q.s_good h, Q.i_good h, Option.bind_some, e]
  cases hb : Q.isBook b with
  | false => exact ⟨[], rfl, rfl, by simp, (fun h => by cases h)⟩
  | true =>
    rw [uses_val hb]
    have hl := usesOf_len (flatS b.1)
    generalize usesOf (flatS b.1) = U at hl
    obtain ⟨y, h1, h2, h3⟩ := one_loop (n := U.length) (f := (fun (st4 : (List Int) × (List Int) × Int) => (
        bif (decide (st4.2.2 < (U.length : Int))) then
          bif decide (0 ≤ st4.2.2) && decide (st4.2.2 < (st4.2.1.length : Int)) then
            (st4.2.1[(Int.toNat st4.2.2)]?).bind fun e5 =>
            bif (decide (e5 = 0)) then
              bif decide (List.length st4.1 + List.length [(w64 (st4.2.2 + 1))] ≤ lim) then
                some (.inl ((st4.1 ++ [(w64 (st4.2.2 + 1))]), st4.2.1, (w64 (st4.2.2 + 1))))
              else
                none
            else
              some (.inl (st4.1, st4.2.1, (w64 (st4.2.2 + 1))))
          else
            none
        else
          some (.inr st4.1) : Option (((List Int) × (List Int) × Int) ⊕ ((List Int))))))
      (fun i st => st.2 = (U, (i : Int)) ∧ st.1.length ≤ i ∧ ∀ k : Nat, ((k : Int) + 1 ∈ st.1 ↔ k < i ∧ U[k]? = some 0)) (fun l => l.length ≤ 60 ∧ ∀ i : Nat, i < 60 → ((i : Int) + 1 ∈ l ↔ U[i]? = some 0))
      (fun i st hi hst => by
        obtain ⟨l, st⟩ := st
        obtain ⟨g1, g2, g3⟩ := hst
        simp only at g1 g2 g3
        subst g1
        left
        have eu : U[i]? = some U[i] := by simp [hi]
        have hlim : lim = 4294967296 := rfl
        simp only [dec_t (show (i : Int) < (U.length : Int) by omega), cond_true, dec_t (show (0 : Int) ≤ (i : Int) by omega), Bool.and_self, Int.toNat_natCast, eu, Option.bind_some, w64_of (x := (i : Int) + 1) (by omega) (by omega)]
        by_cases h0 : U[i] = 0
        · rw [dec_t h0, dec_t (show List.length l + List.length [(i : Int) + 1] ≤ lim by simp; omega)]
          refine ⟨_, rfl, rfl, by simp; omega, fun k => ?_⟩
          simp only [List.mem_append, g3, List.mem_singleton]
          constructor
          · rintro (⟨a1, a2⟩ | a)
            · exact ⟨by omega, a2⟩
            · have : k = i := by omega
              subst this
              exact ⟨by omega, by rw [eu, h0]⟩
          · rintro ⟨a1, a2⟩
            by_cases ek : k = i
            · right; omega
            · left; exact ⟨by omega, a2⟩
        · rw [dec_f h0]
          refine ⟨_, rfl, rfl, by simp; omega, fun k => ?_⟩
          simp only [g3]
          constructor
          · rintro ⟨a1, a2⟩; exact ⟨by omega, a2⟩
          · rintro ⟨a1, a2⟩
            refine ⟨?_, a2⟩
            by_cases ek : k = i
            · subst ek; rw [eu] at a2; exact absurd (Option.some.inj a2) h0
            · omega)
      (fun st hst => by
        obtain ⟨l, st⟩ := st
        obtain ⟨g1, g2, g3⟩ := hst
        simp only at g1 g2 g3
        subst g1
        exact ⟨l, by simp only [dec_f (Int.lt_irrefl (U.length : Int)), cond_false], by omega, fun i hi => by rw [g3]; exact ⟨fun h => h.2, fun h => ⟨by omega, h⟩⟩⟩) U.length 0 ([], U, 0) (by omega) ⟨rfl, by simp, fun k => by simp⟩
    simp only [Bool.not_true, cond_false, Option.bind_some]
    rw [h1]
    exact ⟨y, rfl, rfl, h2, fun _ => h3⟩

def gcdF : Int × Int → Option ((Int × Int) ⊕ Int) := fun st3 =>
  bif (decide (0 < st3.2)) then
    bif (!decide (st3.2 = 0)) then
      some (.inl (st3.2, (Int.tmod st3.1 st3.2)))
    else
      none
  else
    some (.inr st3.1)
theorem gcd_some : ∀ (n : Nat) (x y : Int), 0 ≤ x → 0 ≤ y → y ≤ n → 0 < x + y → ∃ g, loopE gcdF (x, y) = some g ∧ 0 < g ∧ g ∣ x ∧ g ∣ y
  | 0, x, y, hx, hy, hn, hp => by
    have : y = 0 := by omega
    subst this
    exact ⟨x, loopE_done rfl, by omega, Int.dvd_refl _, Int.dvd_zero _⟩
  | n + 1, x, y, hx, hy, hn, hp => by
    by_cases h : 0 < y
    · have hm := Int.emod_nonneg x (show y ≠ 0 by omega)
      have hlt := Int.emod_lt_of_pos x h
      obtain ⟨g, hg, h1, h2, h3⟩ := gcd_some n y (x % y) hy hm (by omega) (by omega)
      refine ⟨g, ?_, h1, ?_, h2⟩
      · rw [← hg]
        refine loopE_step ?_
        unfold gcdF
        simp only [decide_eq_true h, cond_true]
        rw [show decide (y = 0) = false from decide_eq_false (by omega), Int.tmod_eq_emod_of_nonneg hx]
        rfl
      · have e : x = x % y + y * (x / y) := by rw [Int.emod_def]; omega
        rw [e]
        exact Int.dvd_add h3 (Int.dvd_mul_of_dvd_left h2)
    · have : y = 0 := by omega
      subst this
      exact ⟨x, loopE_done rfl, by omega, Int.dvd_refl _, Int.dvd_zero _⟩

theorem mean_both {b : GBook} (h : Fine b) : ∃ p q, s_MeanSignals b = some (p, q, Q.isBook b) ∧ i_MeanSignals b = some (p, q, Q.isBook b) ∧ (Q.isBook b = true → p * (b.1.length : Int) = ((flatS b.1).length : Int) * q ∧ 1 ≤ q) := by
  unfold s_MeanSignals i_MeanSignals
  simp only [Q.s_good h, Q.i_good h, Option.bind_some]
  cases hb : Q.isBook b with
  | false => exact ⟨0, 0, rfl, rfl, (fun h => by cases h)⟩
  | true =>
    obtain ⟨h40, h1, hx⟩ := book_sig hb
    have hsum : loopE (fun (st3 : Int × Int) => (
        bif (decide (st3.2 < (b.1.length : Int))) then
          (idx b.1 st3.2).bind fun e4 =>
          some (.inl ((w64 (st3.1 + (e4.2.1.length : Int))), (w64 (st3.2 + 1))))
        else
          some (.inr st3.1) : Option ((Int × Int) ⊕ (Int)))) (0, 0) = some ((flatS b.1).length : Int) := by
      refine one_loop' (n := b.1.length) (fun i st => st = (((flatS (b.1.take i)).length : Int), (i : Int))) rfl (fun i st hi hst => ?_) (fun st hst => ?_)
      · subst hst
        have ex : b.1[i]? = some b.1[i] := by simp [hi]
        have hxi := hx _ (List.getElem_mem hi)
        have hfl := flat_take_len (fun x h => (hx x h).1) (l := b.1) i
        refine ⟨_, ?_, rfl⟩
        simp only [dec_t (show (i : Int) < (b.1.length : Int) by omega), cond_true, idx_get, ex, Option.bind_some, flat_snoc hi, List.length_append]
        rw [w64_of (by omega) (by omega), w64_of (by omega) (by omega)]
        rfl
      · subst hst
        simp only [dec_f (Int.lt_irrefl (b.1.length : Int)), cond_false, List.take_length]
    have hfl := flat_len fun x h => (hx x h).1
    obtain ⟨g, hg, hg0, ⟨a, ha⟩, ⟨c, hc⟩⟩ := gcd_some b.1.length ((flatS b.1).length : Int) (b.1.length : Int) (by omega) (by omega) (by omega) (by omega)
    have habs : s_l1Abs ((flatS b.1).length : Int) = some ((flatS b.1).length : Int) := by
      unfold s_l1Abs s_l1Most
      rw [w64_of (by omega) (by omega)]
      by_cases h0 : 0 - ((flatS b.1).length : Int) < ((flatS b.1).length : Int)
      · rw [decide_eq_true h0]; rfl
      · rw [decide_eq_false h0]
        show some (0 - ((flatS b.1).length : Int)) = some ((flatS b.1).length : Int)
        rw [show 0 - ((flatS b.1).length : Int) = ((flatS b.1).length : Int) by omega]
    have hgz : decide (g = 0) = false := decide_eq_false (by omega)
    have t1 : Int.tdiv ((flatS b.1).length : Int) g = a := by rw [ha]; exact Int.mul_tdiv_cancel_left a (by omega)
    have t2 : Int.tdiv (b.1.length : Int) g = c := by rw [hc]; exact Int.mul_tdiv_cancel_left c (by omega)
    have hc1 : 1 ≤ c := by
      by_cases hle : c ≤ 0
      · have := Int.mul_le_mul_of_nonneg_left hle (show 0 ≤ g by omega)
        omega
      · omega
    have ha0 : 0 ≤ a := by
      by_cases hle : a ≤ -1
      · have := Int.mul_le_mul_of_nonneg_left hle (show 0 ≤ g by omega)
        omega
      · omega
    have hale : a ≤ ((flatS b.1).length : Int) := by
      rw [ha]
      have := Int.mul_le_mul_of_nonneg_right (show 1 ≤ g by omega) ha0
      omega
    have hcle : c ≤ (b.1.length : Int) := by
      rw [hc]
      have := Int.mul_le_mul_of_nonneg_right (show 1 ≤ g by omega) (show 0 ≤ c by omega)
      omega
    refine ⟨a, c, ?_, ?_, fun _ => ⟨?_, hc1⟩⟩
    · simp only [Bool.not_true, cond_false]
      rw [hsum]
      simp only [Option.bind_some]
      unfold s_siPart
      rw [habs]
      simp only [Option.bind_some]
      show (((loopE gcdF (((flatS b.1).length : Int), (b.1.length : Int))).bind _).bind _) = _
      rw [hg]
      simp only [Option.bind_some, hgz, Bool.not_false, cond_true, t1, t2]
      rw [w64_of (by omega) (by omega), w64_of (by omega) (by omega)]
    · simp only [Bool.not_true, cond_false]
      rw [hsum]
      simp only [Option.bind_some]
      unfold i_gcdOf
      show (((loopE gcdF (((flatS b.1).length : Int), (b.1.length : Int))).bind _).bind _) = _
      rw [hg]
      simp only [Option.bind_some, hgz, Bool.not_false, cond_true, t1, t2]
      rw [w64_of (by omega) (by omega), w64_of (by omega) (by omega)]
    · have e : a * (g * c) = g * a * c := by rw [← Int.mul_assoc, Int.mul_comm a g]
      calc a * (b.1.length : Int) = a * (g * c) := by rw [← hc]
        _ = g * a * c := e
        _ = ((flatS b.1).length : Int) * c := by rw [← ha]

/-- costs -/
theorem cost_loop {b : GBook} (hb : Q.isBook b = true) {w : List Int} (hw : w.length = b.1.length) (hr : ∀ x ∈ w, 0 ≤ x ∧ x ≤ 10000) : loopE (fun (st5 : Int × Int) => (
        bif (decide (st5.2 < (b.1.length : Int))) then
          (idx b.1 st5.2).bind fun e6 =>
          (idx w st5.2).bind fun e7 =>
          some (.inl ((w64 (st5.1 + (w64 (e7 * (e6.2.1.length : Int))))), (w64 (st5.2 + 1))))
        else
          some (.inr st5.1) : Option ((Int × Int) ⊕ (Int)))) (0, 0) = some (costOf b.1 w) := by
  obtain ⟨h40, h1, hx⟩ := book_sig hb
  have hterm : ∀ i, i < b.1.length → 0 ≤ wOf w (i : Int) * ((sigAt b.1 (i : Int)).length : Int) ∧ wOf w (i : Int) * ((sigAt b.1 (i : Int)).length : Int) ≤ 30000 := fun i hi => by
    have ex : b.1[i]? = some b.1[i] := by simp [hi]
    have ew : w[i]? = some (w[i]'(by omega)) := by simp [show i < w.length by omega]
    have r1 := hr _ (List.getElem_mem (show i < w.length by omega))
    have r2 := (hx _ (List.getElem_mem hi)).1
    unfold wOf sigAt
    rw [idx_get, idx_get, ex, ew]
    simp only
    generalize (w[i]'(by omega)) = y at r1
    have p1 := Int.mul_nonneg r1.1 (show (0 : Int) ≤ (b.1[i].2.1.length : Int) by omega)
    have p2 := Int.mul_le_mul (show y ≤ 10000 by omega) (show (b.1[i].2.1.length : Int) ≤ 3 by omega) (by omega) (by omega)
    omega
  have hsum : ∀ i, i ≤ b.1.length → 0 ≤ isum ((ids i).map fun x => wOf w x * ((sigAt b.1 x).length : Int)) ∧ isum ((ids i).map fun x => wOf w x * ((sigAt b.1 x).length : Int)) ≤ 30000 * (i : Int) := fun i hi => by
    have := isum_bound (K := 30000) (by omega) ((ids i).map fun x => wOf w x * ((sigAt b.1 x).length : Int)) fun z hz => by
      obtain ⟨x, h1, rfl⟩ := List.mem_map.1 hz
      obtain ⟨k, rfl⟩ : ∃ k : Nat, x = (k : Int) := ⟨x.toNat, by have := ids_mem.1 h1; omega⟩
      exact hterm k (by have := ids_mem.1 h1; omega)
    rw [List.length_map, ids_len] at this
    exact this
  refine one_loop' (n := b.1.length) (fun i st => st = (isum ((ids i).map fun x => wOf w x * ((sigAt b.1 x).length : Int)), (i : Int))) rfl (fun i st hi hst => ?_) (fun st hst => ?_)
  · subst hst
    have ex : b.1[i]? = some b.1[i] := by simp [hi]
    have ew : w[i]? = some (w[i]'(by omega)) := by simp [show i < w.length by omega]
    have ht := hterm i hi
    have hs := hsum i (by omega)
    have e1 : wOf w (i : Int) = w[i]'(by omega) := by unfold wOf; rw [idx_get, ew]
    have e2 : sigAt b.1 (i : Int) = b.1[i].2.1 := by unfold sigAt; rw [idx_get, ex]
    have e3 : isum ((ids (i + 1)).map fun x => wOf w x * ((sigAt b.1 x).length : Int)) = isum ((ids i).map fun x => wOf w x * ((sigAt b.1 x).length : Int)) + wOf w (i : Int) * ((sigAt b.1 (i : Int)).length : Int) := by
      rw [ids_succ, List.map_append, isum_append]
      simp [isum]
    refine ⟨_, ?_, rfl⟩
    rw [e3]
    rw [e1, e2] at ht ⊢
    simp only [dec_t (show (i : Int) < (b.1.length : Int) by omega), cond_true, idx_get, ex, ew, Option.bind_some]
    rw [w64_of (x := w[i]'(by omega) * (b.1[i].2.1.length : Int)) (by omega) (by omega), w64_of (by omega) (by omega), w64_of (by omega) (by omega)]
    rfl
  · subst hst
    simp only [dec_f (Int.lt_irrefl (b.1.length : Int)), cond_false]
    rfl
theorem cost_both {b : GBook} (h : Fine b) {w : List Int} (hw : w.length ≤ maxLen) : ∃ c, s_BookCost b w = some (c, asked b w) ∧ i_BookCost b w = some (c, asked b w) ∧ (asked b w = true → c = costOf b.1 w) := by
  unfold s_BookCost i_BookCost
  rw [asked_s h hw, Q.i_good h, weights_i hw]
  simp only [Option.bind_some]
  cases ha : asked b w with
  | false =>
    refine ⟨0, rfl, ?_, (fun h => by cases h)⟩
    unfold asked at ha
    cases hk : Q.isBook b with
    | false => rfl
    | true =>
      rw [hk, Bool.true_and] at ha
      simp only [Bool.not_true, cond_false, ha]
      rfl
  | true =>
    have ha' := ha
    unfold asked at ha'
    simp only [Bool.and_eq_true, decide_eq_true_eq, List.all_eq_true, inB] at ha'
    obtain ⟨k1, k2, k3⟩ := ha'
    have hc := cost_loop k1 k2 k3
    have hall : (decide (w.length = b.1.length) && w.all fun x => Q.inB x 0 10000) = true := by
      unfold asked at ha
      rw [k1, Bool.true_and] at ha
      exact ha
    rw [k1, hall]
    simp only [Bool.not_true, cond_false, cond_true, Option.bind_some]
    rw [hc]
    exact ⟨_, rfl, rfl, fun _ => rfl⟩

/-! the law's own functions -/

theorem qInts_self {l : List Int} (h : l.length ≤ maxLen) : l_qInts l l = some true := by
  unfold l_qInts
  rw [dec_t rfl]
  simp only [Bool.not_true, cond_false]
  rw [all_loop_at (n := l.length) (fun _ => true) false ?_ ?_]
  · rw [show ((List.range l.length).all fun _ => true) = true by simp]
    rfl
  · intro i hi
    have e1 : l[i]? = some l[i] := by simp [hi]
    simp only [idx_get, e1, Option.bind_some, Q.at_lt hi, Q.up h hi, decide_true]
    rfl
  · simp
theorem qBook_self {b : GBook} (h : Fine b) : l_qBook b b = some true := by
  unfold l_qBook
  rw [dec_t rfl]
  simp only [Bool.not_true, cond_false]
  rw [all_loop_at (n := b.1.length) (fun _ => true) false ?_ ?_]
  · rw [show ((List.range b.1.length).all fun _ => true) = true by simp]
    rfl
  · intro i hi
    have e1 : b.1[i]? = some b.1[i] := by simp [hi]
    simp only [idx_get, e1, Option.bind_some, Q.at_lt hi, Q.up h.len hi, decide_true, qInts_self (h.sig _ (List.getElem_mem hi))]
    rfl
  · simp
theorem qHas_val {l : List Int} (h : l.length ≤ maxLen) (n : Int) : l_qHas l n = some (decide (n ∈ l)) := by
  unfold l_qHas
  rw [all_loop (l := l) (fun x => !decide (x = n)) true ?_ ?_]
  · by_cases hm : n ∈ l
    · rw [show (l.all fun x => !decide (x = n)) = false by
        rw [Bool.eq_false_iff]
        intro hall
        have := List.all_eq_true.1 hall n hm
        simp at this, dec_t hm]
      rfl
    · rw [show (l.all fun x => !decide (x = n)) = true by
        rw [List.all_eq_true]
        intro x hx
        simp
        exact fun e => hm (e ▸ hx), dec_f hm]
      rfl
  · intro i x hx hi
    simp only [idx_get, hx, Option.bind_some, Q.at_lt hi, Q.up h hi, cond_true]
    cases decide (x = n) <;> rfl
  · simp
theorem qSum_val {l : List Int} (h : l.length ≤ 60) (hr : ∀ x ∈ l, 0 ≤ x ∧ x ≤ 1000) : l_qSum l = some (isum l) := by
  unfold l_qSum
  refine bind_eq (one_loop' (n := l.length) (fun i st => st = (isum (l.take i), (i : Int))) rfl (fun i st hi hst => ?_) (fun st hst => ?_)) rfl
  · subst hst
    have ex : l[i]? = some l[i] := by simp [hi]
    have hb := isum_bound (K := 1000) (by omega) (l.take i) fun x hx => hr x (List.mem_of_mem_take hx)
    have hb2 := hr _ (List.getElem_mem hi)
    rw [List.length_take] at hb
    refine ⟨_, ?_, rfl⟩
    simp only [dec_t (show (i : Int) < (l.length : Int) by omega), cond_true, idx_get, ex, Option.bind_some]
    rw [List.take_succ_eq_append_getElem hi, isum_append, w64_of (by omega) (by omega), w64_of (by omega) (by omega)]
    simp [isum]
  · subst hst
    simp only [dec_f (Int.lt_irrefl (l.length : Int)), cond_false, List.take_length]
end Go.Proofs.Ytlhplhjibadplaa.Sh

/-!
  FnBookUses.
-/
namespace Go.Proofs.Ytlhplhjibadplaa.Sh
open Go Go.Ab D
open Q (Fine inB)
set_option maxRecDepth 100000

theorem dr_weights {c : Gl1Cur} (hc : Ok c) (hb : c.2.1 + 1000 ≤ 2305843009213693952) {b : GBook} (hB : AnyOk b) : Dr (s_l1Cur_weightsFor c b) c 410 (fun w => w.length ≤ 100) := by
  unfold s_l1Cur_weightsFor
  have hlen := hB.len
  have hlim : lim = 4294967296 := rfl
  obtain ⟨y, h1, d, w, g1, e, hw⟩ := one_loop (n := b.1.length) (f := (fun (st2 : (List Int) × Int × Int × (List Int) × Int) => (
      bif (decide (st2.2.2.2.2 < (b.1.length : Int))) then
        (s_l1Cur_pick (st2.1, st2.2.1, st2.2.2.1, ()) 900).bind fun r3 =>
        (s_l1Cur_among r3.1 [0, 1, 1, 5, 10, 10000, r3.2]).bind fun r4 =>
        bif decide (List.length st2.2.2.2.1 + List.length [r4.2] ≤ lim) then
          some (.inl (r4.1.1, r4.1.2.1, r4.1.2.2.1, (st2.2.2.2.1 ++ [r4.2]), (w64 (st2.2.2.2.2 + 1))))
        else
          none
      else
        some (.inr (st2.1, st2.2.1, st2.2.2.1, st2.2.2.2.1)) : Option (((List Int) × Int × Int × (List Int) × Int) ⊕ (((List Int) × Int × Int × (List Int)))))))
    (fun i st => ∃ d w, On c (4 * i) d ∧ st = (d.1, d.2.1, d.2.2.1, w, (i : Int)) ∧ w.length = i) (fun y => ∃ d w, On c 400 d ∧ y = (d.1, d.2.1, d.2.2.1, w) ∧ w.length ≤ 100)
    (fun i st hi ⟨d, w, g, e, hw⟩ => by
      subst e
      left
      have od := g.ok hc (by omega)
      have ad := g.at_
      obtain ⟨d2, v, e2, g2, _⟩ := dr_pick (c := d) (n := 900) od (by omega) (by omega)
      have od2 := (g.trans g2).ok hc (by omega)
      have ad2 := (g.trans g2).at_
      obtain ⟨d3, z, e3, g3, _⟩ := dr_among (c := d2) (l := [0, 1, 1, 5, 10, 10000, v]) od2 (by omega) (by simp)
      have e2' : s_l1Cur_pick (d.1, d.2.1, d.2.2.1, ()) 900 = some (d2, v) := e2
      simp only [dec_t (show (i : Int) < (b.1.length : Int) by omega), cond_true, e2', e3, Option.bind_some]
      rw [dec_t (show List.length w + List.length [z] ≤ lim by simp; omega), w64_of (by omega) (by omega)]
      exact ⟨_, rfl, d3, w ++ [z], ((g.trans g2).trans g3).mono (by omega), rfl, by simp [hw]⟩)
    (fun st ⟨d, w, g, e, hw⟩ => by
      subst e
      exact ⟨_, by simp only [dec_f (Int.lt_irrefl (b.1.length : Int)), cond_false], d, w, g.mono (by omega), rfl, by omega⟩) b.1.length 0 (c.1, c.2.1, c.2.2.1, [], 0) (by omega) ⟨c, [], On.refl c, rfl, rfl⟩
  rw [h1]
  subst e
  simp only [Option.bind_some]
  have od := g1.ok hc (by omega)
  have ad := g1.at_
  by_cases h0 : 0 < (w.length : Int)
  · rw [dec_t h0]
    obtain ⟨d2, v, e2, g2, _⟩ := dr_pick (c := d) (n := 24) od (by omega) (by omega)
    have od2 := (g1.trans g2).ok hc (by omega)
    have ad2 := (g1.trans g2).at_
    have e2' : s_l1Cur_pick (d.1, d.2.1, d.2.2.1, ()) 24 = some (d2, v) := e2
    simp only [cond_true, e2', Option.bind_some]
    by_cases hv0 : v = 0
    · rw [dec_t hv0]
      obtain ⟨d3, z, e3, g3, _⟩ := dr_among (c := d2) (l := [(-1), 10001]) od2 (by omega) (by simp)
      simp only [cond_true, e3, Option.bind_some, decide_true, Bool.true_and]
      exact ⟨d3, _, rfl, ((g1.trans g2).trans g3).mono (by omega), by simp; omega⟩
    · rw [dec_f hv0]
      by_cases hv1 : v = 1
      · rw [dec_t hv1]
        have hs : sub w 1 (w.length : Int) = some (w.drop 1) := by
          unfold sub
          rw [if_pos ⟨by omega, by omega, by omega⟩]
          simp
        simp only [cond_true, cond_false, hs, Option.bind_some]
        exact ⟨d2, _, rfl, (g1.trans g2).mono (by omega), by simp; omega⟩
      · rw [dec_f hv1]
        exact ⟨d2, _, rfl, (g1.trans g2).mono (by omega), hw⟩
  · rw [dec_f h0]
    exact ⟨d, _, rfl, g1.mono (by omega), hw⟩

theorem draw_uses {code : List Int} (h : ∀ b ∈ code, 0 ≤ b ∧ b ≤ 255) (hl : code.length ≤ 9223372036854775807) : ∃ b, s_DrawSignalUses code = some b ∧ AnyOk b := by
  unfold s_DrawSignalUses s_DrawIsBook
  have z : (((code, 0, 0, ()) : Gl1Cur)).2.1 = 0 := rfl
  obtain ⟨d, b, e1, g1, hb⟩ := dr_anyBook (go0 h hl) (by rw [z]; omega)
  exact ⟨b, by rw [e1]; rfl, hb⟩
theorem draw_deal {code : List Int} (h : ∀ b ∈ code, 0 ≤ b ∧ b ≤ 255) (hl : code.length ≤ 9223372036854775807) : ∃ b w, s_DrawDealAnew code = some (b, w) ∧ AnyOk b ∧ w.length ≤ 100 := by
  unfold s_DrawDealAnew s_DrawBookCost
  have z : (((code, 0, 0, ()) : Gl1Cur)).2.1 = 0 := rfl
  obtain ⟨d, b, e1, g1, hb⟩ := dr_anyBook (go0 h hl) (by rw [z]; omega)
  have o1 := g1.ok (go0 h hl) (by rw [z]; omega)
  have b1 := g1.at_
  rw [z] at b1
  obtain ⟨d2, w, e2, _, hw⟩ := dr_weights o1 (by omega) hb
  exact ⟨b, w, by rw [e1]; simp only [Option.bind_some, e2], hb, hw⟩

/-- books dealt anew -/
theorem deal_law {x : GBook} (hx : Fine x) {w : List Int} (hw : w.length ≤ 100) : ∃ g, s_DealAnew x w = some (g, asked x w) ∧ i_DealAnew x w = some (g, asked x w) ∧ Fine g ∧ (asked x w = true → costOf g.1 w ≤ costOf x.1 w ∧ asked g w = true ∧ Q.isBook g = true ∧ Q.isBook x = true ∧ usesOf (flatS g.1) = usesOf (flatS x.1) ∧ g.1.map (fun y => y.1) = x.1.map (fun y => y.1)) := by
  rcases deal_same hx (w := w) (by omega) with ⟨ha, e1, e2⟩ | ⟨ha, o, cm, p1, q1, p2, q2, e1, e2⟩
  · exact ⟨_, by rw [ha]; exact e1, by rw [ha]; exact e2, ⟨by simp, (fun x hx => by cases hx), fun x hx => by cases hx⟩, fun h => by rw [ha] at h; cases h⟩
  · have ha' := ha
    unfold asked at ha'
    simp only [Bool.and_eq_true] at ha'
    obtain ⟨k1, k2⟩ := ha'
    have hl := dealt_len x o cm x.1 0
    obtain ⟨_, f2, f3⟩ := dealt_facts p1 p2
    have hsg := dealt_sig (b := x) (o := o) (N := maxLen) hx.sig cm x.1 0 hx.sig
    have hbk := dealt_book k1 p1 p2
    have hu : usesOf (flatS (dealt x o cm x.1 0)) = usesOf (flatS x.1) := by
      have hp : (flatS (dealt x o cm x.1 0)).Perm (flatS x.1) := f2.flatten
      generalize flatS (dealt x o cm x.1 0) = a at hp
      exact usesOf_perm hp
    refine ⟨(dealt x o cm x.1 0, ()), by rw [ha]; exact e1, by rw [ha]; exact e2, ⟨by rw [hl]; exact hx.len, fun y hy => dealt_txt (b := x) (o := o) cm x.1 0 hx.text y hy, hsg⟩, fun _ => ⟨cost_le p1 q1 p2 q2, ?_, hbk, k1, hu, f3⟩⟩
    unfold asked
    rw [hbk, hl, Bool.true_and, Bool.and_eq_true]
    exact k2

/-- FnBookUses -/
theorem plain_BookUses (code more : List Int) (hc : ∀ b ∈ code, 0 ≤ b ∧ b ≤ 255) (hm : ∀ b ∈ more, 0 ≤ b ∧ b ≤ 255) (hlc : code.length ≤ maxLen) (hlm : more.length ≤ maxLen) : l_FnBookUses code more = some true := by
  unfold l_FnBookUses
  unfold maxLen at hlc hlm
  by_cases hbig : 1048576 < w64 ((code.length : Int) + (more.length : Int))
  · rw [dec_t hbig]; rfl
  rw [dec_f hbig]
  obtain ⟨b, e1, hb⟩ := draw_uses hc (by omega)
  obtain ⟨x, w, e2, hx, hw⟩ := draw_deal hm (by omega)
  have hb2 : ((b.1, ()) : GBook) = b := rfl
  obtain ⟨u, U1, U2, U3, U4⟩ := uses_both hb.fine
  obtain ⟨p, q, M1, M2, M3⟩ := mean_both hb.fine
  obtain ⟨n, N1, N2, N3, N4⟩ := unused_both hb.fine
  have hwm : w.length ≤ maxLen := by unfold maxLen; omega
  obtain ⟨c, C1, C2, C3⟩ := cost_both hx.fine hwm
  obtain ⟨g, D1, D2, D3, D4⟩ := deal_law hx.fine hw
  have I1 := qInts_self (l := u) (by unfold maxLen; omega)
  have I2 := qInts_self (l := n) (by unfold maxLen; omega)
  have I3 := qBook_self D3
  simp only [cond_false, e1, hb2, U1, U2, M1, M2, N1, N2, e2, C1, C2, D1, D2, Option.bind_some, I1, I2, I3, bne_self_eq_false, decide_true, Bool.not_true]
  refine bind_eq (x := .inl (b.1, u, n)) ?_ ?_
  · cases ha : asked x w with
    | false => rfl
    | true =>
      obtain ⟨f1, f2, f3, f4, f5, f6⟩ := D4 ha
      obtain ⟨c2, A1, A2, A3⟩ := cost_both D3 hwm
      obtain ⟨v1, V1, V2, V3, V4⟩ := uses_both D3
      obtain ⟨v2, W1, W2, W3, W4⟩ := uses_both hx.fine
      have hv : v1 = v2 := by rw [V4 f3, W4 f4, f5]
      subst hv
      have I4 := qInts_self (l := v1) (by unfold maxLen; omega)
      have hlt : ¬ c < c2 := by rw [A3 f2, C3 ha]; omega
      simp only [cond_true, A1, A2, V2, W1, W2, Option.bind_some, f2, f3, f4, Bool.not_true, cond_false, decide_true, dec_f hlt, I4, Q.i_good D3]
      have hl : g.1.length = x.1.length := by
        have := congrArg List.length f6
        simpa using this
      have hgl := D3.len
      unfold maxLen at hgl
      refine bind_eq (one_loop' (n := g.1.length) (y := (Sum.inl (b.1, u, n) : ((List GPhrase) × (List Int) × (List Int)) ⊕ Bool)) (fun i st => st = (b.1, u, n, x.1, g.1, (i : Int))) rfl (fun i st hi hst => ?_) (fun st hst => ?_)) rfl
      · subst hst
        have e3 : g.1[i]? = some g.1[i] := by simp [hi]
        have e4 : x.1[i]? = some (x.1[i]'(by omega)) := by simp [show i < x.1.length by omega]
        have e5 : g.1[i].1 = (x.1[i]'(by omega)).1 := by
          have h1 : (g.1.map fun y => y.1)[i]? = some g.1[i].1 := by rw [List.getElem?_map, e3]; rfl
          rw [f6, List.getElem?_map, e4] at h1
          exact (Option.some.inj h1).symm
        refine ⟨_, ?_, rfl⟩
        simp only [dec_t (show (i : Int) < (g.1.length : Int) by omega), cond_true, idx_get, e3, e4, Option.bind_some, dec_t e5, Bool.not_true, cond_false]
        rw [w64_of (by omega) (by omega)]
        rfl
      · subst hst
        simp only [dec_f (Int.lt_irrefl (g.1.length : Int)), cond_false]
  · cases hok : Q.isBook b with
    | false => rfl
    | true =>
      obtain ⟨h40, h1, hp⟩ := book_sig hok
      obtain ⟨m1, m2⟩ := M3 hok
      have hu := U4 hok
      have hfl := flat_len fun x h => (hp x h).1
      have hul : u.length = 60 := by rw [hu, usesOf_len]
      simp only [Bool.not_true, cond_false]
      refine bind_eq (one_loop' (n := b.1.length) (y := (b.1, u, n, ((flatS b.1).length : Int))) (fun i st => st = (b.1, u, n, ((flatS (b.1.take i)).length : Int), (i : Int))) rfl (fun i st hi hst => ?_) (fun st hst => ?_)) ?_
      · subst hst
        have ex : b.1[i]? = some b.1[i] := by simp [hi]
        have hxi := hp _ (List.getElem_mem hi)
        have hft := flat_take_len (fun x h => (hp x h).1) (l := b.1) i
        refine ⟨_, ?_, rfl⟩
        simp only [dec_t (show (i : Int) < (b.1.length : Int) by omega), cond_true, idx_get, ex, Option.bind_some, flat_snoc hi, List.length_append]
        rw [w64_of (by omega) (by omega), w64_of (by omega) (by omega)]
        rfl
      · subst hst
        simp only [dec_f (Int.lt_irrefl (b.1.length : Int)), cond_false, List.take_length]
      simp only
      refine bind_eq (one_loop' (n := u.length) (y := (Sum.inl (b.1, u) : ((List GPhrase) × (List Int)) ⊕ Bool)) (fun i st => st = (b.1, u, n, (i : Int))) rfl (fun i st hi hst => ?_) (fun st hst => ?_)) ?_
      · subst hst
        have eu : u[i]? = some u[i] := by simp [hi]
        have hn := N4 hok i (by omega)
        rw [← hu, eu] at hn
        refine ⟨_, ?_, rfl⟩
        have hq := qHas_val (l := n) (by unfold maxLen; omega) ((i : Int) + 1)
        have hd : decide ((i : Int) + 1 ∈ n) = decide (u[i] = 0) := by
          by_cases h0 : u[i] = 0
          · rw [dec_t h0, dec_t (hn.2 (by rw [h0]))]
          · rw [dec_f h0, dec_f fun h => h0 (Option.some.inj (hn.1 h))]
        simp only [dec_t (show (i : Int) < (u.length : Int) by omega), cond_true, dec_t (show (0 : Int) ≤ (i : Int) by omega), Bool.and_self, Int.toNat_natCast, eu, Option.bind_some, w64_of (x := (i : Int) + 1) (by omega) (by omega), hq, hd, bne_self_eq_false, cond_false]
        rfl
      · subst hst
        simp only [dec_f (Int.lt_irrefl (u.length : Int)), cond_false]
      have hs := qSum_val (l := u) (by omega) (fun y hy => by
        rw [hu] at hy
        obtain ⟨i, _, rfl⟩ := List.mem_map.1 hy
        have := List.count_le_length (l := flatS b.1) (a := (i : Int) + 1)
        omega)
      have hsum : isum u = ((flatS b.1).length : Int) := by
        rw [hu]
        refine usesOf_sum _ fun k hk => ?_
        obtain ⟨s, hs, hk2⟩ := List.mem_flatten.1 hk
        obtain ⟨y, hy, rfl⟩ := List.mem_map.1 hs
        exact (hp y hy).2 k hk2
      rw [hsum] at hs
      simp only [dec_t (show (u.length : Int) = 60 by omega), cond_true, hs, Option.bind_some, decide_true, m1, dec_t m2]
end Go.Proofs.Ytlhplhjibadplaa.Sh
