/-
  A book that is dealt anew, and the draws that FnBookContests wants.
-/
import Derived.Test.YtlhplhjibadplaaBDraw6
namespace Go.Proofs.Ytlhplhjibadplaa.Sh
open Go Go.Ab
set_option maxRecDepth 100000

theorem subI_drop {s : List Int} {i : Nat} (h : i ≤ s.length) : sub s (i : Int) (s.length : Int) = some (s.drop i) := by
  unfold sub
  rw [if_pos (by omega)]
  simp
theorem subI_take {s : List Int} {m : Nat} (h : m ≤ s.length) : sub s 0 (m : Int) = some (s.take m) := by
  unfold sub
  rw [if_pos (by omega)]
  simp
theorem own_some {l : List Int} (h : l.length ≤ 1000) : s_l1Own l = some l := by
  unfold s_l1Own
  rw [dec_t (by unfold lim; omega)]
  rfl
theorem limII {a b : List Int} (h : a.length ≤ 1000) (h2 : b.length ≤ 1000) : decide (List.length a + List.length b ≤ lim) = true := by unfold lim; exact decide_eq_true (by omega)

theorem order_val {w : List Int} (hw : w.length ≤ 500) : ∃ o, s_cmOrder w = some o ∧ o.length = w.length ∧ ∀ x ∈ o, 0 ≤ x ∧ x < (w.length : Int) := by
  unfold s_cmOrder
  obtain ⟨r, h1, h2, h3⟩ := meas_loop (f := (fun (st2 : (List Int) × Int) => (
      bif (decide (st2.2 < (w.length : Int))) then
        (idx w st2.2).bind fun e3 =>
        (loopE (fun (st5 : (List Int) × Int) => (
            (bif (decide (0 < st5.2)) then
                bif decide (0 ≤ (w64 (st5.2 - 1))) && decide ((w64 (st5.2 - 1)) < (st5.1.length : Int)) then
                  (st5.1[(Int.toNat (w64 (st5.2 - 1)))]?).bind fun e6 =>
                  (idx w e6).bind fun e7 =>
                  some (decide (e7 < e3))
                else
                  none
              else
                some false).bind fun c8 =>
            bif c8 then
              some (.inl (st5.1, (w64 (st5.2 - 1))))
            else
              some (.inr (st5.1, st5.2)) : Option (((List Int) × Int) ⊕ (((List Int) × Int))))) (st2.1, (st2.1.length : Int))).bind fun o9 =>
        (sub o9.1 0 o9.2).bind fun l10 =>
        (s_l1Own l10).bind fun r11 =>
        (sub o9.1 o9.2 (o9.1.length : Int)).bind fun l12 =>
        bif decide (List.length r11 + List.length [st2.2] ≤ lim) then
          bif decide (List.length (r11 ++ [st2.2]) + List.length l12 ≤ lim) then
            some (.inl (((r11 ++ [st2.2]) ++ l12), (w64 (st2.2 + 1))))
          else
            none
        else
          none
      else
        some (.inr st2.1) : Option (((List Int) × Int) ⊕ ((List Int))))))
    (fun k st => ∃ (i : Nat) (o : List Int), st = (o, (i : Int)) ∧ k + i = w.length ∧ o.length = i ∧ ∀ x ∈ o, 0 ≤ x ∧ x < (i : Int)) (fun o => o.length = w.length ∧ ∀ x ∈ o, 0 ≤ x ∧ x < (w.length : Int)) (fun k st ⟨i, o, e, hk, hl, ho⟩ => by
      subst e
      cases k with
      | zero =>
        left
        have : i = w.length := by omega
        subst this
        exact ⟨o, by simp only [dec_f (by omega : ¬ (w.length : Int) < (w.length : Int)), cond_false], hl, ho⟩
      | succ k =>
        right
        have hi : i < w.length := by omega
        have hx : w[i]? = some (w[i]'hi) := by simp [hi]
        simp only [dec_t (by omega : (i : Int) < (w.length : Int)), cond_true, idx_get, hx, Option.bind_some]
        obtain ⟨r, g1, j, g2, g3⟩ := meas_loop (f := (fun (st5 : (List Int) × Int) => (
            (bif (decide (0 < st5.2)) then
                bif decide (0 ≤ (w64 (st5.2 - 1))) && decide ((w64 (st5.2 - 1)) < (st5.1.length : Int)) then
                  (st5.1[(Int.toNat (w64 (st5.2 - 1)))]?).bind fun e6 =>
                  (idx w e6).bind fun e7 =>
                  some (decide (e7 < (w[i]'hi)))
                else
                  none
              else
                some false).bind fun c8 =>
            bif c8 then
              some (.inl (st5.1, (w64 (st5.2 - 1))))
            else
              some (.inr (st5.1, st5.2)) : Option (((List Int) × Int) ⊕ (((List Int) × Int))))))
          (fun k st => st = (o, (k : Int)) ∧ k ≤ o.length) (fun r => ∃ j : Nat, r = (o, (j : Int)) ∧ j ≤ o.length) (fun k st ⟨e, hk⟩ => by
            subst e
            cases k with
            | zero => left; exact ⟨(o, 0), rfl, 0, rfl, by omega⟩
            | succ k =>
              have hko : k < o.length := by omega
              have hy : o[k]? = some (o[k]'hko) := by simp [hko]
              have hr := ho _ (List.getElem_mem hko)
              obtain ⟨n, hn⟩ : ∃ n : Nat, (o[k]'hko) = (n : Int) := ⟨(o[k]'hko).toNat, by omega⟩
              have hnw : n < w.length := by omega
              have hz : w[n]? = some (w[n]'hnw) := by simp [hnw]
              have hw1 : w64 (((k + 1 : Nat) : Int) - 1) = (k : Int) := by rw [w64_of (by omega) (by omega)]; omega
              simp only [dec_t (by omega : (0 : Int) < ((k + 1 : Nat) : Int)), cond_true, hw1, dec_t (by omega : (0 : Int) ≤ (k : Int)), dec_t (by omega : (k : Int) < (o.length : Int)), Bool.and_self, Int.toNat_natCast, hy, hn, idx_get, hz, Option.bind_some]
              cases decide ((w[n]'hnw) < (w[i]'hi)) with
              | true => right; exact ⟨k, _, by omega, rfl, rfl, by omega⟩
              | false => left; exact ⟨_, rfl, k + 1, rfl, hk⟩) o.length _ ⟨rfl, Nat.le_refl _⟩
        subst g2
        refine ⟨k, ((o.take j ++ [(i : Int)]) ++ o.drop j, ((i + 1 : Nat) : Int)), by omega, ?_, i + 1, _, rfl, by omega, by simp; omega, fun x hx => ?_⟩
        · rw [g1]
          simp only [Option.bind_some, subI_take g3, own_some (l := o.take j) (by simp; omega), subI_drop g3]
          rw [limII (by simp; omega) (by simp), limII (by simp; omega) (by simp; omega), w64_of (by omega) (by omega)]
          rfl
        · rcases List.mem_append.1 hx with hx | hx
          · rcases List.mem_append.1 hx with hx | hx
            · have := ho x (List.mem_of_mem_take hx); omega
            · rw [List.mem_singleton.1 hx]; omega
          · have := ho x (List.mem_of_mem_drop hx); omega) w.length _ ⟨0, [], rfl, by omega, rfl, fun x hx => by cases hx⟩
  exact ⟨r, bind_eq h1 rfl, h2, h3⟩

theorem bkOwn_some {l : List GPhrase} (h : l.length ≤ 100) (ha : ∀ x ∈ l, x.2.1.length ≤ 100) : s_bkOwn l = some l := by
  unfold s_bkOwn
  refine bind_eq (one_loop' (n := l.length) (y := l) (fun i st => st = (l.take i, (i : Int))) rfl (fun i st hi hst => ?_) (fun st hst => ?_)) rfl
  · subst hst
    have hx : l[i]? = some (l[i]'hi) := by simp [hi]
    have hm := ha _ (List.getElem_mem hi)
    refine ⟨_, ?_, rfl⟩
    simp only [dec_t (by omega : (i : Int) < (l.length : Int)), cond_true, idx_get, hx, Option.bind_some, own_some (l := (l[i]'hi).2.1) (by omega)]
    rw [limA (by simp; omega), w64_of (by omega) (by omega), List.take_succ_eq_append_getElem hi]
    rfl
  · subst hst
    simp only [dec_f (by omega : ¬ (l.length : Int) < (l.length : Int)), cond_false, List.take_length]
end Go.Proofs.Ytlhplhjibadplaa.Sh
