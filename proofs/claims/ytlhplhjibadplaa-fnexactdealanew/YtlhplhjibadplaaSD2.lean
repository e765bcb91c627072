/-
  Books dealt anew: the program's is the specification's.
-/
import Derived.Test.YtlhplhjibadplaaSD1
namespace Go.Proofs.Ytlhplhjibadplaa.Sh.D
open Go Go.Ab

abbrev kW (w : List Int) : Int → Int := fun x => - wOf w x

theorem ord_inner {w : List Int} {x e3 : Int} (hx : wOf w x = e3) (T : List Int) : ∀ (n : Nat) (A : List Int), A.length = n → (∀ a ∈ A, a ∈ ids w.length ∧ a < x) → A.Pairwise (kLt (kW w)) → (A ++ T).length ≤ 1000 →
    ∃ A1 A2, A = A1 ++ A2 ∧ (∀ a ∈ A1, kLt (kW w) a x) ∧ (∀ a ∈ A2, kLt (kW w) x a) ∧ loopE (fun (st5 : (List Int) × Int) => (
            (bif (decide (0 < st5.2)) then
                bif decide (0 ≤ (w64 (st5.2 - 1))) && decide ((w64 (st5.2 - 1)) < (st5.1.length : Int)) then
                  (st5.1[(Int.toNat (w64 (st5.2 - 1)))]?).bind fun e6 =>
                  (idx w e6).bind fun e7 =>
                  some (decide (e7 < e3))
                else
                  none
              else
                some false).bind fun c8 =>
            bif c8 then
              some (.inl (st5.1, (w64 (st5.2 - 1))))
            else
              some (.inr (st5.1, st5.2)) : Option (((List Int) × Int) ⊕ (((List Int) × Int))))) (A ++ T, (A.length : Int)) = some (A ++ T, (A1.length : Int))
  | 0, A, hn, _, _, _ => by
    obtain rfl := List.eq_nil_of_length_eq_zero hn
    exact ⟨[], [], rfl, (fun _ h => by cases h), (fun _ h => by cases h), loopE_done (by simp)⟩
  | n + 1, A, hn, hm, hs, hl => by
    rcases List.eq_nil_or_concat A with rfl | ⟨A', y, rfl⟩
    · cases hn
    rw [List.concat_eq_append] at *
    have hn' : A'.length = n := by simpa using hn
    have hl' : A'.length + 1 + T.length ≤ 1000 := by simp only [List.length_append, List.length_cons, List.length_nil] at hl; omega
    rw [List.pairwise_append] at hs
    have hy := hm y (by simp)
    obtain ⟨v, hv, _⟩ := idx_some hy.1
    have hwv : wOf w y = v := by unfold wOf; rw [hv]
    have hj : w64 (((A' ++ [y]).length : Int) - 1) = (A'.length : Int) := by rw [w64_of] <;> simp <;> omega
    have g : (A' ++ [y] ++ T)[Int.toNat (A'.length : Int)]? = some y := by rw [show A' ++ [y] ++ T = A' ++ y :: T by simp]; exact Go.Ab.get_at rfl
    have r : (decide (0 ≤ (A'.length : Int)) && decide ((A'.length : Int) < ((A' ++ [y] ++ T).length : Int))) = true := in_rng (by omega) (by simp; omega)
    by_cases hlt : v < e3
    · obtain ⟨A1, A2, e, h1, h2, h3⟩ := ord_inner hx (y :: T) n A' hn' (fun a ha => hm a (by simp [ha])) hs.1 (by simp; omega)
      refine ⟨A1, A2 ++ [y], by rw [e]; simp, h1, fun a ha => ?_, ?_⟩
      · rcases List.mem_append.1 ha with ha | ha
        · exact h2 a ha
        · rw [List.mem_singleton.1 ha]; left; simp only [kW, hx, hwv]; omega
      · rw [loopE_step (a' := (A' ++ y :: T, (A'.length : Int)))]
        · rw [h3]; simp
        · simp only [dec_t (show (0 : Int) < ((A' ++ [y]).length : Int) by simp), cond_true, hj, r, g, Option.bind_some, hv, dec_t hlt]
          simp
    · have hyx : kLt (kW w) y x := by
        have := hy.2
        unfold kLt
        simp only [kW, hx, hwv]
        omega
      refine ⟨A' ++ [y], [], by simp, fun a ha => ?_, (fun _ h => by cases h), loopE_done ?_⟩
      · rcases List.mem_append.1 ha with ha | ha
        · exact (kOrd _).trans (hs.2.2 a ha y (by simp)) hyx
        · rw [List.mem_singleton.1 ha]; exact hyx
      · simp only [dec_t (show (0 : Int) < ((A' ++ [y]).length : Int) by simp), cond_true, hj, r, g, Option.bind_some, hv, dec_f hlt, cond_false]

theorem order_eq {w : List Int} (hw : w.length ≤ 500) : ∃ o, s_cmOrder w = some o ∧ o.Perm (ids w.length) ∧ o.Pairwise (kLt (kW w)) := by
  unfold s_cmOrder
  obtain ⟨y, h1, h2⟩ := one_loop (n := w.length) (fun i (st : (List Int) × Int) => ∃ o, st = (o, (i : Int)) ∧ o.Perm (ids i) ∧ o.Pairwise (kLt (kW w))) (fun z => z.Perm (ids w.length) ∧ z.Pairwise (kLt (kW w))) (f := (fun (st2 : (List Int) × Int) => (
      bif (decide (st2.2 < (w.length : Int))) then
        (idx w st2.2).bind fun e3 =>
        (loopE (fun (st5 : (List Int) × Int) => (
            (bif (decide (0 < st5.2)) then
                bif decide (0 ≤ (w64 (st5.2 - 1))) && decide ((w64 (st5.2 - 1)) < (st5.1.length : Int)) then
                  (st5.1[(Int.toNat (w64 (st5.2 - 1)))]?).bind fun e6 =>
                  (idx w e6).bind fun e7 =>
                  some (decide (e7 < e3))
                else
                  none
              else
                some false).bind fun c8 =>
            bif c8 then
              some (.inl (st5.1, (w64 (st5.2 - 1))))
            else
              some (.inr (st5.1, st5.2)) : Option (((List Int) × Int) ⊕ (((List Int) × Int))))) (st2.1, (st2.1.length : Int))).bind fun o9 =>
        (sub o9.1 0 o9.2).bind fun l10 =>
        (s_l1Own l10).bind fun r11 =>
        (sub o9.1 o9.2 (o9.1.length : Int)).bind fun l12 =>
        bif decide (List.length r11 + List.length [st2.2] ≤ lim) then
          bif decide (List.length (r11 ++ [st2.2]) + List.length l12 ≤ lim) then
            some (.inl (((r11 ++ [st2.2]) ++ l12), (w64 (st2.2 + 1))))
          else
            none
        else
          none
      else
        some (.inr st2.1) : Option (((List Int) × Int) ⊕ ((List Int))))))
    (fun i st hi ⟨o, e, p, s⟩ => by
      subst e
      left
      have hx : idx w (i : Int) = some (w[i]'hi) := by rw [idx_get]; simp [hi]
      have hwx : wOf w (i : Int) = w[i]'hi := by unfold wOf; rw [hx]
      have ol : o.length = i := by rw [p.length_eq, ids_len]
      obtain ⟨A1, A2, e, h1, h2, h3⟩ := ord_inner hwx [] o.length o rfl (fun a ha => by
        have := ids_mem.1 (p.mem_iff.1 ha)
        exact ⟨ids_mem.2 ⟨this.1, by omega⟩, this.2⟩) s (by simp; omega)
      simp only [List.append_nil] at h3
      have al : A1.length + A2.length = i := by rw [← ol, e, List.length_append]
      have s1 : sub o 0 (A1.length : Int) = some A1 := by
        rw [e]
        have := sub_mid' ([] : List Int) A1 A2
        simpa using this
      have s2 : sub o (A1.length : Int) (o.length : Int) = some A2 := by
        unfold sub
        rw [if_pos ⟨by omega, by omega, by omega⟩]
        simp only [Int.toNat_natCast, List.take_length]
        rw [e, List.drop_left]
      simp only [dec_t (show (i : Int) < (w.length : Int) by omega), cond_true, hx, Option.bind_some, h3, s1, own_small (l := A1) (by omega), s2]
      rw [lim_s (by omega) (by simp), lim_s (by simp; omega) (by omega), w64_of (by omega) (by omega)]
      simp only [cond_true]
      refine ⟨_, rfl, A1 ++ [(i : Int)] ++ A2, rfl, ?_, ?_⟩
      · rw [ids_succ, List.append_assoc, List.singleton_append]
        refine (List.perm_middle).trans ?_
        rw [← e]
        exact (p.cons _).trans (List.perm_append_comm (l₁ := [(i : Int)]) (l₂ := ids i))
      · rw [e, List.pairwise_append] at s
        rw [List.append_assoc, List.pairwise_append, List.singleton_append, List.pairwise_cons]
        refine ⟨s.1, ⟨h2, s.2.1⟩, fun a ha b hb => ?_⟩
        rcases List.mem_cons.1 hb with rfl | hb
        · exact h1 a ha
        · exact s.2.2 a ha b hb)
    (fun st ⟨o, e, p, s⟩ => by
      subst e
      exact ⟨o, by simp only [dec_f (Int.lt_irrefl (w.length : Int)), cond_false], p, s⟩) w.length 0 ([], 0) (by omega) ⟨[], rfl, by simp [ids], .nil⟩
  exact ⟨y, by rw [h1]; rfl, h2⟩
end Go.Proofs.Ytlhplhjibadplaa.Sh.D
