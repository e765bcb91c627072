/-
  ArrivedAfter: bits here, lists there.
-/
import Derived.Test.YtffmiefhnbkcbaaGreatYA0
namespace Go.Proofs.YtffmiefhnbkcbaaGreat.Sh
open Go Go.Ab Go.Proofs
set_option maxRecDepth 100000
theorem s_all {l : List Int} {lo hi : Int} (h : l.length ≤ maxLen) : s_l1All l lo hi = some (l.all fun x => inB x lo hi) := by
  unfold s_l1All
  rw [all_loop (l := l) (fun x => inB x lo hi) false ?_ ?_]
  · cases l.all fun x => inB x lo hi <;> rfl
  · intro i x hx hi'
    simp only [idx_get, hx, Option.bind_some, l1In_eq, at_lt hi', up h hi']
    cases inB x lo hi <;> rfl
  · simp
def asked (n w : Int) (l : List Int) (k : Int) : Bool := inB n 1 9 && (inB w 1 9 && ((decide ((l.length : Int) ≤ 30) && l.all fun x => inB x 0 1023) && inB k 0 60))
theorem i_asked {n w : Int} {l : List Int} {k : Int} (h : l.length ≤ maxLen) : i_roundsAsked n w l k = some (asked n w l k) := by
  unfold i_roundsAsked i_IsAckScript asked
  rw [i_all h]
  simp only [within_eq, Option.bind_some]
  cases inB n 1 9 <;> cases inB w 1 9 <;> cases decide ((l.length : Int) ≤ 30) <;> cases (l.all fun x => inB x 0 1023) <;> rfl
theorem s_asked {n w : Int} {l : List Int} {k : Int} (h : l.length ≤ maxLen) : s_akAsked n w l k = some (asked n w l k) := by
  unfold s_akAsked s_akGood s_akScript asked
  rw [s_all h]
  simp only [l1In_eq, Option.bind_some]
  cases inB n 1 9 <;> cases inB w 1 9 <;> cases decide ((l.length : Int) ≤ 30) <;> cases (l.all fun x => inB x 0 1023) <;> rfl
theorem has_eq {l : List Int} (h : l.length ≤ 1048576) (n : Int) : s_l1Has l n = some (l.any fun x => decide (x = n)) := by
  unfold s_l1Has
  rw [all_loop (l := l) (fun x => !decide (x = n)) true ?_ ?_]
  · have : (l.all fun x => !decide (x = n)) = !(l.any fun x => decide (x = n)) := by rw [List.all_eq_not_any_not]; simp
    rw [this]
    cases (l.any fun x => decide (x = n)) <;> rfl
  · intro i x hx hi
    simp only [idx_get, hx, Option.bind_some, at_lt hi]
    rw [w64_of (by omega) (by omega)]
    cases decide (x = n) <;> rfl
  · simp
theorem put_eq {l : List Int} (h : l.length ≤ 1000) (n : Int) : s_l1Put l n = some (putL l n) := by
  unfold s_l1Put
  rw [show (0 : Int) = ((0 : Nat) : Int) from rfl, low_loop (xs := l) (n := n) (fun i x hx hi => ?_) ?_ l.length 0 (by omega)]
  · rw [Nat.zero_add, List.drop_zero]
    have e := low_high l n
    have hl : l.length = (lowP l n).length + (highP l n).length := by conv => lhs; rw [← e]; simp
    simp only [Option.bind_some]
    cases hh : highP l n with
    | nil =>
      rw [hh] at hl e
      rw [List.append_nil] at e
      unfold putL
      rw [hh]
      simp only [List.length_nil] at hl
      rw [dec_f (by omega)]
      simp only [cond_false, Option.bind_some]
      rw [show ((0 : Nat) : Int) = 0 from rfl, sub_take (by omega), sub_drop (by omega)]
      simp only [Option.bind_some]
      have e1 : l.take (lowP l n).length = lowP l n := by conv => lhs; rw [show (lowP l n).length = l.length by omega, List.take_length, ← e]
      have e2 : l.drop (lowP l n).length = [] := List.drop_eq_nil_of_le (by omega)
      rw [e1, e2, lim_ok (by omega), lim_ok (by simp; omega), lim_ok (by simp; omega)]
      simp
    | cons y r =>
      rw [hh] at hl e
      unfold putL
      rw [hh]
      simp only [List.length_cons] at hl
      have e0 : l[(lowP l n).length]? = some y := by generalize lowP l n = P at e; subst e; simp
      rw [dec_t (by omega)]
      simp only [cond_true, idx_get, e0, Option.bind_some]
      cases hd : decide (y = n) with
      | true => rfl
      | false =>
        simp only [cond_false]
        rw [show ((0 : Nat) : Int) = 0 from rfl, sub_take (by omega), sub_drop (by omega)]
        simp only [Option.bind_some]
        have e1 : l.take (lowP l n).length = lowP l n := by generalize lowP l n = P at e; subst e; simp
        have e2 : l.drop (lowP l n).length = y :: r := by generalize lowP l n = P at e; subst e; simp
        rw [e1, e2, lim_ok (by omega), lim_ok (by simp; omega), lim_ok (by simp; omega)]
        rfl
  · simp
  · simp only [idx_get, hx, Option.bind_some, at_lt hi, cond_true]
    rw [w64_of (by omega) (by omega)]
    cases decide (x < n) <;> rfl
theorem setBits_eq {a : Nat} (ha : a < 512) : i_setBits (a : Int) = some (bitsL a) := by
  unfold i_setBits
  suffices h : To (loopE _ _) (fun r => r = bitsL a) by
    obtain ⟨r, e, rfl⟩ := h
    exact bind_eq e rfl
  refine To.loop (fun m st => ∃ i : Nat, i + m = 9 ∧ st = (upto a i, (i : Int))) (n := 9) ⟨0, rfl, rfl⟩ fun m st ⟨i, him, hst⟩ => ?_
  subst hst
  refine .guard (by simp) ?_
  rw [b_shr ha (by omega : i < 10)]
  refine .ite (fun h => ?_) fun h => .ret (b_upto ha (by omega) h)
  have hi : i < 9 := by
    rcases Nat.lt_or_ge i 9 with h9 | h9
    · exact h9
    · obtain rfl : i = 9 := by omega
      omega
  refine .guard (by simp) ?_
  rw [b_and ha hi]
  have hs : upto a (i + 1) = bif a.testBit i then upto a i ++ [(i : Int)] else upto a i := by
    unfold upto
    rw [List.range_succ, List.filter_append, List.map_append]
    cases hb : a.testBit i <;> simp [hb]
  have hlen : (upto a i).length ≤ i := by
    unfold upto
    rw [List.length_map]
    exact Nat.le_trans (List.length_filter_le _ _) (by simp)
  have hw : w64 ((i : Int) + 1) = ((i + 1 : Nat) : Int) := w64_of (by omega) (by omega)
  cases hb : a.testBit i with
  | true =>
    rw [hb] at hs
    refine .guard (by unfold lim; simp only [List.length_singleton]; omega) (.ret (Turn.on (m - 1) (by omega) ⟨i + 1, by omega, ?_⟩))
    rw [hs, hw]; rfl
  | false =>
    rw [hb] at hs
    refine .ret (Turn.on (m - 1) (by omega) ⟨i + 1, by omega, ?_⟩)
    rw [hs, hw]; rfl
def goR (n w : Nat) (lost : Nat → Bool) (known : Nat) : Nat → Nat → Nat → Nat → Nat
  | 0, _, _, a => a
  | f + 1, p, sent, a => bif decide (p < n) && decide (sent < w) then (bif known.testBit p then goR n w lost known f (p + 1) sent a else bif lost p then goR n w lost known f (p + 1) (sent + 1) a else goR n w lost known f (p + 1) (sent + 1) (a ||| 2 ^ p)) else a
def lostB (l : Int) (p : Nat) : Bool := decide (bitsI .and .i64 (shiftI .shr .i64 l (p : Int)) 1 = 1)
theorem goR_lt {n w : Nat} {lost : Nat → Bool} {known : Nat} : ∀ (f p sent a : Nat), a < 2 ^ n → goR n w lost known f p sent a < 2 ^ n
  | 0, _, _, _, h => h
  | f + 1, p, sent, a, h => by
    unfold goR
    by_cases hp : p < n
    · rw [dec_t hp, Bool.true_and]
      cases decide (sent < w) with
      | false => exact h
      | true =>
        simp only [cond_true]
        cases known.testBit p with
        | true => exact goR_lt f _ _ _ h
        | false =>
          cases lost p with
          | true => exact goR_lt f _ _ _ h
          | false => exact goR_lt f _ _ _ (or_lt h hp)
    · rw [dec_f hp]; exact h
def runR (n w : Nat) (lost : Nat → Int) : Nat → Nat → Nat → Nat → Nat
  | 0, _, a, _ => a
  | f + 1, rd, a, K => bif decide ((n : Int) ≤ ((bitsL K).length : Int)) then a else
    runR n w lost f (rd + 1) (goR n w (lostB (lost rd)) K n 0 0 a) (bif decide (lost rd < 512) then goR n w (lostB (lost rd)) K n 0 0 a else K)
end Go.Proofs.YtffmiefhnbkcbaaGreat.Sh
namespace Go.Proofs.YtffmiefhnbkcbaaGreat.Sh
open Go Go.Ab Go.Proofs
set_option maxRecDepth 100000
theorem runR_full {n w : Nat} {lost : Nat → Int} {a K : Nat} (h : decide ((n : Int) ≤ ((bitsL K).length : Int)) = true) : ∀ (m rd : Nat), runR n w lost m rd a K = a
  | 0, _ => rfl
  | m + 1, _ => by unfold runR; rw [h]; rfl
section
variable {n w : Nat} {script : List Int} {k : Nat}
theorem lost_at (hv : ∀ x ∈ script, 0 ≤ x ∧ x ≤ 1023) (rd : Nat) : ∃ l : Nat, script.getD rd 0 = (l : Int) ∧ l < 1024 := by
  rw [List.getD_eq_getElem?_getD]
  by_cases h : rd < script.length
  · rw [List.getElem?_eq_getElem h]
    have := hv _ (List.getElem_mem h)
    exact ⟨script[rd].toNat, by simp; omega, by omega⟩
  · rw [List.getElem?_eq_none (by omega)]
    exact ⟨0, rfl, by decide⟩
theorem i_run (hn : n ≤ 9) (hw : w ≤ 9) (hk : k ≤ 60) (hv : ∀ x ∈ script, 0 ≤ x ∧ x ≤ 1023) : To (i_runRounds (n : Int) (w : Int) script (k : Int)) (fun r => r.1 = ((runR n w (fun i => script.getD i 0) k 0 0 0 : Nat) : Int) ) := by
  unfold i_runRounds
  generalize hR : runR n w (fun i => script.getD i 0) k 0 0 0 = R
  refine .guard (by omega) ?_
  refine (To.loop (fun m st => ∃ (rd a K : Nat) (z1 z2 z3 z4 z5 S D : Int), st = (z1, z2, z3, z4, z5, (a : Int), (K : Int), (rd : Int), S, D) ∧ rd + m = k ∧ a < 2 ^ n ∧ K < 2 ^ n ∧ runR n w (fun i => script.getD i 0) m rd a K = R)
    (Q := fun r => r.2.2.2.2.2.1 = (R : Int)) (n := k) ⟨0, 0, 0, 0, 0, 0, 0, 0, 0, 0, rfl, by omega, Nat.two_pow_pos n, Nat.two_pow_pos n, hR⟩ fun m st ⟨rd, a, K, z1, z2, z3, z4, z5, S, D, hst, hm, ha, hK, hr⟩ => ?_).bind fun r hr => .ret hr
  subst hst
  simp only
  rw [(b_full hn hK).1]
  cases hf : decide ((n : Int) ≤ ((bitsL K).length : Int)) with
  | true =>
    rw [runR_full hf] at hr
    subst hr
    exact .ret (Turn.end_ rfl)
  | false =>
    simp only [Bool.not_false, cond_true, Option.bind_some]
    cases m with
    | zero =>
      rw [dec_f (show ¬ (rd : Int) < (k : Int) by omega)]
      have hr : a = R := hr
      subst hr
      exact .ret (Turn.end_ rfl)
    | succ m =>
      rw [dec_t (show (rd : Int) < (k : Int) by omega)]
      unfold runR at hr
      rw [hf] at hr
      simp only [cond_false] at hr
      obtain ⟨l, hl, hl2⟩ := lost_at hv rd
      rw [hl] at hr
      refine To.bind (Q := fun j => j = (z1, z2, z3, z4, z5, (a : Int), (K : Int), (rd : Int), S, D, (l : Int))) ?_ fun j hj => ?_
      · rw [← hl, List.getD_eq_getElem?_getD]
        by_cases h : rd < script.length
        · rw [dec_t (show (rd : Int) < (script.length : Int) by omega)]
          simp only [cond_true, idx_get, List.getElem?_eq_getElem h, Option.bind_some, Option.getD_some]
          exact .ret rfl
        · rw [dec_f (show ¬ (rd : Int) < (script.length : Int) by omega), List.getElem?_eq_none (by omega)]
          exact .ret rfl
      · subst hj
        simp only
        generalize hG : goR n w (lostB (l : Int)) K n 0 0 a = G at hr
        have hGl : G < 2 ^ n := by rw [← hG]; exact goR_lt _ _ _ _ ha
        refine (To.loop (fun m2 st => ∃ (p sent now : Nat) (S D lf : Int), st = (z1, z2, z3, z4, z5, (a : Int), (K : Int), (rd : Int), S, D, (now : Int), (p : Int), lf) ∧ p + m2 = n ∧ lf + (sent : Int) = (w : Int) ∧ 0 ≤ lf ∧ now < 2 ^ n ∧ goR n w (lostB (l : Int)) K m2 p sent now = G)
          (Q := fun o => ∃ S D : Int, o = (z1, z2, z3, z4, z5, (a : Int), (K : Int), (rd : Int), S, D, (G : Int))) (n := n) ⟨0, 0, a, S, D, (w : Int), rfl, by omega, by omega, by omega, ha, hG⟩ fun m2 st ⟨p, sent, now, S, D, lf, hst, hm2, hlf, hlf0, hnow, hg⟩ => ?_).bind fun o ⟨S', D', ho⟩ => ?_
        · subst hst
          simp only
          cases m2 with
          | zero =>
            rw [dec_f (show ¬ (p : Int) < (n : Int) by omega)]
            have hg : now = G := hg
            subst hg
            exact .ret (Turn.end_ ⟨S, D, rfl⟩)
          | succ m2 =>
            have hp : p < n := by omega
            rw [dec_t (show (p : Int) < (n : Int) by omega)]
            unfold goR at hg
            rw [dec_t hp, Bool.true_and] at hg
            simp only [cond_true, Option.bind_some]
            by_cases hs : sent < w
            · rw [dec_t hs] at hg
              rw [dec_t (show 0 < lf by omega)]
              simp only [cond_true] at hg ⊢
              refine .guard (by omega) ?_
              rw [b_and (pow9 hn hK) (by omega)]
              have hw1 : w64 ((p : Int) + 1) = ((p + 1 : Nat) : Int) := w64_of (by omega) (by omega)
              have hw2 : w64 (lf - 1) = lf - 1 := w64_of (by omega) (by omega)
              cases hb : K.testBit p with
              | true =>
                rw [hb] at hg
                exact .ret (Turn.on m2 (by omega) ⟨p + 1, sent, now, S, D, lf, by rw [hw1], by omega, hlf, hlf0, hnow, hg⟩)
              | false =>
                rw [hb] at hg
                simp only [cond_false] at hg ⊢
                refine .guard (by omega) ?_
                rw [show decide (bitsI .and .i64 (shiftI .shr .i64 (l : Int) (p : Int)) 1 = 1) = lostB (l : Int) p from rfl]
                cases hc : lostB (l : Int) p with
                | true =>
                  rw [hc] at hg
                  exact .ret (Turn.on m2 (by omega) ⟨p + 1, sent + 1, now, _, D, lf - 1, by rw [hw1, hw2], by omega, by omega, by omega, hnow, hg⟩)
                | false =>
                  rw [hc] at hg
                  simp only [cond_false] at hg ⊢
                  refine .guard (by omega) ?_
                  refine .cond ?_ ?_
                  · refine .guard (by omega) (.ret (Turn.on m2 (by omega) ⟨p + 1, sent + 1, now ||| 2 ^ p, _, _, lf - 1, by rw [hw1, hw2, b_or (pow9 hn hnow) (by omega)], by omega, by omega, by omega, or_lt hnow hp, hg⟩))
                  · refine .guard (by omega) (.ret (Turn.on m2 (by omega) ⟨p + 1, sent + 1, now ||| 2 ^ p, _, _, lf - 1, by rw [hw1, hw2, b_or (pow9 hn hnow) (by omega)], by omega, by omega, by omega, or_lt hnow hp, hg⟩))
            · rw [dec_f hs] at hg
              rw [dec_f (show ¬ 0 < lf by omega)]
              have hg : now = G := hg
              subst hg
              exact .ret (Turn.end_ ⟨S, D, rfl⟩)
        · subst ho
          simp only
          rw [b_ack hl2]
          have hw1 : w64 ((rd : Int) + 1) = ((rd + 1 : Nat) : Int) := w64_of (by omega) (by omega)
          cases hd : decide ((l : Int) < 512) with
          | true =>
            rw [hd] at hr
            exact .ret (Turn.on m (by omega) ⟨rd + 1, G, G, z1, z2, z3, z4, z5, S', D', by rw [hw1], by omega, hGl, hGl, hr⟩)
          | false =>
            rw [hd] at hr
            exact .ret (Turn.on m (by omega) ⟨rd + 1, G, K, z1, z2, z3, z4, z5, S', D', by rw [hw1], by omega, hGl, hK, hr⟩)
theorem s_round (hn : n ≤ 9) (hw : w ≤ 9) {a K rd : Nat} {S D : Int} (ha : a < 2 ^ n) (hK : K < 2 ^ n) (hrd : rd ≤ 100) {l : Nat} : To (s_akState_round (bitsL a, bitsL K, (rd : Int), S, D, ()) (n : Int) (w : Int) (l : Int)) (fun r => ∃ S D, r = (bitsL (goR n w (lostB (l : Int)) K n 0 0 a), (bif decide ((l : Int) < 512) then bitsL (goR n w (lostB (l : Int)) K n 0 0 a) else bitsL K), ((rd + 1 : Nat) : Int), S, D, ())) := by
  unfold s_akState_round
  generalize hG : goR n w (lostB (l : Int)) K n 0 0 a = G
  have hw1 : w64 ((rd : Int) + 1) = ((rd + 1 : Nat) : Int) := w64_of (by omega) (by omega)
  refine (To.loop (fun m2 st => ∃ (p sent now : Nat) (D : Int), st = (bitsL now, bitsL K, (rd : Int), S, D, (sent : Int), (p : Int)) ∧ p + m2 = n ∧ sent ≤ w ∧ now < 2 ^ n ∧ goR n w (lostB (l : Int)) K m2 p sent now = G)
    (Q := fun o => ∃ (sent : Nat) (D : Int), o = (bitsL G, bitsL K, (rd : Int), S, D, (sent : Int)) ∧ sent ≤ w) (n := n) ⟨0, 0, a, D, rfl, by omega, by omega, ha, hG⟩ fun m2 st ⟨p, sent, now, D, hst, hm2, hsw, hnow, hg⟩ => ?_).bind fun o ⟨sent, D', ho, _⟩ => ?_
  · subst hst
    simp only
    cases m2 with
    | zero =>
      rw [dec_f (show ¬ (p : Int) < (n : Int) by omega)]
      have hg : now = G := hg
      subst hg
      exact .ret (Turn.end_ ⟨sent, D, rfl, hsw⟩)
    | succ m2 =>
      have hp : p < n := by omega
      rw [dec_t (show (p : Int) < (n : Int) by omega)]
      unfold goR at hg
      rw [dec_t hp, Bool.true_and] at hg
      simp only [cond_true, Option.bind_some]
      by_cases hs : sent < w
      · rw [dec_t hs] at hg
        rw [dec_t (show (sent : Int) < (w : Int) by omega)]
        simp only [cond_true] at hg ⊢
        rw [has_eq (by have := bits_len K; omega), b_has (pow9 hn hK) (by omega)]
        have hw1 : w64 ((p : Int) + 1) = ((p + 1 : Nat) : Int) := w64_of (by omega) (by omega)
        have hw2 : w64 ((sent : Int) + 1) = ((sent + 1 : Nat) : Int) := w64_of (by omega) (by omega)
        have hwr : IntKind.u64.wrap (p : Int) = (p : Int) := by rw [u64_wrap]; omega
        simp only [Option.bind_some]
        cases hb : K.testBit p with
        | true =>
          rw [hb] at hg
          exact .ret (Turn.on m2 (by omega) ⟨p + 1, sent, now, D, by rw [hw1], by omega, hsw, hnow, hg⟩)
        | false =>
          rw [hb] at hg
          simp only [cond_false] at hg ⊢
          rw [hwr]
          refine .guard (by omega) ?_
          rw [show decide (bitsI .and .i64 (shiftI .shr .i64 (l : Int) (p : Int)) 1 = 1) = lostB (l : Int) p from rfl]
          cases hc : lostB (l : Int) p with
          | true =>
            rw [hc] at hg
            exact .ret (Turn.on m2 (by omega) ⟨p + 1, sent + 1, now, D, by rw [hw1, hw2], by omega, by omega, hnow, hg⟩)
          | false =>
            rw [hc] at hg
            simp only [cond_false] at hg ⊢
            rw [has_eq (by have := bits_len now; omega), put_eq (by have := bits_len now; omega), b_put (pow9 hn hnow) (by omega)]
            simp only [Option.bind_some]
            refine .cond ?_ ?_
            · exact .ret (Turn.on m2 (by omega) ⟨p + 1, sent + 1, now ||| 2 ^ p, _, by rw [hw1, hw2], by omega, by omega, or_lt hnow hp, hg⟩)
            · exact .ret (Turn.on m2 (by omega) ⟨p + 1, sent + 1, now ||| 2 ^ p, _, by rw [hw1, hw2], by omega, by omega, or_lt hnow hp, hg⟩)
      · rw [dec_f hs] at hg
        rw [dec_f (show ¬ (sent : Int) < (w : Int) by omega)]
        have hg : now = G := hg
        subst hg
        exact .ret (Turn.end_ ⟨sent, D, rfl, hsw⟩)
  · subst ho
    simp only
    cases hd : decide ((l : Int) < 512) with
    | true =>
      unfold s_l1Own_w
      rw [lim_ok (by have := bits_len G; omega)]
      exact .ret ⟨_, _, by rw [hw1]; rfl⟩
    | false => exact .ret ⟨_, _, by rw [hw1]; rfl⟩
theorem s_run (hn : n ≤ 9) (hw : w ≤ 9) (hk : k ≤ 60) (hv : ∀ x ∈ script, 0 ≤ x ∧ x ≤ 1023) : To (s_akRun (n : Int) (w : Int) script (k : Int)) (fun r => r.1 = bitsL (runR n w (fun i => script.getD i 0) k 0 0 0)) := by
  unfold s_akRun
  generalize hR : runR n w (fun i => script.getD i 0) k 0 0 0 = R
  refine (To.loop (fun m st => ∃ (rd a K : Nat) (S D : Int), st = (bitsL a, bitsL K, (rd : Int), S, D) ∧ rd + m = k ∧ a < 2 ^ n ∧ K < 2 ^ n ∧ runR n w (fun i => script.getD i 0) m rd a K = R)
    (Q := fun r => r.1 = bitsL R) (n := k) ⟨0, 0, 0, 0, 0, rfl, by omega, Nat.two_pow_pos n, Nat.two_pow_pos n, hR⟩ fun m st ⟨rd, a, K, S, D, hst, hm, ha, hK, hr⟩ => ?_).bind fun r hr => .ret hr
  subst hst
  simp only
  cases m with
  | zero =>
    rw [dec_f (show ¬ (rd : Int) < (k : Int) by omega)]
    have hr : a = R := hr
    subst hr
    exact .ret (Turn.end_ rfl)
  | succ m =>
    rw [dec_t (show (rd : Int) < (k : Int) by omega)]
    simp only [cond_true, Option.bind_some]
    by_cases hf : (n : Int) ≤ ((bitsL K).length : Int)
    · rw [dec_f (show ¬ ((bitsL K).length : Int) < (n : Int) by omega)]
      rw [runR_full (dec_t hf)] at hr
      subst hr
      exact .ret (Turn.end_ rfl)
    · rw [dec_t (show ((bitsL K).length : Int) < (n : Int) by omega)]
      unfold runR at hr
      rw [dec_f hf] at hr
      simp only [cond_false] at hr
      simp only [cond_true]
      obtain ⟨l, hl, hl2⟩ := lost_at hv rd
      rw [hl] at hr
      have goal : ∀ r : GakState, (∃ S D, r = (bitsL (goR n w (lostB (l : Int)) K n 0 0 a), (bif decide ((l : Int) < 512) then bitsL (goR n w (lostB (l : Int)) K n 0 0 a) else bitsL K), ((rd + 1 : Nat) : Int), S, D, ())) → To (some (Sum.inl (r.1, r.2.1, r.2.2.1, r.2.2.2.1, r.2.2.2.2.1)) : Option (((List Int) × (List Int) × Int × Int × Int) ⊕ ((List Int) × (List Int) × Int × Int × Int))) (Turn (fun m st => ∃ (rd a K : Nat) (S D : Int), st = (bitsL a, bitsL K, (rd : Int), S, D) ∧ rd + m = k ∧ a < 2 ^ n ∧ K < 2 ^ n ∧ runR n w (fun i => script.getD i 0) m rd a K = R) (fun r => r.1 = bitsL R) (m + 1)) := fun r ⟨S', D', e⟩ => by
        subst e
        have hGl : goR n w (lostB (l : Int)) K n 0 0 a < 2 ^ n := goR_lt _ _ _ _ ha
        refine .ret (Turn.on m (by omega) ?_)
        cases hd : decide ((l : Int) < 512) with
        | true =>
          rw [hd] at hr
          exact ⟨rd + 1, _, _, S', D', rfl, by omega, hGl, hGl, hr⟩
        | false =>
          rw [hd] at hr
          exact ⟨rd + 1, _, K, S', D', rfl, by omega, hGl, hK, hr⟩
      rw [List.getD_eq_getElem?_getD] at hl
      by_cases h : rd < script.length
      · rw [dec_t (show (rd : Int) < (script.length : Int) by omega)]
        rw [List.getElem?_eq_getElem h] at hl
        have hl : script[rd] = (l : Int) := hl
        simp only [cond_true, idx_get, List.getElem?_eq_getElem h, Option.bind_some, hl]
        exact (s_round hn hw ha hK (by omega)).bind goal
      · rw [dec_f (show ¬ (rd : Int) < (script.length : Int) by omega)]
        rw [List.getElem?_eq_none (by omega)] at hl
        have hl : (0 : Int) = (l : Int) := hl
        simp only [cond_false]
        have := s_round (S := S) (D := D) hn hw ha hK (show rd ≤ 100 by omega) (l := l)
        rw [← hl] at this goal
        exact this.bind goal
end
end Go.Proofs.YtffmiefhnbkcbaaGreat.Sh
namespace Go.Proofs.YtffmiefhnbkcbaaGreat.Sh
open Go Go.Ab Go.Proofs
set_option maxRecDepth 100000
theorem runR_lt {n w : Nat} {lost : Nat → Int} : ∀ (m rd a K : Nat), a < 2 ^ n → runR n w lost m rd a K < 2 ^ n
  | 0, _, _, _, h => h
  | m + 1, rd, a, K, h => by
    unfold runR
    cases decide ((n : Int) ≤ ((bitsL K).length : Int)) with
    | true => exact h
    | false => exact runR_lt m _ _ _ (goR_lt _ _ _ _ h)
theorem arr_eq (n w : Int) {script : List Int} (hl : script.length ≤ 1048576) (k : Int) : (i_ArrivedAfter n w script k = some ([], false) ∧ s_ArrivedAfter n w script k = some ([], false)) ∨
    ∃ N R : Nat, n = (N : Int) ∧ 1 ≤ N ∧ N ≤ 9 ∧ R < 2 ^ N ∧ i_ArrivedAfter n w script k = some (bitsL R, true) ∧ s_ArrivedAfter n w script k = some (bitsL R, true) := by
  have hm : script.length ≤ maxLen := by unfold maxLen; omega
  unfold i_ArrivedAfter s_ArrivedAfter
  rw [i_asked hm, s_asked hm]
  simp only [Option.bind_some]
  cases hq : asked n w script k with
  | false => exact .inl ⟨rfl, rfl⟩
  | true =>
    refine .inr ?_
    unfold asked at hq
    simp only [Bool.and_eq_true, inB_iff, decide_eq_true_eq, List.all_eq_true] at hq
    obtain ⟨⟨h1, h2⟩, ⟨h3, h4⟩, ⟨_, h5⟩, h6, h7⟩ := hq
    obtain ⟨N, rfl⟩ := Int.eq_ofNat_of_zero_le (show 0 ≤ n by omega)
    obtain ⟨W, rfl⟩ := Int.eq_ofNat_of_zero_le (show 0 ≤ w by omega)
    obtain ⟨K, rfl⟩ := Int.eq_ofNat_of_zero_le h6
    have hN : N ≤ 9 := by omega
    have hlt : runR N W (fun i => script.getD i 0) K 0 0 0 < 2 ^ N := runR_lt _ _ _ _ (Nat.two_pow_pos N)
    obtain ⟨r, e1, e2⟩ := i_run (n := N) (w := W) (k := K) hN (by omega) (by omega) h5
    obtain ⟨r', e3, e4⟩ := s_run (n := N) (w := W) (k := K) hN (by omega) (by omega) h5
    refine ⟨N, _, rfl, by omega, hN, hlt, ?_, ?_⟩
    · simp only [Bool.not_true, cond_false, e1, Option.bind_some, e2]
      rw [setBits_eq (pow9 hN hlt)]
      rfl
    · simp only [Bool.not_true, cond_false, e3, Option.bind_some, e4]
end Go.Proofs.YtffmiefhnbkcbaaGreat.Sh
