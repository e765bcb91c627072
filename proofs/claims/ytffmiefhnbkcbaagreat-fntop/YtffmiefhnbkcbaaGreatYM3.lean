/-
  JoinMessage at the parts of a message that have arrived.
-/
import Derived.Test.YtffmiefhnbkcbaaGreatYM0
namespace Go.Proofs.YtffmiefhnbkcbaaGreat.Sh
open Go Go.Ab Go.Proofs
set_option maxRecDepth 100000
theorem enum_pk : ((List.range 10).all fun N => (List.range N).all fun p => inB (N : Int) 1 9 && (inB (p : Int) 0 (w64 ((N : Int) - 1)) && (sg p).all fun x => inB x 1 60)) = true := by kernel_rfl
theorem enum_at : ((List.range 512).all fun R => (List.range 9).all fun p => (firstAt (fun b : Nat => decide ((b : Int) = (p : Int))) (bitsN R) 0).isSome == R.testBit p) = true := by kernel_rfl
def missL (R N : Nat) : List Int := ((List.range N).filter fun p => !R.testBit p).map fun i : Nat => (i : Int)
theorem enum_miss : ((List.range 10).all fun N => (List.range (2 ^ N)).all fun R => decide (0 < ((missL R N).length : Int)) == !decide ((bitsL R).length = N)) = true := by kernel_rfl
theorem enum_below : ((List.range 10).all fun N => (List.range (2 ^ N)).all fun R => (bitsN R).all fun p => decide (p < N)) = true := by kernel_rfl
theorem enum_all : ((List.range 10).all fun N => (List.range (2 ^ N)).all fun R => !decide ((bitsL R).length = N) || ((List.range N).all fun p => R.testBit p)) = true := by kernel_rfl
section
variable {N R : Nat} (hN : N ≤ 9) (hR : R < 2 ^ N)
include hN
theorem pk_ok {p : Nat} (hp : p < N) : i_IsPacket (pkt N p) = some true := by
  have h := r_all (r_all enum_pk (show N < 10 by omega)) hp
  simp only [Bool.and_eq_true] at h
  have e1 : (inB (((sg p).length : Nat) : Int) 1 8) = true := rfl
  unfold i_IsPacket pkt
  simp only [within_eq, Option.bind_some, h.1, h.2.1, i_all (show (sg p).length ≤ maxLen by show 2 ≤ maxLen; unfold maxLen; omega), h.2.2, e1]
  rfl
include hR
theorem below {p : Nat} (hp : p ∈ bitsN R) : p < N := of_decide_eq_true (List.all_eq_true.1 (r_all (r_all enum_below (show N < 10 by omega)) hR) p hp)
theorem at_of {p : Nat} (hp : p < 9) : (firstAt (fun b : Nat => decide ((b : Int) = (p : Int))) (bitsN R) 0).isSome = R.testBit p := eq_of_beq (r_all (r_all enum_at (pow9 hN hR)) hp)
theorem miss_of : decide (0 < ((missL R N).length : Int)) = !decide ((bitsL R).length = N) := eq_of_beq (r_all (r_all enum_miss (show N < 10 by omega)) hR)
theorem all_of (h : (bitsL R).length = N) {p : Nat} (hp : p < N) : R.testBit p = true := by
  have := r_all (r_all enum_all (show N < 10 by omega)) hR
  rw [dec_t h, Bool.not_true, Bool.false_or] at this
  exact r_all this hp
end
theorem firstAt_map {α β : Type} (g : α → β) (t : β → Bool) : ∀ (l : List α) (k : Nat), firstAt t (l.map g) k = firstAt (fun x => t (g x)) l k
  | [], _ => rfl
  | x :: l, k => by
    simp only [List.map_cons, firstAt]
    rw [firstAt_map g t l (k + 1)]
theorem bitsN_len (R : Nat) : (bitsN R).length ≤ 9 := Nat.le_trans (List.length_filter_le _ _) (by simp)
theorem bitsL_len (R : Nat) : (bitsL R).length = (bitsN R).length := by unfold bitsL; rw [List.length_map]
theorem find_none {α : Type} {t : α → Bool} : ∀ (l : List α) (k : Nat), (∀ x ∈ l, t x = false) → firstAt t l k = none
  | [], _, _ => rfl
  | x :: l, k, h => by
    unfold firstAt
    rw [h x (List.mem_cons_self ..)]
    exact find_none l (k + 1) fun y hy => h y (List.mem_cons_of_mem _ hy)
def gotL (N R : Nat) : List GPacket := (bitsN R).map (pkt N)
theorem gotL_len (N R : Nat) : (gotL N R).length ≤ 9 := by unfold gotL; rw [List.length_map]; exact bitsN_len R
theorem gotL_at {N R i : Nat} (hi : i < (gotL N R).length) : ∃ p, p ∈ bitsN R ∧ (bitsN R)[i]? = some p ∧ (gotL N R)[i]? = some (pkt N p) := by
  have hb : i < (bitsN R).length := by unfold gotL at hi; rwa [List.length_map] at hi
  refine ⟨(bitsN R)[i], List.getElem_mem hb, by simp [hb], ?_⟩
  unfold gotL
  rw [List.getElem?_map, List.getElem?_eq_getElem hb]
  rfl
theorem i_are {N R : Nat} (hN : N ≤ 9) (hR : R < 2 ^ N) : i_ArePackets (gotL N R) = some true := by
  have hl := gotL_len N R
  unfold i_ArePackets slices_ContainsFunc_Packet_88 slices_IndexFunc_Packet_88
  rw [find_loop (l := gotL N R) (fun _ => false) ?_ ?_]
  · rw [find_none _ _ fun _ _ => rfl, dec_t (by omega)]
    rfl
  · intro i x hx hi
    obtain ⟨p, hp, _, e⟩ := gotL_at hi
    rw [e] at hx
    cases hx
    unfold i_ArePackets_1
    simp only [idx_get, e, Option.bind_some, at_lt hi, up1 hi (by omega), pk_ok hN (below hN hR hp)]
    rfl
  · simp
theorem no_clash (N p q : Nat) : i_packetsOf_1 (pkt N q) (pkt N p) = some false := by
  unfold i_packetsOf_1 i_inConflict pkt
  simp only [decide_true, Bool.not_true, cond_false, cond_true, Option.bind_some]
  by_cases h : p = q
  · subst h
    rw [dec_t rfl]
    simp only [cond_true, equal_eq (show (sg p).length ≤ 1048576 by show 2 ≤ 1048576; omega), decide_true, Option.bind_some, Bool.not_true]
  · rw [dec_f (by omega)]
    rfl
theorem i_of {N R : Nat} (hN : N ≤ 9) (hR : R < 2 ^ N) : i_packetsOf (gotL N R) 7 = some (gotL N R, decide (0 < ((gotL N R).length : Int))) := by
  have hl := gotL_len N R
  unfold i_packetsOf
  rw [i_are hN hR, within_eq]
  simp only [Option.bind_some, show inB 7 1 999 = true from rfl, Bool.not_true, cond_false]
  suffices hh : To (loopE _ _) (fun r => r = Sum.inl (gotL N R)) by
    obtain ⟨r, e, rfl⟩ := hh
    exact bind_eq e rfl
  refine To.loop (fun m st => ∃ j : Nat, st = ((gotL N R).take j, (j : Int)) ∧ j + m = (gotL N R).length) (n := (gotL N R).length) ⟨0, rfl, by omega⟩ fun m st ⟨j, hst, hj⟩ => ?_
  subst hst
  cases m with
  | zero =>
    obtain rfl : j = (gotL N R).length := by omega
    rw [dec_f (by omega)]
    exact .ret (Turn.end_ (by rw [List.take_length]))
  | succ m =>
    have hi : j < (gotL N R).length := by omega
    obtain ⟨p, hp, _, e⟩ := gotL_at hi
    have hcl : slices_ContainsFunc_Packet_66 ((gotL N R).take j) (pkt N p, ()) = some false := by
      unfold slices_ContainsFunc_Packet_66 slices_IndexFunc_Packet_66
      rw [find_loop (l := (gotL N R).take j) (fun _ => false) ?_ ?_]
      · rw [find_none _ _ fun _ _ => rfl]
        rfl
      · intro i x hx hi2
        rw [List.length_take] at hi2
        obtain ⟨q, hq, _, e2⟩ := gotL_at (show i < (gotL N R).length by omega)
        have hx' := hx
        rw [List.getElem?_take_of_lt (by omega), e2] at hx'
        cases hx'
        have hi3 : i < ((gotL N R).take j).length := by rw [List.length_take]; omega
        have hw : w64 ((i : Int) + 1) = ((i + 1 : Nat) : Int) := w64_of (by omega) (by omega)
        simp only [idx_get, hx, Option.bind_some, at_lt hi3, no_clash, hw]
        rfl
      · simp
    have hlt : ((gotL N R).take j).length ≤ 100000000 := by rw [List.length_take]; omega
    have htk : (gotL N R).take (j + 1) = (gotL N R).take j ++ [pkt N p] := by rw [List.take_add_one, e]; rfl
    simp only [at_lt hi, cond_true, idx_get, e, Option.bind_some, show decide ((pkt N p).1 = 7) = true from rfl, Bool.not_true, cond_false, hcl, lim1 hlt, up1 hi (by omega)]
    exact .ret (Turn.on m (by omega) ⟨j + 1, by rw [htk], by omega⟩)
theorem at_got {N R p : Nat} : firstAt (fun q : GPacket => decide (q.2.1 = (p : Int))) (gotL N R) 0 = firstAt (fun b : Nat => decide ((b : Int) = (p : Int))) (bitsN R) 0 := by
  unfold gotL
  rw [firstAt_map]
  rfl
theorem has_part {N R : Nat} (hN : N ≤ 9) (hR : R < 2 ^ N) {p : Nat} (hp : p < 9) : slices_ContainsFunc_Packet_68 (gotL N R) ((p : Int), ()) = some (R.testBit p) := by
  have hl := gotL_len N R
  unfold slices_ContainsFunc_Packet_68 slices_IndexFunc_Packet_68
  rw [find_loop (l := gotL N R) (fun q : GPacket => decide (q.2.1 = (p : Int))) ?_ ?_]
  · have h := at_of hN hR hp
    rw [at_got]
    cases hf : firstAt (fun b : Nat => decide ((b : Int) = (p : Int))) (bitsN R) 0 with
    | none => rw [hf] at h; rw [← h]; rfl
    | some i =>
      rw [hf] at h
      rw [← h]
      simp
  · intro i x hx hi
    unfold i_missingParts_1
    simp only [idx_get, hx, Option.bind_some, at_lt hi, up1 hi (by omega)]
    cases decide (x.2.1 = (p : Int)) <;> rfl
  · simp
theorem at_part {N R : Nat} (hN : N ≤ 9) (hR : R < 2 ^ N) {p : Nat} (hp : p < 9) (hb : R.testBit p = true) : ∃ i : Nat, slices_IndexFunc_Packet_39 (gotL N R) ((p : Int), ()) = some (i : Int) ∧ (gotL N R)[i]? = some (pkt N p) := by
  have hl := gotL_len N R
  have h := at_of hN hR hp
  rw [hb] at h
  cases hf : firstAt (fun b : Nat => decide ((b : Int) = (p : Int))) (bitsN R) 0 with
  | none => rw [hf] at h; cases h
  | some i =>
    obtain ⟨x, h1, _, h3⟩ := firstAt_get _ _ _ hf
    have hxp : x = p := by have := of_decide_eq_true h3; omega
    subst hxp
    refine ⟨i, ?_, by unfold gotL; rw [List.getElem?_map, show i = i - 0 from rfl, h1]; rfl⟩
    unfold slices_IndexFunc_Packet_39
    rw [find_loop (l := gotL N R) (fun q : GPacket => decide (q.2.1 = (x : Int))) ?_ ?_]
    · rw [at_got, hf]
      rfl
    · intro i x hx hi
      unfold i_JoinMessage_1
      simp only [idx_get, hx, Option.bind_some, at_lt hi, up1 hi (by omega)]
      cases decide (x.2.1 = _) <;> rfl
    · simp
theorem i_miss {N R : Nat} (hN : N ≤ 9) (hR : R < 2 ^ N) (h0 : 0 < (gotL N R).length) : i_missingParts (gotL N R) = some (missL R N) := by
  obtain ⟨p, hp, _, e⟩ := gotL_at h0
  unfold i_missingParts
  rw [show (0 : Int) = ((0 : Nat) : Int) from rfl, idx_get, e]
  simp only [Option.bind_some, pkt]
  suffices hh : To (loopE _ _) (fun r => r = missL R N) by
    obtain ⟨r, e, rfl⟩ := hh
    exact bind_eq e rfl
  refine To.loop (fun m st => ∃ j : Nat, st = (missL R j, (j : Int)) ∧ j + m = N) (n := N) ⟨0, rfl, by omega⟩ fun m st ⟨j, hst, hj⟩ => ?_
  subst hst
  cases m with
  | zero =>
    obtain rfl : j = N := by omega
    rw [dec_f (by omega)]
    exact .ret (Turn.end_ rfl)
  | succ m =>
    have hs : missL R (j + 1) = bif !R.testBit j then missL R j ++ [(j : Int)] else missL R j := by
      unfold missL
      rw [List.range_succ, List.filter_append, List.map_append]
      cases hb : R.testBit j <;> simp [hb]
    have hlen : (missL R j).length ≤ j := by
      unfold missL
      rw [List.length_map]
      exact Nat.le_trans (List.length_filter_le _ _) (by simp)
    rw [dec_t (show (j : Int) < (N : Int) by omega)]
    simp only [cond_true, has_part hN hR (show j < 9 by omega), Option.bind_some, lim1 (show (missL R j).length ≤ 100000000 by omega)]
    rw [w64_of (x := (j : Int) + 1) (by omega) (by omega)]
    cases hb : R.testBit j with
    | true => rw [hb] at hs; exact .ret (Turn.on m (by omega) ⟨j + 1, by rw [hs]; rfl, by omega⟩)
    | false => rw [hb] at hs; exact .ret (Turn.on m (by omega) ⟨j + 1, by rw [hs]; rfl, by omega⟩)
theorem sigL_succ (j : Nat) : sigL (j + 1) = sigL j ++ sg j := by unfold sigL; rw [List.range_succ, List.flatMap_append]; simp
theorem sigL_len (N : Nat) : (sigL N).length = 2 * N := by
  induction N with
  | zero => rfl
  | succ j ih => rw [sigL_succ, List.length_append, ih]; show 2 * j + 2 = _; omega
theorem i_join {N R : Nat} (h1 : 1 ≤ N) (hN : N ≤ 9) (hR : R < 2 ^ N) : i_JoinMessage (gotL N R) 7 = some (bif decide ((bitsL R).length = N) then (sigL N, true) else ([], false)) := by
  have hgl : (gotL N R).length = (bitsL R).length := by unfold gotL; rw [List.length_map, bitsL_len]
  unfold i_JoinMessage
  rw [i_of hN hR]
  simp only [Option.bind_some]
  by_cases h0 : 0 < (gotL N R).length
  · rw [dec_t (show 0 < ((gotL N R).length : Int) by omega)]
    simp only [Bool.not_true, cond_false, i_miss hN hR h0, Option.bind_some, miss_of hN hR]
    by_cases hf : (bitsL R).length = N
    · rw [dec_t hf]
      simp only [Bool.not_true, cond_false, cond_true]
      obtain ⟨p, hp, _, e⟩ := gotL_at h0
      rw [show (0 : Int) = ((0 : Nat) : Int) from rfl, idx_get, e]
      simp only [Option.bind_some, pkt]
      suffices hh : To (loopE _ _) (fun r => r = sigL N) by
        obtain ⟨r, e, rfl⟩ := hh
        exact bind_eq e rfl
      refine To.loop (fun m st => ∃ j : Nat, st = (sigL j, (j : Int)) ∧ j + m = N) (n := N) ⟨0, rfl, by omega⟩ fun m st ⟨j, hst, hj⟩ => ?_
      subst hst
      cases m with
      | zero =>
        obtain rfl : j = N := by omega
        rw [dec_f (by omega)]
        exact .ret (Turn.end_ rfl)
      | succ m =>
        obtain ⟨i, e1, e2⟩ := at_part hN hR (show j < 9 by omega) (all_of hN hR hf (show j < N by omega))
        rw [dec_t (show (j : Int) < (N : Int) by omega)]
        simp only [cond_true, e1, Option.bind_some, idx_get, e2]
        rw [dec_t (show (sigL j).length + (pkt N j).2.2.2.1.length ≤ lim by rw [sigL_len]; show 2 * j + 2 ≤ lim; unfold lim; omega), w64_of (x := (j : Int) + 1) (by omega) (by omega)]
        exact .ret (Turn.on m (by omega) ⟨j + 1, by rw [sigL_succ]; rfl, by omega⟩)
    · rw [dec_f hf]
      rfl
  · rw [dec_f (show ¬ 0 < ((gotL N R).length : Int) by omega), dec_f (show ¬ (bitsL R).length = N by omega)]
    rfl
end Go.Proofs.YtffmiefhnbkcbaaGreat.Sh
namespace Go.Proofs.YtffmiefhnbkcbaaGreat.Sh
open Go Go.Ab Go.Proofs
set_option maxRecDepth 100000
def truthL (N : Nat) : List GPacket := (List.range N).map (pkt N)
theorem truthL_len (N : Nat) : (truthL N).length = N := by unfold truthL; simp
theorem truthL_at {N i : Nat} (hi : i < N) : (truthL N)[i]? = some (pkt N i) := by
  unfold truthL
  rw [List.getElem?_map, List.getElem?_range hi]
  rfl
theorem small_desk (N a : Nat) : Small (deskV N a) := ⟨by show 1 ≤ _; omega, fun x hx => by
  rw [List.mem_singleton.1 hx]
  have := bits_len a
  show (bitsL a).length ≤ _
  omega⟩
section
variable {N : Nat} (h1 : 1 ≤ N) (hN : N ≤ 9)
include h1 hN
theorem sig_in : ((sigL N).all fun x => inB x 1 60) = true ∧ ∀ p, p < N → sub (sigL N) (2 * (p : Int)) (2 * (p : Int) + 2) = some (sg p) := by
  have h := r_all enum_sig (show N < 10 by omega)
  simp only [Bool.and_eq_true] at h
  exact ⟨h.1.2, fun p hp => of_decide_eq_true (r_all h.2 hp)⟩
theorem parts_of : w64 (Int.tdiv (w64 ((w64 (((sigL N).length : Int) + 2)) - 1)) 2) = (N : Int) := by
  rw [sigL_len, w64_of (x := ((2 * N : Nat) : Int) + 2) (by omega) (by omega), w64_of (x := ((2 * N : Nat) : Int) + 2 - 1) (by omega) (by omega), Int.tdiv_eq_ediv_of_nonneg (by omega), w64_of (by omega) (by omega)]
  omega
theorem i_split : i_SplitMessage 7 (sigL N) 2 = some (truthL N, true) := by
  obtain ⟨ha, hs⟩ := sig_in h1 hN
  have hl := sigL_len N
  unfold i_SplitMessage
  rw [within_eq, within_eq, i_all (by unfold maxLen; omega), ha, parts_of h1 hN, show inB 7 1 999 = true from rfl, show inB 2 1 8 = true from rfl, dec_f (show ¬ ((sigL N).length : Int) = 0 by omega), dec_f (show ¬ (2 : Int) = 0 by decide), dec_f (show ¬ 9 < (N : Int) by omega)]
  simp only [Option.bind_some, Bool.not_true, Bool.not_false, cond_false, cond_true]
  suffices hh : To (loopE _ _) (fun r => r = truthL N) by
    obtain ⟨r, e, rfl⟩ := hh
    exact bind_eq e rfl
  refine To.loop (fun m st => ∃ j : Nat, st = ((List.range j).map (pkt N), (j : Int)) ∧ j + m = N) (n := N) ⟨0, rfl, by omega⟩ fun m st ⟨j, hst, hj⟩ => ?_
  subst hst
  cases m with
  | zero =>
    obtain rfl : j = N := by omega
    rw [dec_f (by omega)]
    exact .ret (Turn.end_ rfl)
  | succ m =>
    rw [dec_t (show (j : Int) < (N : Int) by omega)]
    simp only [cond_true]
    have e1 : w64 ((j : Int) * 2) = 2 * (j : Int) := by rw [w64_of (by omega) (by omega)]; omega
    have e2 : w64 ((j : Int) + 1) = ((j + 1 : Nat) : Int) := w64_of (by omega) (by omega)
    have e3 : w64 (((j + 1 : Nat) : Int) * 2) = 2 * (j : Int) + 2 := by rw [w64_of (by omega) (by omega)]; omega
    have e4 : (bif decide (2 * (j : Int) + 2 < ((sigL N).length : Int)) then 2 * (j : Int) + 2 else ((sigL N).length : Int)) = 2 * (j : Int) + 2 := by
      by_cases h : 2 * (j : Int) + 2 < ((sigL N).length : Int)
      · rw [dec_t h]; rfl
      · rw [dec_f h]; show ((sigL N).length : Int) = _; omega
    rw [e1, e2, e3, e4, hs j (by omega)]
    simp only [Option.bind_some, cloneInt (show (sg j).length ≤ 1048576 by show 2 ≤ 1048576; omega)]
    refine .guard (by unfold lim; simp only [List.length_map, List.length_range, List.length_cons, List.length_nil]; omega) (.ret (Turn.on m (by omega) ⟨j + 1, ?_, by omega⟩))
    rw [List.range_succ, List.map_append]
    rfl
theorem s_split : s_SplitMessage 7 (sigL N) 2 = some (truthL N, true) := by
  obtain ⟨ha, hs⟩ := sig_in h1 hN
  have hl := sigL_len N
  unfold s_SplitMessage s_pkMessage s_pkSplit
  rw [l1In_eq, l1In_eq, l1In_eq, s_all (by unfold maxLen; omega), ha, parts_of h1 hN, show inB 7 1 999 = true from rfl, show inB 2 1 8 = true from rfl, inB_iff.2 (show 1 ≤ ((sigL N).length : Int) ∧ ((sigL N).length : Int) ≤ w64 (2 * 9) by rw [w64_of (by omega) (by omega)]; omega), dec_f (show ¬ (2 : Int) = 0 by decide)]
  simp only [Option.bind_some, Bool.not_true, Bool.not_false, cond_false, cond_true]
  suffices hh : To (loopE _ _) (fun r => r = truthL N) by
    obtain ⟨r, e, rfl⟩ := hh
    refine bind_eq (bind_eq e rfl) rfl
  refine To.loop (fun m st => ∃ j : Nat, st = ((List.range j).map (pkt N), (j : Int)) ∧ j + m = N) (n := N) ⟨0, rfl, by omega⟩ fun m st ⟨j, hst, hj⟩ => ?_
  subst hst
  cases m with
  | zero =>
    obtain rfl : j = N := by omega
    rw [dec_f (by omega)]
    exact .ret (Turn.end_ rfl)
  | succ m =>
    rw [dec_t (show (j : Int) < (N : Int) by omega)]
    simp only [cond_true]
    have e1 : w64 ((j : Int) * 2) = 2 * (j : Int) := by rw [w64_of (by omega) (by omega)]; omega
    have e2 : w64 ((j : Int) + 1) = ((j + 1 : Nat) : Int) := w64_of (by omega) (by omega)
    have e3 : w64 (((j + 1 : Nat) : Int) * 2) = 2 * (j : Int) + 2 := by rw [w64_of (by omega) (by omega)]; omega
    have e4 : s_l1Least ((sigL N).length : Int) (2 * (j : Int) + 2) = some (2 * (j : Int) + 2) := by
      unfold s_l1Least
      rw [dec_f (by omega)]
      rfl
    rw [e1, e2, e3, e4]
    simp only [Option.bind_some, hs j (by omega), ownInt (show (sg j).length ≤ 1048576 by show 2 ≤ 1048576; omega)]
    refine .guard (by unfold lim; simp only [List.length_map, List.length_range, List.length_cons, List.length_nil]; omega) (.ret (Turn.on m (by omega) ⟨j + 1, ?_, by omega⟩))
    rw [List.range_succ, List.map_append]
    rfl
theorem are_desk {a : Nat} (ha : a < 2 ^ N) : areTickets (deskV N a) = true := by
  have h := r_all enum_desk (show N < 10 by omega)
  rw [dec_f (show ¬ N = 0 by omega), Bool.false_or] at h
  exact r_all h ha
theorem i_new : i_AcceptMessage [] 7 (N : Int) = some (deskV N 0, true) := by
  have h := r_all enum_new (show N < 10 by omega)
  rw [dec_f (show ¬ N = 0 by omega), Bool.false_or] at h
  have h := of_decide_eq_true h
  have hs : Small [] := ⟨by simp, fun x hx => by cases hx⟩
  unfold i_AcceptMessage
  rw [i_good (small_fine hs), show areTickets [] = true from rfl]
  simp only [Option.bind_some, Bool.not_true, cond_false, i_accept hs rfl 7 (N : Int), h]
theorem i_note {a p : Nat} (ha : a < 2 ^ N) (hp : p < N) (hb : a.testBit p = false) : i_NoteArrival (deskV N a) 7 (p : Int) = some (deskV N (a ||| 2 ^ p), true) := by
  have h := r_all (r_all (r_all enum_note (show N < 10 by omega)) ha) hp
  rw [hb, Bool.false_or] at h
  have h := of_decide_eq_true h
  have hs := small_desk N a
  unfold i_NoteArrival
  rw [i_good (small_fine hs), are_desk h1 hN ha]
  simp only [Option.bind_some, Bool.not_true, cond_false, i_noted hs (are_desk h1 hN ha) 7 (p : Int), h]
theorem i_stand {a : Nat} (ha : a < 2 ^ N) : i_StandingOf (deskV N a) 7 = some ((bif decide ((bitsL a).length = N) then 1 else 0), (N : Int) - ((bitsL a).length : Int), true) := by
  have hs := small_desk N a
  have hb := bits_len a
  unfold i_StandingOf
  rw [i_find (small_fine hs).len, i_good (small_fine hs), are_desk h1 hN ha]
  have hf : firstAt (fun x : GTicket => decide (x.1 = 7)) (deskV N a) 0 = some 0 := rfl
  have e : (deskV N a)[0]? = some (7, (N : Int), bitsL a, (bif decide ((bitsL a).length = N) then 1 else 0), ()) := rfl
  rw [hf]
  simp only [Option.bind_some, Bool.not_true, cond_false, idx_get, e]
  rw [dec_f (show ¬ ((0 : Nat) : Int) < 0 by omega), w64_of (x := (N : Int) - ((bitsL a).length : Int)) (by omega) (by omega)]
  rfl
end
theorem ent_log {R : Nat} : FineE (logR R) := ⟨by unfold logR; rw [List.length_map]; have := bitsN_len R; omega, fun e he => by
  unfold logR at he
  obtain ⟨p, _, rfl⟩ := List.mem_map.1 he
  exact ⟨by show 2 ≤ _; omega, by show 2 ≤ _; omega⟩⟩
theorem ent_bent {R i : Nat} : FineE (bentR R i) := ⟨by unfold bentR; rw [List.length_set]; exact ent_log.len, fun e he => by
  unfold bentR at he
  rcases List.mem_or_eq_of_mem_set he with he | rfl
  · exact ent_log.ent e he
  · exact ⟨by show 2 ≤ _; omega, by show 2 ≤ _; omega⟩⟩
theorem fine_same (R : Nat) : FineL [logR R, logR R, logR R] := ⟨by simp, fun l hl => by
  simp only [List.mem_cons, List.not_mem_nil, or_false, or_self] at hl
  rw [hl]; exact ent_log⟩
theorem fine_bent (R i : Nat) : FineL [logR R, bentR R i, logR R] := ⟨by simp, fun l hl => by
  simp only [List.mem_cons, List.not_mem_nil, or_false] at hl
  rcases hl with rfl | rfl | rfl
  · exact ent_log
  · exact ent_bent
  · exact ent_log⟩
theorem true_same {R : Nat} (hR : R < 512) : i_IsTrueLine [logR R, logR R, logR R] = some (true, true) := by
  have h := r_all enum_line hR
  rw [Bool.and_eq_true, decide_eq_true_eq] at h
  rw [i_true (fine_same R)]
  unfold trueV
  rw [h.1, h.2]
  rfl
theorem bent_facts {R i : Nat} (hR : R < 512) (hi : i < (bitsN R).length) : areLogs [logR R, bentR R i, logR R] = true ∧ i_lineFaults [logR R, bentR R i, logR R] = some [[7, (((bitsN R).getD i 0 : Nat) : Int), 5, 1], [7, (((bitsN R).getD i 0 : Nat) : Int), 2, 1]] := by
  have h := r_all (r_all enum_bent hR) hi
  rw [Bool.and_eq_true, decide_eq_true_eq] at h
  exact ⟨h.1, by rw [i_line (sm_of h.1), h.2]⟩
theorem bent_first {R i : Nat} (hR : R < 512) (hi : i < (bitsN R).length) : i_FirstFault [logR R, bentR R i, logR R] 7 (((bitsN R).getD i 0 : Nat) : Int) = some (5, 1, true) := by
  obtain ⟨h1, h2⟩ := bent_facts hR hi
  have hp : (bitsN R).getD i 0 < 9 := by
    rw [List.getD_eq_getElem?_getD, List.getElem?_eq_getElem hi]
    have := List.mem_filter.1 (show (bitsN R)[i] ∈ (List.range 9).filter _ from List.getElem_mem hi)
    exact List.mem_range.1 this.1
  generalize (bitsN R).getD i 0 = p at *
  unfold i_FirstFault i_partAsked
  rw [i_logs (fine_bent R i), h1, within_eq, within_eq, show inB 7 1 999 = true from rfl, inB_iff.2 (show 0 ≤ (p : Int) ∧ (p : Int) ≤ 8 by omega)]
  simp only [Option.bind_some, cond_true, Bool.not_true, cond_false, h2]
  rw [loopE_done (b := Sum.inr (5, 1, true))]
  · rfl
  · simp only [idx]
    simp
theorem bent_all {R i : Nat} (hR : R < 512) (hi : i < (bitsN R).length) : i_LineFaults [logR R, bentR R i, logR R] = some ([[7, (((bitsN R).getD i 0 : Nat) : Int), 5, 1], [7, (((bitsN R).getD i 0 : Nat) : Int), 2, 1]], true) := by
  obtain ⟨h1, h2⟩ := bent_facts hR hi
  unfold i_LineFaults
  rw [i_logs (fine_bent R i), h1]
  simp only [Option.bind_some, Bool.not_true, cond_false, h2]
theorem qHas_eq {l : List Int} (h : l.length ≤ 1048576) (n : Int) : l_qHas l n = some (l.any fun x => decide (x = n)) := has_eq h n
end Go.Proofs.YtffmiefhnbkcbaaGreat.Sh
namespace Go.Proofs.YtffmiefhnbkcbaaGreat.Sh
open Go Go.Ab Go.Proofs
set_option maxRecDepth 100000
theorem enum_mod : ((List.range 512).all fun R => (List.range 9).all fun j => decide (R % 2 ^ (j + 1) = bif R.testBit j then (R % 2 ^ j) ||| 2 ^ j else R % 2 ^ j) && !((R % 2 ^ j).testBit j)) = true := by kernel_rfl
theorem enum_pre : ((List.range 10).all fun N => (List.range (2 ^ N)).all fun R => decide ((List.range N).filter (fun i => R.testBit i) = bitsN R)) = true := by kernel_rfl
def preN (R j : Nat) : List Nat := (List.range j).filter fun i => R.testBit i
theorem preN_len (R j : Nat) : (preN R j).length ≤ j := Nat.le_trans (List.length_filter_le _ _) (by simp)
theorem preN_succ (R j : Nat) : preN R (j + 1) = bif R.testBit j then preN R j ++ [j] else preN R j := by
  unfold preN
  rw [List.range_succ, List.filter_append]
  cases hb : R.testBit j <;> simp [hb]
theorem pre_all {N R : Nat} (hN : N ≤ 9) (hR : R < 2 ^ N) : preN R N = bitsN R := of_decide_eq_true (r_all (r_all enum_pre (show N < 10 by omega)) hR)
theorem mod_step2 {R j : Nat} (hR : R < 512) (hj : j < 9) : R % 2 ^ (j + 1) = (bif R.testBit j then (R % 2 ^ j) ||| 2 ^ j else R % 2 ^ j) ∧ (R % 2 ^ j).testBit j = false := by
  have h := r_all (r_all enum_mod hR) hj
  rw [Bool.and_eq_true, decide_eq_true_eq] at h
  refine ⟨h.1, ?_⟩
  have := h.2
  cases hb : (R % 2 ^ j).testBit j with
  | false => rfl
  | true => rw [hb] at this; cases this
theorem top_end {more : List Int} (hm : ∀ b ∈ more, 0 ≤ b ∧ b ≤ 255) (hl : more.length ≤ 1048576) : To ((s_DrawIsTrueLine more).bind fun r56 =>
    (i_IsTrueLine r56).bind fun r57 =>
    (s_IsTrueLine r56).bind fun r58 =>
    (bif (r57.2 == r58.2) then
        some (r57.1 == r58.1)
      else
        some false).bind fun c59 =>
    some c59) (fun r => r = true) := by
  refine (t_true hm hl).bind fun L hL => ?_
  rw [i_true (fine_draw hL), s_true (fine_draw hL)]
  simp only [Option.bind_some, beq_self_eq_true, cond_true]
  exact .ret rfl
theorem top_bent {more : List Int} (hm : ∀ b ∈ more, 0 ≤ b ∧ b ≤ 255) (hl : more.length ≤ 1048576) {R : Nat} (hR : R < 512) (tl : Option Bool) (htl : To tl (fun r => r = true)) : To (bif (decide (0 < ((logR R).length : Int))) then
                    bif decide (List.length (logR R) ≤ lim) then
                      bif (!decide (((logR R).length : Int) = 0)) then
                        bif decide (0 ≤ (Int.tmod (more.length : Int) ((logR R).length : Int))) && decide ((Int.tmod (more.length : Int) ((logR R).length : Int)) < ((logR R).length : Int)) then
                          ((logR R)[(Int.toNat (Int.tmod (more.length : Int) ((logR R).length : Int)))]?).bind fun e42 =>
                          bif decide (List.length e42.2.2.2.1 ≤ lim) then
                            bif decide (0 ≤ 0) && decide (0 < (e42.2.2.2.1.length : Int)) then
                              (e42.2.2.2.1[(Int.toNat 0)]?).bind fun e43 =>
                              bif decide (0 ≤ 0) && decide (0 < (e42.2.2.2.1.length : Int)) then
                                (bif decide (0 ≤ 0) && decide (0 < ((e42.2.2.2.1.set (Int.toNat 0) (w64 ((w64 (60 - e43)) + 1))).length : Int)) then
                                    ((e42.2.2.2.1.set (Int.toNat 0) (w64 ((w64 (60 - e43)) + 1)))[(Int.toNat 0)]?).bind fun e44 =>
                                    bif decide (0 ≤ (Int.tmod (more.length : Int) ((logR R).length : Int))) && decide ((Int.tmod (more.length : Int) ((logR R).length : Int)) < ((logR R).length : Int)) then
                                      ((logR R)[(Int.toNat (Int.tmod (more.length : Int) ((logR R).length : Int)))]?).bind fun e45 =>
                                      (idx e45.2.2.2.1 0).bind fun e46 =>
                                      bif (decide (e44 = e46)) then
                                        bif decide (0 ≤ 0) && decide (0 < ((e42.2.2.2.1.set (Int.toNat 0) (w64 ((w64 (60 - e43)) + 1))).length : Int)) then
                                          some ((logR R), ((e42.2.2.2.1.set (Int.toNat 0) (w64 ((w64 (60 - e43)) + 1))).set (Int.toNat 0) 61))
                                        else
                                          none
                                      else
                                        some ((logR R), (e42.2.2.2.1.set (Int.toNat 0) (w64 ((w64 (60 - e43)) + 1))))
                                    else
                                      none
                                  else
                                    none).bind fun j47 =>
                                bif decide (0 ≤ (Int.tmod (more.length : Int) ((logR R).length : Int))) && decide ((Int.tmod (more.length : Int) ((logR R).length : Int)) < (j47.1.length : Int)) then
                                  (j47.1[(Int.toNat (Int.tmod (more.length : Int) ((logR R).length : Int)))]?).bind fun e48 =>
                                  (idx (j47.1.set (Int.toNat (Int.tmod (more.length : Int) ((logR R).length : Int))) (e48.1, e48.2.1, e48.2.2.1, e48.2.2.2.1, j47.2, ())) (Int.tmod (more.length : Int) ((logR R).length : Int))).bind fun e49 =>
                                  (i_FirstFault [(logR R), (j47.1.set (Int.toNat (Int.tmod (more.length : Int) ((logR R).length : Int))) (e48.1, e48.2.1, e48.2.2.1, e48.2.2.2.1, j47.2, ())), (logR R)] 7 e49.2.2.1).bind fun r50 =>
                                  (i_LineFaults [(logR R), (j47.1.set (Int.toNat (Int.tmod (more.length : Int) ((logR R).length : Int))) (e48.1, e48.2.1, e48.2.2.1, e48.2.2.2.1, j47.2, ())), (logR R)]).bind fun r51 =>
                                  (bif (!r50.2.2) then
                                      some true
                                    else
                                      some (!decide (r50.1 = 5))).bind fun c52 =>
                                  (bif c52 then
                                      some true
                                    else
                                      some (!decide (r50.2.1 = 1))).bind fun c53 =>
                                  (bif c53 then
                                      some true
                                    else
                                      some (!r51.2)).bind fun c54 =>
                                  (bif c54 then
                                      some true
                                    else
                                      some (!decide ((r51.1.length : Int) = 2))).bind fun c55 =>
                                  bif c55 then
                                    some false
                                  else tl
                                else
                                  none
                              else
                                none
                            else
                              none
                          else
                            none
                        else
                          none
                      else
                        none
                    else
                      none
                  else tl) (fun r => r = true) := by
  have hll : (logR R).length = (bitsN R).length := by unfold logR; rw [List.length_map]
  have h9 := bitsN_len R
  refine To.ite (fun h0 => ?_) fun _ => htl
  have hi : more.length % (bitsN R).length < (bitsN R).length := Nat.mod_lt _ (by omega)
  have ei : Int.tmod (more.length : Int) ((logR R).length : Int) = ((more.length % (bitsN R).length : Nat) : Int) := by
    rw [hll, Int.tmod_eq_emod_of_nonneg (by omega)]; rfl
  rw [ei]
  generalize more.length % (bitsN R).length = i at hi
  have hp : (bitsN R)[i]? = some ((bitsN R).getD i 0) := by rw [List.getD_eq_getElem?_getD, List.getElem?_eq_getElem hi]; rfl
  have f1 := bent_first hR hi
  have f2 := bent_all hR hi
  have hp9 : (bitsN R).getD i 0 < 9 := by
    have := List.mem_filter.1 (show (bitsN R).getD i 0 ∈ (List.range 9).filter _ from List.mem_of_getElem? hp)
    exact List.mem_range.1 this.1
  have hb : bentR R i = (logR R).set i (bentP ((bitsN R).getD i 0)) := rfl
  rw [hb] at f1 f2
  have he : (logR R)[i]? = some (entP ((bitsN R).getD i 0)) := by unfold logR; rw [List.getElem?_map, hp]; rfl
  generalize (bitsN R).getD i 0 = p at *
  have hset : ((logR R).set i (bentP p))[i]? = some (bentP p) := by rw [List.getElem?_set_self (by omega)]
  have w1 : w64 ((w64 (60 - (1 + (p : Int)))) + 1) = 60 - (p : Int) := by rw [w64_of (x := 60 - (1 + (p : Int))) (by omega) (by omega), w64_of (by omega) (by omega)]; omega
  have s1 : (sg p)[(Int.toNat 0)]? = some (1 + (p : Int)) := rfl
  have s2 : (sg p).set (Int.toNat 0) (60 - (p : Int)) = [60 - (p : Int), 60 - (p : Int)] := rfl
  have s3 : ([60 - (p : Int), 60 - (p : Int)] : List Int)[(Int.toNat 0)]? = some (60 - (p : Int)) := rfl
  have s4 : idx (sg p) 0 = some (1 + (p : Int)) := rfl
  refine .guard (by unfold lim; omega) ?_
  rw [dec_f (show ¬ ((logR R).length : Int) = 0 by omega)]
  simp only [Bool.not_false, cond_true]
  refine .guard2 (by omega) (by omega) ?_
  simp only [Int.toNat_natCast, he, Option.bind_some, entP]
  refine .guard (by show 2 ≤ lim; unfold lim; omega) (.guard2 (by omega) (by show (0 : Int) < 2; omega) ?_)
  simp only [s1, Option.bind_some]
  refine .guard2 (by omega) (by show (0 : Int) < 2; omega) ?_
  rw [w1, s2, s3]
  simp only [Option.bind_some, s4]
  rw [dec_t (show (0 : Nat) ≤ 0 by omega), dec_t (show (0 : Int) < (([60 - (p : Int), 60 - (p : Int)] : List Int).length : Int) by show (0 : Int) < 2; omega), dec_t (show (0 : Int) ≤ (i : Int) by omega), dec_t (show (i : Int) < ((logR R).length : Int) by omega), dec_f (show ¬ 60 - (p : Int) = 1 + (p : Int) by omega)]
  simp only [Bool.and_self, cond_true, cond_false, Option.bind_some, he, entP]
  rw [dec_t (show (i : Int) < ((logR R).length : Int) by omega)]
  rw [show (((p : Int), (7 : Int), (p : Int), sg p, [60 - (p : Int), 60 - (p : Int)], ()) : GEntry) = bentP p from rfl]
  simp only [Bool.and_self, cond_true, Option.bind_some, idx_get, hset]
  rw [show (bentP p).2.2.1 = (p : Int) from rfl, f1, f2]
  exact htl
theorem plain_Top (code more : List Int) (hc : ∀ b ∈ code, 0 ≤ b ∧ b ≤ 255) (hm : ∀ b ∈ more, 0 ≤ b ∧ b ≤ 255) (l1 : code.length ≤ 140737488355328) (l2 : more.length ≤ 140737488355328) : l_FnTop code more = some true := by
  suffices h : To (l_FnTop code more) (fun r => r = true) by
    obtain ⟨r, e, rfl⟩ := h
    exact e
  unfold l_FnTop
  rw [w64_of (by omega) (by omega)]
  refine To.ite (fun _ => .ret rfl) fun hlen => ?_
  have hend := top_end hm (show more.length ≤ 1048576 by omega)
  refine (t_stands hc (show code.length ≤ 1048576 by omega)).bind ?_
  rintro ⟨n, w, script, k⟩ hs
  simp only at hs
  rcases arr_eq n w (show script.length ≤ 1048576 by omega) k with ⟨e1, e2⟩ | ⟨N, R, rfl, h1, hN, hR, e1, e2⟩
  · simp only [e1, e2, Option.bind_some, bne_self_eq_false, cond_false, qInts_eq (show ([] : List Int).length ≤ 1048576 by simp), decide_true, Bool.not_true]
    exact hend
  have hR5 := pow9 hN hR
  have hbl := bits_len R
  simp only [e1, e2, Option.bind_some, bne_self_eq_false, cond_false, qInts_eq (show (bitsL R).length ≤ 1048576 by omega), decide_true, Bool.not_true, cond_true]
  refine To.bind (Q := fun o => o = sigL N) ?_ fun o ho => ?_
  · refine To.loop (fun m st => ∃ j : Nat, st = (sigL j, (j : Int)) ∧ j + m = N) (n := N) ⟨0, rfl, by omega⟩ fun m st ⟨j, hst, hj⟩ => ?_
    subst hst
    simp only
    refine To.ite (fun h => ?_) fun h => .ret (Turn.end_ (by rw [show j = N by omega]))
    refine .guard (by rw [sigL_len]; show 2 * j + 2 ≤ lim; unfold lim; omega) (.ret (Turn.on (m - 1) (by omega) ⟨j + 1, ?_, by omega⟩))
    rw [sigL_succ, w64_of (x := 1 + (j : Int)) (by omega) (by omega), w64_of (x := 60 - (j : Int)) (by omega) (by omega), w64_of (x := (j : Int) + 1) (by omega) (by omega)]
    rfl
  subst ho
  simp only [i_split h1 hN, s_split h1 hN, Option.bind_some, Bool.not_true, cond_false, decide_true, truthL_len, i_new h1 hN]
  refine To.bind (Q := fun o => o = Sum.inl (sigL N, deskV N R, gotL N R, logR R)) ?_ fun o ho => ?_
  · refine To.loop (fun m st => ∃ j : Nat, st = (sigL N, truthL N, deskV N (R % 2 ^ j), (preN R j).map (pkt N), (preN R j).map entP, truthL N, (j : Int)) ∧ j + m = N) (n := N) ⟨0, by rw [show R % 2 ^ 0 = 0 from Nat.mod_one R]; rfl, by omega⟩ fun m st ⟨j, hst, hj⟩ => ?_
    subst hst
    simp only
    refine To.ite (fun h => ?_) fun h => .ret (Turn.end_ ?_)
    · have hjN : j < N := by omega
      have hpl := preN_len R j
      obtain ⟨m1, m2⟩ := mod_step2 hR5 (show j < 9 by omega)
      have hpre := preN_succ R j
      have hw : w64 ((j : Int) + 1) = ((j + 1 : Nat) : Int) := w64_of (by omega) (by omega)
      have hlt : R % 2 ^ j < 2 ^ N := Nat.lt_of_le_of_lt (Nat.mod_le _ _) hR
      simp only [idx_get, truthL_at hjN, Option.bind_some, truthL_len, Int.toNat_natCast, dec_t (show (0 : Int) ≤ (j : Int) by omega), dec_t h, Bool.and_self, cond_true, decide_true, Bool.not_true, cond_false, qInts_eq (show (pkt N j).2.2.2.1.length ≤ 1048576 by show 2 ≤ _; omega), qHas_eq (show (bitsL R).length ≤ 1048576 by omega), b_has hR5 (show j < 9 by omega)]
      cases hb : R.testBit j with
      | false =>
        rw [hb] at m1 hpre
        simp only [Bool.not_false, cond_true]
        refine .ret (Turn.on (m - 1) (by omega) ⟨j + 1, ?_, by omega⟩)
        rw [m1, hpre, hw]
        rfl
      | true =>
        rw [hb] at m1 hpre
        simp only [Bool.not_true, cond_false]
        refine .guard (by unfold lim; simp only [List.length_map, List.length_cons, List.length_nil]; omega) (.guard (by unfold lim; simp only [List.length_map, List.length_cons, List.length_nil]; omega) ?_)
        simp only [i_note h1 hN hlt hjN m2, Option.bind_some, Bool.not_true, cond_false]
        refine .ret (Turn.on (m - 1) (by omega) ⟨j + 1, ?_, by omega⟩)
        rw [m1, hpre, hw, cond_true, cond_true, List.map_append, List.map_append]
        rfl
    · obtain rfl : j = N := by omega
      rw [pre_all hN hR, Nat.mod_eq_of_lt hR]
      rfl
  subst ho
  simp only [i_stand h1 hN hR, i_join h1 hN hR, Option.bind_some, Bool.not_true, cond_false]
  rw [w64_of (x := (N : Int) - ((bitsL R).length : Int)) (by omega) (by omega)]
  simp only [decide_true, Bool.not_true, Option.bind_some, cond_false, true_same hR5]
  have hcast : decide (((bitsL R).length : Int) = (N : Int)) = decide ((bitsL R).length = N) := by
    by_cases h : (bitsL R).length = N
    · rw [dec_t h, dec_t (by omega)]
    · rw [dec_f h, dec_f (by omega)]
  rw [hcast]
  cases hf : decide ((bitsL R).length = N) with
  | true =>
    simp only [cond_true, decide_true, bne_self_eq_false, Option.bind_some, cond_false, qInts_eq (show (sigL N).length ≤ 1048576 by rw [sigL_len]; omega), Bool.not_true]
    exact top_bent hm (by omega) hR5 _ hend
  | false =>
    simp only [cond_false, show decide ((0 : Int) = 1) = false from rfl, bne_self_eq_false, Option.bind_some, Bool.not_true]
    exact top_bent hm (by omega) hR5 _ hend
end Go.Proofs.YtffmiefhnbkcbaaGreat.Sh
