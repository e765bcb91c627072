/-
  The desk is cleared, in plain Lean.
-/
import Derived.Test.YteocijadidgagaaKPlain2
namespace Go.Proofs.Yteocijadidgagaa.Sh
open Go Go.Ab Go.Proofs

def openT (l : List GTicket) : List GTicket := l.filter fun x => decide (x.2.2.2.1 = 0)
theorem openT_small {l : List GTicket} (h : Small l) : Small (openT l) := by
  have := List.length_filter_le (fun x : GTicket => decide (x.2.2.2.1 = 0)) l
  have hl := h.len
  exact ⟨by unfold openT; omega, fun x hx => h.got x (List.mem_filter.1 hx).1⟩

theorem s_clear {l : List GTicket} (h : Small l) : s_ClearDesk l = some (bif areTickets l then (openT l, true) else ([], false)) := by
  unfold s_ClearDesk
  have hl := h.len
  refine bind_eq (s_good (small_fine h)) ?_
  cases areTickets l with
  | false => rfl
  | true =>
    simp only [Bool.not_true, cond_false, cond_true]
    refine bind_eq (ownT h) ?_
    obtain ⟨y, h1, h2⟩ := one_loop (n := l.length) (f := (fun (st5 : (List GTicket) × (List GTicket) × Int) => (
        bif (decide (st5.2.2 < (l.length : Int))) then
          (idx st5.2.1 st5.2.2).bind fun e6 =>
          bif (decide (e6.2.2.2.1 = 0)) then
            bif decide (List.length st5.1 + List.length [e6] ≤ lim) then
              some (.inl ((st5.1 ++ [e6]), st5.2.1, (w64 (st5.2.2 + 1))))
            else
              none
          else
            some (.inl (st5.1, st5.2.1, (w64 (st5.2.2 + 1))))
        else
          some (.inr st5.1) : Option (((List GTicket) × (List GTicket) × Int) ⊕ ((List GTicket))))))
      (fun i a => a = (openT (l.take i), l, (i : Int))) (fun y => y = openT l)
      (fun i a hi ha => by
        subst ha
        left
        have hx : l[i]? = some (l[i]'hi) := by simp [hi]
        have hle := List.length_filter_le (fun x : GTicket => decide (x.2.2.2.1 = 0)) (l.take i)
        rw [List.length_take] at hle
        have ht : openT (l.take (i + 1)) = openT (l.take i) ++ (bif decide ((l[i]'hi).2.2.2.1 = 0) then [l[i]'hi] else []) := by
          unfold openT
          rw [List.take_add_one, hx, List.filter_append]
          congr 1
        refine ⟨_, ?_, rfl⟩
        simp only [at_lt hi, cond_true, idx_get, hx, Option.bind_some, w64_of (x := (i : Int) + 1) (by omega) (by omega)]
        rw [ht]
        cases hd : decide ((l[i]'hi).2.2.2.1 = 0) with
        | true =>
          rw [lim_ok (by unfold openT; rw [List.length_singleton]; omega)]
          rfl
        | false => simp only [cond_false, List.append_nil]; rfl)
      (fun a ha => by
        subst ha
        exact ⟨openT l, by simp only [dec_f (by omega : ¬ (l.length : Int) < (l.length : Int)), cond_false, List.take_length], rfl⟩)
      l.length 0 ([], l, 0) (by omega) (by simp [openT])
    subst h2
    exact bind_eq h1 rfl

theorem i_clear {l : List GTicket} (h : Small l) : i_ClearDesk l = some (bif areTickets l then (openT l, true) else ([], false)) := by
  unfold i_ClearDesk
  refine bind_eq (i_good (small_fine h)) ?_
  cases hg : areTickets l with
  | false => rfl
  | true =>
    have h20 : (l.length : Int) ≤ 20 := by
      unfold areTickets at hg
      simp only [Bool.and_eq_true, decide_eq_true_eq] at hg
      exact hg.2
    simp only [Bool.not_true, cond_false, cond_true]
    refine bind_eq (cloneT h) ?_
    rw [dec_t (by omega : l.length ≤ 999999)]
    rfl

theorem clear_same {l : List GTicket} (h : Small l) : ∃ v b, s_ClearDesk l = some (v, b) ∧ i_ClearDesk l = some (v, b) ∧ Small v := by
  rw [s_clear h, i_clear h]
  cases areTickets l with
  | false => exact ⟨[], false, rfl, rfl, ⟨by simp, by simp⟩⟩
  | true => exact ⟨_, _, rfl, rfl, openT_small h⟩

/-- FnExactClearDesk -/
theorem plain_ClearDesk (l : List GTicket) (h : Fine l) : l_FnExactClearDesk l = some true := by
  unfold l_FnExactClearDesk
  obtain ⟨r, hr, h2⟩ := szTicketS h
  rw [hr]
  simp only [Option.bind_some]
  by_cases h3 : r < 0
  · rw [dec_t h3]; rfl
  rw [dec_f h3]
  have hs : Small l := h2.resolve_left h3
  obtain ⟨v, b, e1, e2, hv⟩ := clear_same hs
  simp only [toTicketS hs, e1, e2, eqTicketS (small_fine hv), eqTicketS h, Option.bind_some, cond_false, Bool.not_true, bne_self_eq_false, markT hs, dec_f (by omega : ¬ (1 + (total cntT l : Int)) < 0),
    markT hv, heldT hv, dec_f (by omega : ¬ (1 + (total cntT v : Int)) < 0), decide_true]
end Go.Proofs.Yteocijadidgagaa.Sh
