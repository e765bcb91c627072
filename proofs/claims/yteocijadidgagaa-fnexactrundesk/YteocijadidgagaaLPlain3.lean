/-
  A message is accepted, in plain Lean.
-/
import Derived.Test.YteocijadidgagaaLPlain2
namespace Go.Proofs.Yteocijadidgagaa.Sh
open Go Go.Ab Go.Proofs

/-- the first place whose number is not less -/
def placeT (l : List GTicket) (k : Int) : Nat := (l.takeWhile fun x => decide (x.1 < k)).length
theorem placeT_cons (x : GTicket) (l : List GTicket) (k : Int) : placeT (x :: l) k = bif decide (x.1 < k) then placeT l k + 1 else 0 := by
  unfold placeT
  rw [List.takeWhile_cons]
  cases decide (x.1 < k) <;> rfl
theorem placeT_le : ∀ (l : List GTicket) (k : Int), placeT l k ≤ l.length
  | [], _ => Nat.le_refl 0
  | x :: l, k => by
    rw [placeT_cons]
    have := placeT_le l k
    cases decide (x.1 < k) <;> simp only [cond_true, cond_false, List.length_cons] <;> omega
theorem placeT_at : ∀ (l : List GTicket) (k : Int) (x : GTicket), l[placeT l k]? = some x → ¬ x.1 < k
  | [], _, _, h => by simp at h
  | y :: l, k, x, h => by
    rw [placeT_cons] at h
    by_cases hy : y.1 < k
    · rw [dec_t hy] at h
      exact placeT_at l k x (by simpa using h)
    · rw [dec_f hy] at h
      simp only [cond_false, List.getElem?_cons_zero, Option.some.injEq] at h
      subst h
      exact hy
theorem placeT_lt : ∀ (l : List GTicket) (k : Int) (i : Nat) (x : GTicket), i < placeT l k → l[i]? = some x → x.1 < k
  | [], _, _, _, _, h => by simp at h
  | y :: l, k, i, x, hi, h => by
    rw [placeT_cons] at hi
    by_cases hy : y.1 < k
    · rw [dec_t hy] at hi
      cases i with
      | zero =>
        simp only [List.getElem?_cons_zero, Option.some.injEq] at h
        subst h
        exact hy
      | succ i => exact placeT_lt l k i x (by simpa using hi) (by simpa using h)
    · rw [dec_f hy] at hi
      exact absurd hi (Nat.not_lt_zero i)

theorem place_loop {σ β : Type} (l : List GTicket) (k : Int) (mk : Int → σ) (out : Int → β) {f : σ → Option (σ ⊕ β)}
    (hf : ∀ (i : Nat) (x : GTicket), l[i]? = some x → i < l.length → f (mk i) = some (bif decide (x.1 < k) then .inl (mk ((i : Int) + 1)) else .inr (out i))) (hend : f (mk l.length) = some (.inr (out l.length))) :
    ∀ (m i : Nat), i + m = l.length → loopE f (mk i) = some (out ((i + placeT (l.drop i) k : Nat) : Int))
  | 0, i, h => by
    obtain rfl : i = l.length := by omega
    rw [loopE_done hend, List.drop_length]
    rfl
  | m + 1, i, h => by
    have hlt : i < l.length := by omega
    have hx : l[i]? = some (l[i]'hlt) := by simp [hlt]
    have hs := hf i _ hx hlt
    rw [List.drop_eq_getElem_cons hlt, placeT_cons]
    cases hd : decide ((l[i]'hlt).1 < k) with
    | true =>
      rw [hd] at hs
      rw [loopE_step hs]
      have ih := place_loop l k mk out hf hend m (i + 1) (by omega)
      simp only [cond_true]
      rw [show i + (placeT (l.drop (i + 1)) k + 1) = i + 1 + placeT (l.drop (i + 1)) k by omega]
      exact ih
    | false =>
      rw [hd] at hs
      rw [loopE_done hs]
      rfl

theorem lt_next {l : List GTicket} (h : areTickets l = true) {i : Nat} (hi : i + 1 < l.length) : (l[i]'(by omega)).1 < (l[i + 1]'hi).1 := by
  unfold areTickets at h
  simp only [Bool.and_eq_true, List.all_eq_true, List.mem_range] at h
  have := h.1 (i + 1) hi
  unfold okAt at this
  rw [Bool.and_eq_true] at this
  have h2 := this.2
  rw [ordAt_eq hi] at h2
  simp only [Nat.add_sub_cancel, Bool.or_eq_true, decide_eq_true_eq, Bool.not_eq_true', decide_eq_false_iff_not] at h2
  rcases h2 with h2 | h2
  · omega
  · omega
theorem lt_all {l : List GTicket} (h : areTickets l = true) (i : Nat) : ∀ (d : Nat) (hi : i + d + 1 < l.length), (l[i]'(by omega)).1 < (l[i + d + 1]'hi).1
  | 0, hi => lt_next h hi
  | d + 1, hi => by
    have h1 := lt_all h i d (by omega)
    have h2 := lt_next h (i := i + d + 1) hi
    exact Int.lt_trans h1 h2

def newT (k p : Int) : GTicket := (k, p, [], 0, ())
def withT (l : List GTicket) (k p : Int) : List GTicket := l.take (placeT l k) ++ newT k p :: l.drop (placeT l k)
def accept (l : List GTicket) (k p : Int) : List GTicket × Bool := bif areTickets (withT l k p) then (withT l k p, true) else ([], false)

theorem sub_take {α : Type} {l : List α} {n : Nat} (h : n ≤ l.length) : sub l 0 (n : Int) = some (l.take n) := by
  unfold sub
  rw [if_pos ⟨Int.le_refl 0, by omega, by omega⟩]
  simp
theorem sub_drop {α : Type} {l : List α} {n : Nat} (h : n ≤ l.length) : sub l (n : Int) (l.length : Int) = some (l.drop n) := by
  unfold sub
  rw [if_pos ⟨by omega, by omega, by omega⟩]
  simp

theorem small_with {l : List GTicket} (h : Small l) (hg : areTickets l = true) (k p : Int) : Small (withT l k p) := by
  have h20 : (l.length : Int) ≤ 20 := by
    unfold areTickets at hg
    simp only [Bool.and_eq_true, decide_eq_true_eq] at hg
    exact hg.2
  have hle := placeT_le l k
  refine ⟨?_, fun x hx => ?_⟩
  · unfold withT
    simp only [List.length_append, List.length_take, List.length_cons, List.length_drop]
    omega
  · unfold withT at hx
    rcases List.mem_append.1 hx with hx | hx
    · exact h.got x (List.mem_of_mem_take hx)
    · rcases List.mem_cons.1 hx with rfl | hx
      · simp [newT]
      · exact h.got x (List.mem_of_mem_drop hx)

theorem s_accept {l : List GTicket} (h : Small l) (hg : areTickets l = true) (k p : Int) : s_dkStep l (1, k, p, ()) = some (accept l k p) := by
  unfold s_dkStep
  simp only [eq_self, decide_true, cond_true]
  have hl := h.len
  have hle := placeT_le l k
  have hw := small_with h hg k p
  have key : s_dkAccept l k p = some (accept l k p) := by
    unfold s_dkAccept
    refine bind_eq ((place_loop l k (fun i => i) (fun i => i) ?_ ?_ l.length 0 (by omega))) ?_
    · intro i x hx hi
      simp only [at_lt hi, cond_true, idx_get, hx, Option.bind_some, w64_of (x := (i : Int) + 1) (by omega) (by omega)]
      cases decide (x.1 < k) <;> rfl
    · simp only [dec_f (by omega : ¬ (l.length : Int) < (l.length : Int)), cond_false, Option.bind_some]
    · simp only [List.drop_zero, Nat.zero_add]
      refine bind_eq (sub_take hle) ?_
      refine bind_eq (ownT ⟨by rw [List.length_take]; omega, fun x hx => h.got x (List.mem_of_mem_take hx)⟩) ?_
      refine bind_eq (sub_drop hle) ?_
      rw [lim_ok (by rw [List.length_take, List.length_singleton]; omega), cond_true]
      refine bind_eq (ownT ⟨by rw [List.length_drop]; omega, fun x hx => h.got x (List.mem_of_mem_drop hx)⟩) ?_
      rw [lim_ok (by rw [List.length_append, List.length_take, List.length_singleton, List.length_drop]; omega), cond_true]
      have e : l.take (placeT l k) ++ [((k, p, [], 0, ()) : GTicket)] ++ l.drop (placeT l k) = withT l k p := by unfold withT newT; simp
      rw [e]
      refine bind_eq (s_good (small_fine hw)) ?_
      unfold accept
      cases areTickets (withT l k p) <;> rfl
  rw [key]
  rfl

theorem with_bad {l : List GTicket} (hg : areTickets l = true) {k : Int} (p : Int) {j : Nat} {x : GTicket} (hj : l[j]? = some x) (hx : x.1 = k) : areTickets (withT l k p) = false := by
  have hjl : j < l.length := (List.getElem?_eq_some_iff.1 hj).1
  have hjx : l[j]'hjl = x := (List.getElem?_eq_some_iff.1 hj).2
  have hle : placeT l k ≤ j := by
    refine Nat.le_of_not_lt fun h => ?_
    have := placeT_lt l k j x h hj
    omega
  have hpl : placeT l k < l.length := by omega
  have hpx : l[placeT l k]? = some (l[placeT l k]'hpl) := by simp [hpl]
  have hge := placeT_at l k _ hpx
  have heq : (l[placeT l k]'hpl).1 = k := by
    rcases Nat.lt_or_eq_of_le hle with h | h
    · have := lt_all hg (placeT l k) (j - placeT l k - 1) (by omega)
      have e : placeT l k + (j - placeT l k - 1) + 1 = j := by omega
      simp only [e] at this
      rw [hjx] at this
      omega
    · have e2 : l[placeT l k]'hpl = x := by rw [← hjx]; congr 1
      rw [e2]; exact hx
  cases hb : areTickets (withT l k p) with
  | false => rfl
  | true =>
    exfalso
    have hlen : (l.take (placeT l k)).length = placeT l k := by rw [List.length_take]; omega
    have hwl : (withT l k p).length = l.length + 1 := by unfold withT; simp only [List.length_append, List.length_cons, List.length_drop, hlen]; omega
    have := lt_next hb (i := placeT l k) (by omega)
    have e1 : (withT l k p)[placeT l k]? = some (newT k p) := by
      unfold withT
      rw [List.getElem?_append_right (by omega), hlen, Nat.sub_self]
      rfl
    have e2 : (withT l k p)[placeT l k + 1]? = some (l[placeT l k]'hpl) := by
      unfold withT
      rw [List.getElem?_append_right (by omega), hlen, show placeT l k + 1 - placeT l k = 1 by omega, List.getElem?_cons_succ, List.getElem?_drop]
      simp
    rw [(List.getElem?_eq_some_iff.1 e1).2, (List.getElem?_eq_some_iff.1 e2).2, heq] at this
    exact absurd this (by simp [newT])

theorem i_accept {l : List GTicket} (h : Small l) (hg : areTickets l = true) (k p : Int) : i_makeMove l (1, k, p, ()) = some (accept l k p) := by
  unfold i_makeMove
  have hl := h.len
  have hle := placeT_le l k
  have hw := small_with h hg k p
  rw [cloneT h]
  simp only [Option.bind_some]
  rw [i_find (small_fine h).len]
  simp only [eq_self, decide_true, cond_true, Option.bind_some]
  cases hi : firstAt (fun x : GTicket => decide (x.1 = k)) l 0 with
  | none =>
    simp only [dec_t (by decide : (-1 : Int) < 0), cond_true]
    refine bind_eq ((place_loop l k (fun i => (l, i)) (fun i => (l, i)) ?_ ?_ l.length 0 (by omega))) ?_
    · intro i x hx hi
      simp only [at_lt hi, cond_true, dec_t (by omega : (0 : Int) ≤ (i : Int)), Bool.and_self, Int.toNat_natCast, hx, Option.bind_some, w64_of (x := (i : Int) + 1) (by omega) (by omega)]
      cases decide (x.1 < k) <;> rfl
    · simp only [dec_f (by omega : ¬ (l.length : Int) < (l.length : Int)), cond_false, Option.bind_some]
    · simp only [List.drop_zero, Nat.zero_add]
      have h20 : (l.length : Int) ≤ 20 := by
        unfold areTickets at hg
        simp only [Bool.and_eq_true, decide_eq_true_eq] at hg
        exact hg.2
      rw [dec_t (by omega : (0 : Int) ≤ (placeT l k : Int)), dec_t (by omega : (placeT l k : Int) ≤ (l.length : Int)), dec_t (by omega : l.length ≤ 999999)]
      simp only [Bool.and_self, cond_true]
      have e : insV l (placeT l k : Int) ((k, p, [], 0, ()) : GTicket) = withT l k p := by unfold insV withT newT; simp
      rw [e]
      refine bind_eq (i_good (small_fine hw)) ?_
      unfold accept
      cases areTickets (withT l k p) <;> rfl
  | some i =>
    obtain ⟨x, hx, _, hxk⟩ := firstAt_get l 0 i hi
    have hb := with_bad hg p (by simpa using hx) (of_decide_eq_true hxk)
    unfold accept
    rw [hb]
    simp only [dec_f (by omega : ¬ (i : Int) < 0), cond_false, dec_f (by decide : ¬ (1 : Int) = 2), dec_f (by decide : ¬ (1 : Int) = 3), Option.bind_some]

theorem accept_same {l : List GTicket} (h : Small l) (k p : Int) : ∃ v b, s_AcceptMessage l k p = some (v, b) ∧ i_AcceptMessage l k p = some (v, b) ∧ Small v := by
  have hf := small_fine h
  unfold s_AcceptMessage i_AcceptMessage s_dkAsked
  rw [s_good hf, i_good hf]
  simp only [Option.bind_some]
  cases hg : areTickets l with
  | false => exact ⟨[], false, rfl, rfl, ⟨by simp, by simp⟩⟩
  | true =>
    simp only [Bool.not_true, cond_false]
    rw [s_accept h hg, i_accept h hg]
    refine ⟨_, _, rfl, rfl, ?_⟩
    unfold accept
    cases areTickets (withT l k p) with
    | true => exact small_with h hg k p
    | false => exact ⟨by simp, by simp⟩

/-- FnExactAcceptMessage -/
theorem plain_AcceptMessage (l : List GTicket) (k p : Int) (h : Fine l) : l_FnExactAcceptMessage l k p = some true := by
  unfold l_FnExactAcceptMessage
  obtain ⟨r, hr, h2⟩ := szTicketS h
  rw [hr]
  simp only [Option.bind_some]
  by_cases h3 : r < 0
  · rw [dec_t h3]; rfl
  rw [dec_f h3]
  have hs : Small l := h2.resolve_left h3
  obtain ⟨v, b, e1, e2, hv⟩ := accept_same hs k p
  simp only [toTicketS hs, e1, e2, eqTicketS (small_fine hv), eqTicketS h, Option.bind_some, cond_false, Bool.not_true, bne_self_eq_false, markT hs, dec_f (by omega : ¬ (1 + (total cntT l : Int)) < 0),
    markT hv, heldT hv, dec_f (by omega : ¬ (1 + (total cntT v : Int)) < 0), decide_true]
end Go.Proofs.Yteocijadidgagaa.Sh
