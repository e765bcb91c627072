/-
  Where messages stand, what is to be sent, how many there are: what the desk's functions come to.
-/
import Derived.Test.YthgnllgpdheidaaGreatDoorTP2
import Derived.Test.YthgnllgpdheidaaGreatDoorTD3
namespace Go.Proofs.YthgnllgpdheidaaGreatDoor.Sh
open Go Go.Ab
set_option maxRecDepth 100000

theorem one_loop' {τ ρ : Type} {n : Nat} {f : τ → Option (τ ⊕ ρ)} {a : τ} {y : ρ} (R : Nat → τ → Prop) (h0 : R 0 a) (step : ∀ i a, i < n → R i a → ∃ a', f a = some (.inl a') ∧ R (i + 1) a') (fin : ∀ a, R n a → f a = some (.inr y)) : loopE f a = some y := by
  obtain ⟨z, h1, h2⟩ := one_loop (n := n) (f := f) R (fun z => z = y) (fun i a hi h => .inl (step i a hi h)) (fun a h => ⟨y, fin a h, rfl⟩) n 0 a (by omega) h0
  rw [h1, h2]

theorem firstAt_none {α : Type} (t : α → Bool) : ∀ (l : List α) (k : Nat), firstAt t l k = none ↔ ∀ x ∈ l, t x = false
  | [], _ => by simp [firstAt]
  | x :: l, k => by
    have ih := firstAt_none t l (k + 1)
    simp only [firstAt, List.mem_cons]
    cases h : t x with
    | true => simp [h]
    | false =>
      simp only [cond_false]
      rw [ih]
      exact ⟨fun h2 y hy => hy.elim (fun e => e ▸ h) (h2 y), fun h2 y hy => h2 y (.inr hy)⟩
theorem first_of {l : List GTicket} (hg : areTickets l = true) {i : Nat} {x : GTicket} (hx : l[i]? = some x) : firstAt (fun y : GTicket => decide (y.1 = x.1)) l 0 = some i := by
  have := (firstAt_take (fun y : GTicket => decide (y.1 = x.1)) l i 0 x hx (by simp)).2 ((firstAt_none _ _ _).2 fun y hy => by
    obtain ⟨j, hj, rfl⟩ := List.getElem_of_mem hy
    rw [List.length_take] at hj
    obtain ⟨hi, e⟩ := List.getElem?_eq_some_iff.1 hx
    rw [List.getElem_take]
    have := lt_all hg j (i - j - 1) (by omega)
    simp only [show j + (i - j - 1) + 1 = i by omega] at this
    rw [e] at this
    exact dec_f (by omega))
  rwa [Nat.zero_add] at this

structure TkF (x : GTicket) : Prop where
  msg : 1 ≤ x.1 ∧ x.1 ≤ 999
  parts : 1 ≤ x.2.1 ∧ x.2.1 ≤ 9
  pair : x.2.2.1.Pairwise (· < ·)
  bnd : ∀ a ∈ x.2.2.1, 0 ≤ a ∧ a ≤ x.2.1 - 1
  len : (x.2.2.1.length : Int) ≤ x.2.1
  st : 0 ≤ x.2.2.2.1 ∧ x.2.2.2.1 ≤ 2
  full : (x.2.2.1.length : Int) = x.2.1 ↔ x.2.2.2.1 = 1
theorem tk_of {x : GTicket} (h : isT x = true) : TkF x := by
  unfold isT at h
  simp only [Bool.and_eq_true, inB_iff] at h
  obtain ⟨h1, h2, h3, h4, h5⟩ := h
  unfold rising at h3
  simp only [Bool.and_eq_true, List.all_eq_true, inB_iff] at h3
  have hp := rises_pair.1 (by rw [List.all_eq_true]; exact h3.2)
  have hw : w64 (x.2.1 - 1) = x.2.1 - 1 := w64_of (by omega) (by omega)
  rw [hw] at h3
  have hl := pair_len hp (b := x.2.1 - 1) (fun a ha => h3.1 a ha) (by omega)
  refine ⟨h1, h2, hp, h3.1, by omega, h4, ?_⟩
  have : (decide ((x.2.2.1.length : Int) = x.2.1)) = decide (x.2.2.2.1 = 1) := by simpa using h5
  by_cases h : (x.2.2.1.length : Int) = x.2.1
  · rw [dec_t h] at this
    exact ⟨fun _ => of_decide_eq_true this.symm, fun _ => h⟩
  · rw [dec_f h] at this
    exact ⟨fun h2 => absurd h2 h, fun h2 => by rw [dec_t h2] at this; cases this⟩
theorem tk_at {l : List GTicket} (hg : areTickets l = true) {i : Nat} {x : GTicket} (hx : l[i]? = some x) : TkF x := by
  obtain ⟨hi, e⟩ := List.getElem?_eq_some_iff.1 hx
  have := isT_at hg hi
  rw [e] at this
  exact tk_of this
theorem are_len {l : List GTicket} (hg : areTickets l = true) : l.length ≤ 20 := by
  unfold areTickets at hg
  simp only [Bool.and_eq_true, decide_eq_true_eq] at hg
  omega

/-! where a message stands -/

def stand (l : List GTicket) (m : Int) : Int × Int × Bool := bif areTickets l then (match firstAt (fun x : GTicket => decide (x.1 = m)) l 0 with
  | some i => (match l[i]? with
    | some x => (x.2.2.2.1, x.2.1 - (x.2.2.1.length : Int), true)
    | none => (0, 0, false))
  | none => (0, 0, false)) else (0, 0, false)
theorem stand_val {l : List GTicket} (h : Small l) (m : Int) : s_StandingOf l m = some (stand l m) ∧ i_StandingOf l m = some (stand l m) := by
  have hf := small_fine h
  unfold s_StandingOf i_StandingOf stand
  rw [s_find hf.len, i_find hf.len, s_good hf, i_good hf]
  simp only [Option.bind_some]
  cases hg : areTickets l with
  | false => exact ⟨rfl, rfl⟩
  | true =>
    cases hi : firstAt (fun x : GTicket => decide (x.1 = m)) l 0 with
    | none => exact ⟨rfl, rfl⟩
    | some i =>
      have hlt := firstAt_lt _ _ _ _ hi
      rw [Nat.zero_add] at hlt
      have hx : l[i]? = some l[i] := by simp [hlt]
      have ht := tk_at hg hx
      generalize l[i] = x at hx ht
      have := ht.len
      have := ht.parts
      simp only [Bool.not_true, cond_false, Option.bind_some, dec_f (show ¬ (i : Int) < 0 by omega), idx_get, hx, cond_true]
      rw [w64_of (by omega) (by omega)]
      exact ⟨rfl, rfl⟩
theorem stand_at {l : List GTicket} (hg : areTickets l = true) {i : Nat} {x : GTicket} (hx : l[i]? = some x) : stand l x.1 = (x.2.2.2.1, x.2.1 - (x.2.2.1.length : Int), true) := by
  unfold stand
  rw [hg, first_of hg hx]
  simp only [cond_true, hx]
theorem stand_ok {l : List GTicket} {m : Int} (h : (stand l m).2.2 = true) : areTickets l = true ∧ ∃ (i : Nat) (x : GTicket), l[i]? = some x ∧ x.1 = m := by
  unfold stand at h
  cases hg : areTickets l with
  | false => rw [hg] at h; cases h
  | true =>
    rw [hg] at h
    simp only [cond_true] at h
    cases hi : firstAt (fun x : GTicket => decide (x.1 = m)) l 0 with
    | none => rw [hi] at h; cases h
    | some i =>
      obtain ⟨x, hx, _, ht⟩ := firstAt_get l 0 i hi
      exact ⟨rfl, i, x, by simpa using hx, of_decide_eq_true ht⟩

/-! what is to be sent -/

theorem s_has {l : List Int} (h : l.length ≤ 1048576) (n : Int) : s_l1Has l n = some (l.any fun x => decide (n = x)) := by
  unfold s_l1Has
  rw [all_loop (l := l) (fun x => !decide (x = n)) true ?_ ?_]
  · have e : (l.all fun x => !decide (x = n)) = !(l.any fun x => decide (n = x)) := by
      rw [List.not_any_eq_all_not]
      congr 1
      funext x
      rw [show decide (x = n) = decide (n = x) by simp [eq_comm]]
    rw [e]
    cases l.any fun x => decide (n = x) <;> rfl
  · intro i x hx hi
    simp only [idx_get, hx, Option.bind_some, at_lt hi, w64_of (x := (i : Int) + 1) (by omega) (by omega), cond_true]
    cases decide (x = n) <;> rfl
  · simp
def openRow (x : GTicket) (n : Nat) : List (List Int) := ((List.range n).filter fun (q : Nat) => !(x.2.2.1.any fun y => decide ((q : Int) = y))).map fun (q : Nat) => [x.1, (q : Int)]
theorem openRow_succ (x : GTicket) (n : Nat) : openRow x (n + 1) = openRow x n ++ (bif !(x.2.2.1.any fun y => decide ((n : Int) = y)) then [[x.1, (n : Int)]] else []) := by
  unfold openRow
  rw [List.range_succ, List.filter_append, List.map_append]
  congr 1
  cases h : (x.2.2.1.any fun y => decide ((n : Int) = y)) <;> simp [h]
theorem openRow_len (x : GTicket) (n : Nat) : (openRow x n).length ≤ n := by
  unfold openRow
  rw [List.length_map]
  have := List.length_filter_le (fun (q : Nat) => !(x.2.2.1.any fun y => decide ((q : Int) = y))) (List.range n)
  rwa [List.length_range] at this
def partRow (x : GTicket) : List (List Int) := bif decide (x.2.2.2.1 = 0) then openRow x x.2.1.toNat else []
def partsT (l : List GTicket) : List (List Int) := l.flatMap partRow
theorem partRow_len {x : GTicket} (h : TkF x) : (partRow x).length ≤ 9 := by
  unfold partRow
  have := h.parts
  cases decide (x.2.2.2.1 = 0) with
  | true => have := openRow_len x x.2.1.toNat; simp only [cond_true]; omega
  | false => simp
theorem partsT_snoc {l : List GTicket} {i : Nat} (h : i < l.length) : partsT (l.take (i + 1)) = partsT (l.take i) ++ partRow l[i] := by
  unfold partsT
  rw [List.take_succ_eq_append_getElem h, List.flatMap_append]
  simp
theorem partsT_len {l : List GTicket} (hg : ∀ x ∈ l, TkF x) : (partsT l).length ≤ 9 * l.length := by
  induction l with
  | nil => simp [partsT]
  | cons x l ih =>
    have h1 := partRow_len (hg x (by simp))
    have h2 := ih fun y hy => hg y (List.mem_cons_of_mem _ hy)
    simp only [partsT, List.flatMap_cons, List.length_append, List.length_cons] at h2 ⊢
    omega
theorem limL {o : List (List Int)} {x : List Int} (h : o.length ≤ 1000) : decide (List.length o + List.length [x] ≤ lim) = true := by unfold lim; rw [List.length_singleton]; exact decide_eq_true (by omega)

theorem i_row {x : GTicket} (h : TkF x) {o : List (List Int)} (ho : o.length ≤ 500) : loopE (fun (st6 : (List (List Int)) × Int × Int × (List Int) × Int × Int) => (
              bif (decide (st6.2.2.2.2.2 < x.2.1)) then
                (bif (decide (st6.2.2.2.2.1 = 0)) then
                    (slices_Contains_int st6.2.2.2.1 st6.2.2.2.2.2).bind fun r7 =>
                    some (!r7)
                  else
                    some false).bind fun c8 =>
                bif c8 then
                  bif decide (List.length st6.1 + List.length [[st6.2.1, st6.2.2.2.2.2]] ≤ lim) then
                    some (.inl ((st6.1 ++ [[st6.2.1, st6.2.2.2.2.2]]), st6.2.1, st6.2.2.1, st6.2.2.2.1, st6.2.2.2.2.1, (w64 (st6.2.2.2.2.2 + 1))))
                  else
                    none
                else
                  some (.inl (st6.1, st6.2.1, st6.2.2.1, st6.2.2.2.1, st6.2.2.2.2.1, (w64 (st6.2.2.2.2.2 + 1))))
              else
                some (.inr st6.1) : Option (((List (List Int)) × Int × Int × (List Int) × Int × Int) ⊕ ((List (List Int)))))) (o, x.1, x.2.1, x.2.2.1, x.2.2.2.1, 0) = some (o ++ partRow x) := by
  have hp := h.parts
  have hlen := h.len
  obtain ⟨n, hn⟩ : ∃ n : Nat, x.2.1 = (n : Int) := ⟨x.2.1.toNat, by omega⟩
  have hc : ∀ k : Int, slices_Contains_int x.2.2.1 k = some (x.2.2.1.any fun y => decide (k = y)) := fun k => i_contains (by omega) k
  cases h0 : decide (x.2.2.2.1 = 0) with
  | true =>
    have hr : partRow x = openRow x n := by unfold partRow; rw [h0, hn, Int.toNat_natCast]; rfl
    rw [hr]
    refine one_loop' (n := n) (fun i st => st = (o ++ openRow x i, x.1, x.2.1, x.2.2.1, x.2.2.2.1, (i : Int))) (by simp [openRow]) (fun i st hi hst => ?_) (fun st hst => ?_)
    · subst hst
      have hl := openRow_len x i
      refine ⟨_, ?_, rfl⟩
      simp only [hn, dec_t (show (i : Int) < (n : Int) by omega), cond_true, h0, hc, Option.bind_some, w64_of (x := (i : Int) + 1) (by omega) (by omega), openRow_succ]
      cases (x.2.2.1.any fun y => decide ((i : Int) = y)) with
      | true => simp only [Bool.not_true, cond_false, List.append_nil]; rfl
      | false =>
        simp only [Bool.not_false, cond_true]
        rw [limL (by rw [List.length_append]; omega), List.append_assoc]
        rfl
    · subst hst
      simp only [hn, dec_f (Int.lt_irrefl (n : Int)), cond_false]
  | false =>
    have hr : partRow x = [] := by unfold partRow; rw [h0]; rfl
    rw [hr, List.append_nil]
    refine one_loop' (n := n) (fun i st => st = (o, x.1, x.2.1, x.2.2.1, x.2.2.2.1, (i : Int))) rfl (fun i st hi hst => ?_) (fun st hst => ?_)
    · subst hst
      refine ⟨_, ?_, rfl⟩
      simp only [hn, dec_t (show (i : Int) < (n : Int) by omega), cond_true, h0, cond_false, Option.bind_some, w64_of (x := (i : Int) + 1) (by omega) (by omega)]
      rfl
    · subst hst
      simp only [hn, dec_f (Int.lt_irrefl (n : Int)), cond_false]
theorem s_row {x : GTicket} (h : TkF x) {o : List (List Int)} (ho : o.length ≤ 500) : loopE (fun (st6 : (List (List Int)) × Int × Int × (List Int) × Int × Int) => (
              (bif (decide (st6.2.2.2.2.2 < st6.2.2.1)) then
                  some (decide (st6.2.2.2.2.1 = 0))
                else
                  some false).bind fun c7 =>
              bif c7 then
                (s_l1Has st6.2.2.2.1 st6.2.2.2.2.2).bind fun r8 =>
                bif (!r8) then
                  bif decide (List.length st6.1 + List.length [[st6.2.1, st6.2.2.2.2.2]] ≤ lim) then
                    some (.inl ((st6.1 ++ [[st6.2.1, st6.2.2.2.2.2]]), st6.2.1, st6.2.2.1, st6.2.2.2.1, st6.2.2.2.2.1, (w64 (st6.2.2.2.2.2 + 1))))
                  else
                    none
                else
                  some (.inl (st6.1, st6.2.1, st6.2.2.1, st6.2.2.2.1, st6.2.2.2.2.1, (w64 (st6.2.2.2.2.2 + 1))))
              else
                some (.inr st6.1) : Option (((List (List Int)) × Int × Int × (List Int) × Int × Int) ⊕ ((List (List Int)))))) (o, x.1, x.2.1, x.2.2.1, x.2.2.2.1, 0) = some (o ++ partRow x) := by
  have hp := h.parts
  have hlen := h.len
  obtain ⟨n, hn⟩ : ∃ n : Nat, x.2.1 = (n : Int) := ⟨x.2.1.toNat, by omega⟩
  have hc : ∀ k : Int, s_l1Has x.2.2.1 k = some (x.2.2.1.any fun y => decide (k = y)) := fun k => s_has (by omega) k
  cases h0 : decide (x.2.2.2.1 = 0) with
  | true =>
    have hr : partRow x = openRow x n := by unfold partRow; rw [h0, hn, Int.toNat_natCast]; rfl
    rw [hr]
    refine one_loop' (n := n) (fun i st => st = (o ++ openRow x i, x.1, x.2.1, x.2.2.1, x.2.2.2.1, (i : Int))) (by simp [openRow]) (fun i st hi hst => ?_) (fun st hst => ?_)
    · subst hst
      have hl := openRow_len x i
      refine ⟨_, ?_, rfl⟩
      simp only [hn, dec_t (show (i : Int) < (n : Int) by omega), cond_true, h0, hc, Option.bind_some, w64_of (x := (i : Int) + 1) (by omega) (by omega), openRow_succ]
      cases (x.2.2.1.any fun y => decide ((i : Int) = y)) with
      | true => simp only [Bool.not_true, cond_false, List.append_nil]; rfl
      | false =>
        simp only [Bool.not_false, cond_true]
        rw [limL (by rw [List.length_append]; omega), List.append_assoc]
        rfl
    · subst hst
      simp only [hn, dec_f (Int.lt_irrefl (n : Int)), cond_false, Option.bind_some]
  | false =>
    have hr : partRow x = [] := by unfold partRow; rw [h0]; rfl
    rw [hr, List.append_nil]
    refine loopE_done ?_
    simp only [h0]
    cases decide ((0 : Int) < x.2.1) <;> rfl

theorem parts_val {l : List GTicket} (h : Small l) : s_PartsToSend l = some (bif areTickets l then (partsT l, true) else ([], false)) ∧ i_PartsToSend l = some (bif areTickets l then (partsT l, true) else ([], false)) := by
  have hf := small_fine h
  unfold s_PartsToSend i_PartsToSend
  rw [s_good hf, i_good hf]
  simp only [Option.bind_some]
  cases hg : areTickets l with
  | false => exact ⟨rfl, rfl⟩
  | true =>
    have h20 := are_len hg
    have hT : ∀ i (hi : i < l.length), TkF l[i] := fun i hi => tk_of (isT_at hg hi)
    have hlen : ∀ i, i ≤ l.length → (partsT (l.take i)).length ≤ 180 := fun i hi => by
      have := partsT_len (l := l.take i) fun x hx => by
        obtain ⟨j, hj, rfl⟩ := List.getElem_of_mem (List.mem_of_mem_take hx)
        exact hT j hj
      rw [List.length_take] at this
      omega
    simp only [Bool.not_true, cond_false, cond_true]
    constructor
    · refine bind_eq (one_loop' (n := l.length) (y := partsT l) (fun i st => st = (partsT (l.take i), (i : Int))) rfl (fun i st hi hst => ?_) (fun st hst => ?_)) rfl
      · subst hst
        have ex : l[i]? = some l[i] := by simp [hi]
        refine ⟨_, ?_, rfl⟩
        simp only [dec_t (show (i : Int) < (l.length : Int) by omega), cond_true, idx_get, ex, Option.bind_some]
        refine bind_eq (s_row (hT i hi) (by have := hlen i (by omega); omega)) ?_
        rw [partsT_snoc hi, w64_of (by omega) (by omega)]
        rfl
      · subst hst
        simp only [dec_f (Int.lt_irrefl (l.length : Int)), cond_false, List.take_length]
    · refine bind_eq (one_loop' (n := l.length) (y := partsT l) (fun i st => st = (partsT (l.take i), (i : Int))) rfl (fun i st hi hst => ?_) (fun st hst => ?_)) rfl
      · subst hst
        have ex : l[i]? = some l[i] := by simp [hi]
        refine ⟨_, ?_, rfl⟩
        simp only [dec_t (show (i : Int) < (l.length : Int) by omega), cond_true, idx_get, ex, Option.bind_some]
        refine bind_eq (i_row (hT i hi) (by have := hlen i (by omega); omega)) ?_
        rw [partsT_snoc hi, w64_of (by omega) (by omega)]
        rfl
      · subst hst
        simp only [dec_f (Int.lt_irrefl (l.length : Int)), cond_false, List.take_length]

/-! the law's own functions -/

theorem qInts_self {l : List Int} (h : l.length ≤ 1048576) : l_qInts l l = some true := by
  unfold l_qInts
  rw [dec_t rfl]
  simp only [Bool.not_true, cond_false]
  rw [all_loop_at (n := l.length) (fun _ => true) false ?_ ?_]
  · rw [show ((List.range l.length).all fun _ => true) = true by simp]
    rfl
  · intro i hi
    have e1 : l[i]? = some l[i] := by simp [hi]
    simp only [idx_get, e1, Option.bind_some, at_lt hi, w64_of (x := (i : Int) + 1) (by omega) (by omega), decide_true]
    rfl
  · simp
theorem qTickets_self {l : List GTicket} (h : Small l) : l_qTickets l l = some true := by
  have hl := h.len
  unfold l_qTickets
  rw [dec_t rfl]
  simp only [Bool.not_true, cond_false]
  rw [all_loop_at (n := l.length) (fun _ => true) false ?_ ?_]
  · rw [show ((List.range l.length).all fun _ => true) = true by simp]
    rfl
  · intro i hi
    have e1 : l[i]? = some l[i] := by simp [hi]
    simp only [idx_get, e1, Option.bind_some, at_lt hi, w64_of (x := (i : Int) + 1) (by omega) (by omega), decide_true, Bool.not_true, cond_false, qInts_self (h.got _ (List.getElem_mem hi))]
    rfl
  · simp
theorem qLists_self {l : List (List Int)} (h : l.length ≤ 1048576) (hr : ∀ x ∈ l, x.length ≤ 1048576) : l_qLists l l = some true := by
  unfold l_qLists
  rw [dec_t rfl]
  simp only [Bool.not_true, cond_false]
  rw [all_loop_at (n := l.length) (fun _ => true) false ?_ ?_]
  · rw [show ((List.range l.length).all fun _ => true) = true by simp]
    rfl
  · intro i hi
    have e1 : l[i]? = some l[i] := by simp [hi]
    simp only [idx_get, e1, Option.bind_some, at_lt hi, w64_of (x := (i : Int) + 1) (by omega) (by omega), qInts_self (hr _ (List.getElem_mem hi)), Bool.not_true, cond_false]
    rfl
  · simp

/-! rows in order -/

def Two (r : List Int) (a b : Int) : Prop := r = [a, b]
def Lx (r s : List Int) : Prop := ∃ a b c d, r = [a, b] ∧ s = [c, d] ∧ (a < c ∨ (a = c ∧ b < d))
theorem openRow_mem {x : GTicket} {n : Nat} {r : List Int} (h : r ∈ openRow x n) : ∃ q : Nat, r = [x.1, (q : Int)] := by
  unfold openRow at h
  obtain ⟨q, _, rfl⟩ := List.mem_map.1 h
  exact ⟨q, rfl⟩
theorem partRow_mem {x : GTicket} {r : List Int} (h : r ∈ partRow x) : ∃ q : Nat, r = [x.1, (q : Int)] := by
  unfold partRow at h
  cases h0 : decide (x.2.2.2.1 = 0) with
  | true => rw [h0] at h; exact openRow_mem h
  | false => rw [h0] at h; cases h
theorem openRow_lx (x : GTicket) : ∀ n, (openRow x n).Pairwise Lx
  | 0 => by simp [openRow]
  | n + 1 => by
    unfold openRow
    rw [List.pairwise_map]
    refine List.Pairwise.imp (R := (· < ·)) (fun {a b} h => ⟨x.1, (a : Int), x.1, (b : Int), rfl, rfl, .inr ⟨rfl, by omega⟩⟩) (List.Pairwise.filter _ List.pairwise_lt_range)
theorem partRow_lx (x : GTicket) : (partRow x).Pairwise Lx := by
  unfold partRow
  cases decide (x.2.2.2.1 = 0) with
  | true => exact openRow_lx x _
  | false => exact List.Pairwise.nil
theorem are_pair {l : List GTicket} (hg : areTickets l = true) : l.Pairwise fun x y => x.1 < y.1 := by
  rw [List.pairwise_iff_getElem]
  intro i j hi hj hij
  have := lt_all hg i (j - i - 1) (by omega)
  simp only [show i + (j - i - 1) + 1 = j by omega] at this
  exact this
theorem partsT_lx : ∀ {l : List GTicket}, (l.Pairwise fun x y => x.1 < y.1) → (partsT l).Pairwise Lx
  | [], _ => List.Pairwise.nil
  | x :: l, h => by
    have h2 := List.pairwise_cons.1 h
    show (partRow x ++ partsT l).Pairwise Lx
    rw [List.pairwise_append]
    refine ⟨partRow_lx x, partsT_lx h2.2, fun r hr s hs => ?_⟩
    obtain ⟨q, rfl⟩ := partRow_mem hr
    obtain ⟨y, hy, hs2⟩ := List.mem_flatMap.1 hs
    obtain ⟨p, rfl⟩ := partRow_mem hs2
    exact ⟨_, _, _, _, rfl, rfl, .inl (h2.1 y hy)⟩

/-- how many are to be sent -/
def isum : List Int → Int
  | [] => 0
  | x :: l => x + isum l
theorem isum_snoc (l : List Int) (x : Int) : isum (l ++ [x]) = isum l + x := by
  induction l with
  | nil => simp [isum]
  | cons y l ih => simp only [List.cons_append, isum, ih]; omega
theorem count_in : ∀ (n : Nat) (l : List Int), l.Pairwise (· < ·) → (∀ a ∈ l, 0 ≤ a ∧ a < (n : Int)) → ((List.range n).filter fun (q : Nat) => l.any fun y => decide ((q : Int) = y)).length = l.length
  | 0, l, _, hb => by
    cases l with
    | nil => rfl
    | cons a l => have := hb a (by simp); omega
  | n + 1, l, hp, hb => by
    rw [List.range_succ, List.filter_append, List.length_append]
    by_cases hm : (n : Int) ∈ l
    · -- the greatest stands last
      obtain ⟨l1, l2, rfl⟩ := List.append_of_mem hm
      have hp2 := List.pairwise_append.1 hp
      have h2 : l2 = [] := by
        cases l2 with
        | nil => rfl
        | cons b l2 =>
          have h3 := (List.pairwise_cons.1 hp2.2.1).1 b (by simp)
          have h4 := hb b (by simp)
          omega
      subst h2
      have ih := count_in n l1 hp2.1 fun a ha => ⟨(hb a (by simp [ha])).1, hp2.2.2 a ha _ (by simp)⟩
      have e1 : ((List.range n).filter fun (q : Nat) => (l1 ++ [(n : Int)]).any fun y => decide ((q : Int) = y)) = (List.range n).filter fun (q : Nat) => l1.any fun y => decide ((q : Int) = y) := by
        refine List.filter_congr fun q hq => ?_
        have := List.mem_range.1 hq
        rw [List.any_append]
        simp
        omega
      rw [e1, ih]
      simp
    · have ih := count_in n l hp fun a ha => ⟨(hb a ha).1, by
        have h1 := hb a ha
        have : a ≠ (n : Int) := fun e => hm (e ▸ ha)
        omega⟩
      rw [ih]
      have : (l.any fun y => decide ((n : Int) = y)) = false := by
        rw [List.any_eq_false]
        intro y hy h
        exact hm (by rw [of_decide_eq_true h]; exact hy)
      simp [this]
theorem filter_both {α : Type} (p : α → Bool) : ∀ l : List α, (l.filter p).length + (l.filter fun x => !p x).length = l.length
  | [] => rfl
  | x :: l => by
    have ih := filter_both p l
    cases h : p x with
    | true => rw [List.filter_cons_of_pos h, List.filter_cons_of_neg (by simp [h])]; simp only [List.length_cons]; omega
    | false => rw [List.filter_cons_of_neg (by simp [h]), List.filter_cons_of_pos (by simp [h])]; simp only [List.length_cons]; omega
theorem openRow_count {x : GTicket} (h : TkF x) : ((openRow x x.2.1.toNat).length : Int) = x.2.1 - (x.2.2.1.length : Int) := by
  have hp := h.parts
  have hc := count_in x.2.1.toNat x.2.2.1 h.pair fun a ha => by have := h.bnd a ha; omega
  unfold openRow
  rw [List.length_map]
  have hs := filter_both (fun (q : Nat) => x.2.2.1.any fun y => decide ((q : Int) = y)) (List.range x.2.1.toNat)
  rw [List.length_range, hc] at hs
  omega
end Go.Proofs.YthgnllgpdheidaaGreatDoor.Sh

/-!
  Moves at the desk, and FnDesk.
-/
namespace Go.Proofs.YthgnllgpdheidaaGreatDoor.Sh
open Go Go.Ab
set_option maxRecDepth 100000

noncomputable def askT (l : List GTicket) (m : GDeskMove) : List GTicket × Bool := bif areTickets l then stepT l m else ([], false)
theorem ask_val {l : List GTicket} (h : Small l) (m : GDeskMove) : s_dkAsked l m.1 m.2.1 m.2.2.1 = some (askT l m) ∧ ((i_AreTickets l).bind fun r1 => bif (!r1) then some ([], false) else (i_makeMove l m).bind fun r2 => some (r2.1, r2.2)) = some (askT l m) := by
  have hf := small_fine h
  unfold s_dkAsked askT
  rw [s_good hf, i_good hf]
  simp only [Option.bind_some]
  cases hg : areTickets l with
  | false => exact ⟨rfl, rfl⟩
  | true =>
    simp only [Bool.not_true, cond_false, cond_true]
    have e1 := s_step h hg m
    have e2 := i_step h hg m
    have e0 : ((m.1, m.2.1, m.2.2.1, ()) : GDeskMove) = m := rfl
    rw [e0, e1, e2]
    exact ⟨rfl, rfl⟩
theorem note_val {l : List GTicket} (h : Small l) (k n : Int) : s_NoteArrival l k n = some (askT l (2, k, n, ())) ∧ i_NoteArrival l k n = some (askT l (2, k, n, ())) := by
  obtain ⟨h1, h2⟩ := ask_val h (2, k, n, ())
  exact ⟨by unfold s_NoteArrival; rw [h1]; rfl, h2⟩
theorem give_val {l : List GTicket} (h : Small l) (k : Int) : s_GiveUp l k = some (askT l (3, k, 0, ())) ∧ i_GiveUp l k = some (askT l (3, k, 0, ())) := by
  obtain ⟨h1, h2⟩ := ask_val h (3, k, 0, ())
  exact ⟨by unfold s_GiveUp; rw [h1]; rfl, h2⟩
theorem accept_val {l : List GTicket} (h : Small l) (k n : Int) : s_AcceptMessage l k n = some (askT l (1, k, n, ())) ∧ i_AcceptMessage l k n = some (askT l (1, k, n, ())) := by
  obtain ⟨h1, h2⟩ := ask_val h (1, k, n, ())
  exact ⟨by unfold s_AcceptMessage; rw [h1]; rfl, h2⟩
theorem ask_small {l : List GTicket} (h : Small l) (m : GDeskMove) : Small (askT l m).1 ∧ ((askT l m).2 = true → areTickets l = true ∧ areTickets (askT l m).1 = true ∧ askT l m = stepT l m) := by
  unfold askT
  cases hg : areTickets l with
  | false => exact ⟨⟨by simp, by simp⟩, fun h => by cases h⟩
  | true => exact ⟨(step_fine h hg m).1, fun hk => ⟨rfl, (step_fine h hg m).2 hk, rfl⟩⟩

theorem accept_law {l : List GTicket} (h : Small l) {k p : Int} (hk : (askT l (1, k, p, ())).2 = true) : areTickets (askT l (1, k, p, ())).1 = true ∧ stand (askT l (1, k, p, ())).1 k = (0, p, true) ∧ (askT l (1, k, p, ())).1.length = l.length + 1 ∧ l.length ≤ 20 := by
  obtain ⟨h1, h2, h3⟩ := (ask_small h _).2 hk
  rw [h3] at hk h2 ⊢
  have e : stepT l (1, k, p, ()) = accept l k p := rfl
  rw [e] at hk h2 ⊢
  unfold accept at hk h2 ⊢
  cases hw : areTickets (withT l k p) with
  | false => rw [hw] at hk; cases hk
  | true =>
    rw [hw] at h2
    simp only [cond_true] at h2 ⊢
    have hle := placeT_le l k
    have hx : (withT l k p)[placeT l k]? = some (newT k p) := by
      unfold withT
      rw [List.getElem?_append_right (by rw [List.length_take]; omega), List.length_take, Nat.min_eq_left hle, Nat.sub_self]
      rfl
    refine ⟨hw, ?_, ?_, are_len h1⟩
    · have := stand_at hw hx
      rw [show (newT k p).1 = k from rfl] at this
      rw [this]
      simp [newT]
    · unfold withT
      simp only [List.length_append, List.length_take, List.length_cons, List.length_drop]
      omega
/-- a move at an open ticket -/
theorem open_move {l : List GTicket} (hg : areTickets l = true) {k : Int} {i : Nat} {x y : GTicket} (hx : l[i]? = some x) (hk : x.1 = k) (hy : y.1 = x.1) (hgy : areTickets (l.set i y) = true) : stand (l.set i y) k = (y.2.2.2.1, y.2.1 - (y.2.2.1.length : Int), true) := by
  obtain ⟨hi, _⟩ := List.getElem?_eq_some_iff.1 hx
  have : (l.set i y)[i]? = some y := by simp [hi]
  have h2 := stand_at hgy this
  rw [hy, hk] at h2
  exact h2
theorem gave_law {l : List GTicket} (h : Small l) {k : Int} (hk : (askT l (3, k, 0, ())).2 = true) : areTickets (askT l (3, k, 0, ())).1 = true ∧ (∃ r, stand (askT l (3, k, 0, ())).1 k = (2, r, true)) ∧ (askT (askT l (3, k, 0, ())).1 (3, k, 0, ())).2 = false := by
  obtain ⟨h1, h2, h3⟩ := (ask_small h _).2 hk
  rw [h3] at hk h2 ⊢
  have e : stepT l (3, k, 0, ()) = gaveUp l k := rfl
  rw [e] at hk h2 ⊢
  unfold gaveUp at hk h2 ⊢
  cases hi : firstAt (fun x : GTicket => decide (x.1 = k)) l 0 with
  | none => rw [hi] at hk; cases hk
  | some i =>
    rw [hi] at hk h2
    simp only at hk h2 ⊢
    obtain ⟨x, hx, _, ht⟩ := firstAt_get l 0 i hi
    rw [Nat.sub_zero] at hx
    rw [hx] at hk h2 ⊢
    have hxk := of_decide_eq_true ht
    simp only at hk h2 ⊢
    cases h0 : decide (x.2.2.2.1 = 0) with
    | false => rw [h0] at hk; cases hk
    | true =>
      rw [h0] at h2
      simp only [cond_true] at h2 ⊢
      obtain ⟨hlt, _⟩ := List.getElem?_eq_some_iff.1 hx
      have hs := open_move h1 hx hxk (y := failed x) rfl h2
      refine ⟨h2, ⟨_, hs⟩, ?_⟩
      have hx2 : (l.set i (failed x))[i]? = some (failed x) := by simp [hlt]
      have hf := first_of h2 hx2
      rw [show (failed x).1 = k from hxk] at hf
      unfold askT
      rw [h2]
      simp only [cond_true]
      show (gaveUp (l.set i (failed x)) k).2 = false
      unfold gaveUp
      rw [hf]
      simp only [hx2]
      rfl
theorem put_idem (xs : List Int) (n : Int) : putI (putI xs n) n = putI xs n := by
  have hm : ((putI xs n).any fun x => decide (n = x)) = true := by
    rw [List.any_eq_true]
    unfold putI
    cases h : xs.any (fun x => decide (n = x)) with
    | true => exact List.any_eq_true.1 h
    | false => exact ⟨n, by simp, by simp⟩
  rw [show putI (putI xs n) n = bif (putI xs n).any (fun x => decide (n = x)) then putI xs n else lowP (putI xs n) n ++ n :: highP (putI xs n) n from rfl, hm]
  rfl
theorem put_len2 (xs : List Int) (n : Int) : (putI xs n).length = xs.length ∨ (putI xs n).length = xs.length + 1 := by
  unfold putI
  cases xs.any (fun x => decide (n = x)) with
  | true => exact .inl rfl
  | false =>
    right
    have := congrArg List.length (low_high xs n)
    simp only [List.length_append] at this
    simp only [cond_false, List.length_append, List.length_cons]
    omega
theorem note_law {l : List GTicket} (h : Small l) {k n : Int} (hk : (askT l (2, k, n, ())).2 = true) : areTickets (askT l (2, k, n, ())).1 = true ∧ ∃ left st fewer, stand l k = (0, left, true) ∧ stand (askT l (2, k, n, ())).1 k = (st, fewer, true) ∧ 0 ≤ left - fewer ∧ left - fewer ≤ 1 ∧ 0 ≤ left ∧ left ≤ 9 ∧ 0 ≤ fewer ∧ fewer ≤ 9 ∧ (st = 1 ↔ fewer = 0) ∧
    (st = 1 → (askT (askT l (2, k, n, ())).1 (2, k, n, ())).2 = false) ∧ (st ≠ 1 → askT (askT l (2, k, n, ())).1 (2, k, n, ()) = ((askT l (2, k, n, ())).1, true)) := by
  obtain ⟨h1, h2, h3⟩ := (ask_small h _).2 hk
  rw [h3] at hk h2 ⊢
  have e : stepT l (2, k, n, ()) = notedT l k n := rfl
  rw [e] at hk h2 ⊢
  unfold notedT at hk h2 ⊢
  cases hi : firstAt (fun x : GTicket => decide (x.1 = k)) l 0 with
  | none => rw [hi] at hk; cases hk
  | some i =>
    rw [hi] at hk h2
    simp only at hk h2 ⊢
    obtain ⟨x, hx, _, ht⟩ := firstAt_get l 0 i hi
    rw [Nat.sub_zero] at hx
    rw [hx] at hk h2 ⊢
    have hxk := of_decide_eq_true ht
    simp only at hk h2 ⊢
    cases h0 : (decide (x.2.2.2.1 = 0) && inB n 0 (w64 (x.2.1 - 1))) with
    | false => rw [h0] at hk; cases hk
    | true =>
      rw [h0] at h2
      simp only [cond_true] at h2 ⊢
      simp only [Bool.and_eq_true, decide_eq_true_eq] at h0
      obtain ⟨hlt, _⟩ := List.getElem?_eq_some_iff.1 hx
      have hs := open_move h1 hx hxk (y := gotT x n) rfl h2
      have hs0 := stand_at h1 hx
      rw [hxk, h0.1] at hs0
      have fx := tk_at h1 hx
      have hx2 : (l.set i (gotT x n))[i]? = some (gotT x n) := by simp [hlt]
      have fy := tk_at h2 hx2
      have l2 := put_len2 x.2.2.1 n
      have p1 := fx.parts; have p2 := fx.len; have p3 := fx.full; have p4 := fy.len; have p5 := fy.full
      have ea : (gotT x n).2.2.1 = putI x.2.2.1 n := rfl
      have eb : (gotT x n).2.1 = x.2.1 := rfl
      rw [ea, eb] at p4 p5 hs
      have hf := first_of h2 hx2
      rw [show (gotT x n).1 = k from hxk] at hf
      refine ⟨h2, _, _, _, hs0, hs, by omega, by omega, by omega, by omega, by omega, by omega, ⟨fun h => by have := p5.2 h; omega, fun h => p5.1 (by omega)⟩, fun h => ?_, fun h => ?_⟩
      · unfold askT
        rw [h2]
        simp only [cond_true]
        show (notedT (l.set i (gotT x n)) k n).2 = false
        unfold notedT
        rw [hf]
        simp only [hx2]
        rw [dec_f (show ¬ (gotT x n).2.2.2.1 = 0 by omega)]
        rfl
      · have hz : (gotT x n).2.2.2.1 = 0 := by
          show (bif decide (((putI x.2.2.1 n).length : Int) = x.2.1) then 1 else x.2.2.2.1) = 0
          rw [dec_f (fun hh => h (p5.1 hh))]
          exact h0.1
        unfold askT
        rw [h2]
        simp only [cond_true]
        show notedT (l.set i (gotT x n)) k n = _
        unfold notedT
        rw [hf]
        simp only [hx2]
        have hb : (decide ((gotT x n).2.2.2.1 = 0) && inB n 0 (w64 ((gotT x n).2.1 - 1))) = true := by rw [dec_t hz, eb, h0.2]; rfl
        rw [hb]
        simp only [cond_true, List.set_set]
        have hgg : gotT (gotT x n) n = gotT x n := by
          have hl : ¬ ((putI x.2.2.1 n).length : Int) = x.2.1 := fun hh => h (p5.1 hh)
          unfold gotT
          simp only [put_idem, dec_f hl, cond_false]
        rw [hgg]

theorem big_of {code more : List Int} (hc : code.length ≤ 1048576) (hm : more.length ≤ 1048576) : w64 ((code.length : Int) + (more.length : Int)) = (code.length : Int) + (more.length : Int) := w64_of (by omega) (by omega)

theorem lx_at {o : List (List Int)} (h : o.Pairwise Lx) {i : Nat} (hi : i < o.length) (h0 : 0 < i) : ∃ a b c d, o[i - 1]? = some [a, b] ∧ o[i]? = some [c, d] ∧ (a < c ∨ (a = c ∧ b < d)) := by
  obtain ⟨a, b, c, d, e1, e2, h3⟩ := (List.pairwise_iff_getElem.1 h) (i - 1) i (by omega) hi (by omega)
  exact ⟨a, b, c, d, by rw [← e1]; simp [show i - 1 < o.length by omega], by rw [← e2]; simp [hi], h3⟩
theorem two_at {l : List GTicket} {r : List Int} (h : r ∈ partsT l) : ∃ a b, r = [a, b] := by
  obtain ⟨x, _, hx⟩ := List.mem_flatMap.1 h
  obtain ⟨q, rfl⟩ := partRow_mem hx
  exact ⟨_, _, rfl⟩

/-- FnDesk -/
theorem plain_Desk (code more : List Int) (hc : ∀ b ∈ code, 0 ≤ b ∧ b ≤ 255) (hm : ∀ b ∈ more, 0 ≤ b ∧ b ≤ 255) (hlc : code.length ≤ 140737488355328) (hlm : more.length ≤ 140737488355328) : l_FnDesk code more = some true := by
  unfold l_FnDesk
  rw [w64_of (x := (code.length : Int) + (more.length : Int)) (by omega) (by omega)]
  by_cases hbig : 1048576 < (code.length : Int) + (more.length : Int)
  · rw [dec_t hbig]; rfl
  rw [dec_f hbig]
  replace hlc : code.length ≤ 1048576 := by omega
  replace hlm : more.length ≤ 1048576 := by omega
  obtain ⟨l, m, part, d1, hl⟩ := draw_note hc hlc
  obtain ⟨a, b, parts, d2, ha⟩ := draw_accept hm hlm
  obtain ⟨c, d, d3, hcd⟩ := draw_give hm hlm
  obtain ⟨u, d4, hu⟩ := draw_are hm hlm
  have d5 : s_DrawPartsToSend more = some u := by unfold s_DrawPartsToSend; rw [d4]; rfl
  have d6 : s_DrawReceiptText more = some (c, d) := by unfold s_DrawReceiptText; rw [d3]; rfl
  obtain ⟨n1, n2⟩ := note_val hl.small m part
  obtain ⟨a1, a2⟩ := accept_val ha.small b parts
  obtain ⟨g1, g2⟩ := give_val hcd.small d
  obtain ⟨p1, p2⟩ := parts_val hu.small
  obtain ⟨rc, r1, r2⟩ := receipt_eq (small_fine hcd.small) d
  have q1 := qTickets_self (ask_small hl.small (2, m, part, ())).1
  have q2 := qTickets_self (ask_small ha.small (1, b, parts, ())).1
  have q3 := qTickets_self (ask_small hcd.small (3, d, 0, ())).1
  have q4 : l_qLists (bif areTickets u then (partsT u, true) else ([], false)).1 (bif areTickets u then (partsT u, true) else ([], false)).1 = some true := by
    cases hg : areTickets u with
    | false => exact qLists_self (by simp) (fun r hr => by cases hr)
    | true =>
      have hT : ∀ x ∈ u, TkF x := fun x hx => by
        obtain ⟨i, hi, rfl⟩ := List.getElem_of_mem hx
        exact tk_of (isT_at hg hi)
      have h1 := partsT_len hT
      have := are_len hg
      exact qLists_self (by simp only [cond_true]; omega) fun r hr => by
        obtain ⟨x, y, rfl⟩ := two_at hr
        simp
  have e2 : (bif areTickets u then (partsT u, true) else ([], false) : List (List Int) × Bool).2 = areTickets u := by cases areTickets u <;> rfl
  simp only [cond_false, d1, n1, n2, d2, a1, a2, d3, g1, g2, d5, p1, p2, d6, r1, r2, Option.bind_some, q1, q2, q3, q4, bne_self_eq_false, decide_true, Bool.not_true, i_good (small_fine hu.small), e2]
  -- accepted
  refine bind_eq (x := .inl ((askT l (2, m, part, ())).1, (askT l (2, m, part, ())).1, (askT c (3, d, 0, ())).1, u, (bif areTickets u then (partsT u, true) else ([], false) : List (List Int) × Bool).1)) ?_ ?_
  · cases hk : (askT a (1, b, parts, ())).2 with
    | false => rfl
    | true =>
      obtain ⟨k1, k2, k3, k4⟩ := accept_law ha.small hk
      have hs := (ask_small ha.small (1, b, parts, ())).1
      simp only [cond_true, (stand_val hs b).2, k2, Option.bind_some, Bool.not_true, cond_false, decide_true, i_good (small_fine hs), k1, k3]
      rw [w64_of (by omega) (by omega), dec_t (show (((a.length + 1 : Nat)) : Int) = (a.length : Int) + 1 by omega)]
      rfl
  simp only
  -- given up
  refine bind_eq (x := .inl ((askT l (2, m, part, ())).1, (askT l (2, m, part, ())).1, u, (bif areTickets u then (partsT u, true) else ([], false) : List (List Int) × Bool).1)) ?_ ?_
  · cases hk : (askT c (3, d, 0, ())).2 with
    | false => rfl
    | true =>
      obtain ⟨k1, ⟨r, k2⟩, k3⟩ := gave_law hcd.small hk
      have hs := (ask_small hcd.small (3, d, 0, ())).1
      simp only [cond_true, (stand_val hs d).2, (give_val hs d).2, k2, k3, Option.bind_some, Bool.not_true, cond_false, decide_true, i_good (small_fine hs), k1]
  simp only
  -- what is to be sent
  refine bind_eq (x := .inl ((askT l (2, m, part, ())).1, (askT l (2, m, part, ())).1)) ?_ ?_
  · cases hg : areTickets u with
    | false => rfl
    | true =>
      have h20 := are_len hg
      have hT : ∀ i (hi : i < u.length), TkF u[i] := fun i hi => tk_of (isT_at hg hi)
      have hlen : ∀ i, i ≤ u.length → (partsT (u.take i)).length ≤ 9 * i := fun i hi => by
        have := partsT_len (l := u.take i) fun x hx => by
          obtain ⟨j, hj, rfl⟩ := List.getElem_of_mem (List.mem_of_mem_take hx)
          exact hT j hj
        rw [List.length_take] at this
        omega
      have hpl := hlen u.length (Nat.le_refl _)
      rw [List.take_length] at hpl
      simp only [cond_true]
      generalize (askT l (2, m, part, ())).1 = x
      refine bind_eq (one_loop' (n := u.length) (y := (x, x, partsT u, ((partsT u).length : Int))) (fun i st => st = (x, x, partsT u, ((partsT (u.take i)).length : Int), u, (i : Int))) rfl (fun i st hi hst => ?_) (fun st hst => ?_)) ?_
      · subst hst
        have ex : u[i]? = some u[i] := by simp [hi]
        have hti := hT i hi
        have hli := hlen i (by omega)
        have hsn := partsT_snoc hi
        generalize u[i] = y at ex hti hsn
        refine ⟨_, ?_, rfl⟩
        simp only [dec_t (show (i : Int) < (u.length : Int) by omega), cond_true, idx_get, ex, Option.bind_some, hsn, List.length_append]
        have hp := hti.parts; have hq := hti.len
        by_cases h0 : y.2.2.2.1 = 0
        · have hr : ((partRow y).length : Int) = y.2.1 - (y.2.2.1.length : Int) := by
            unfold partRow
            rw [dec_t h0]
            exact openRow_count hti
          rw [dec_t h0]
          simp only [cond_true]
          rw [w64_of (x := y.2.1 - (y.2.2.1.length : Int)) (by omega) (by omega), w64_of (by omega) (by omega), w64_of (by omega) (by omega)]
          rw [show ((((partsT (u.take i)).length + (partRow y).length : Nat)) : Int) = ((partsT (u.take i)).length : Int) + (y.2.1 - (y.2.2.1.length : Int)) by omega]
          rfl
        · have hr : partRow y = [] := by unfold partRow; rw [dec_f h0]; rfl
          rw [dec_f h0, hr]
          simp only [cond_false]
          rw [w64_of (x := (i : Int) + 1) (by omega) (by omega)]
          rfl
      · subst hst
        simp only [dec_f (Int.lt_irrefl (u.length : Int)), cond_false, List.take_length]
      simp only [decide_true, Bool.not_true, cond_false]
      have hlx := partsT_lx (are_pair hg)
      have htw : ∀ r ∈ partsT u, ∃ a b, r = [a, b] := fun r hr => two_at hr
      generalize partsT u = o at hlx htw hpl
      refine bind_eq (one_loop' (n := o.length) (y := (Sum.inl (x, x) : ((List GTicket) × (List GTicket)) ⊕ Bool)) (fun i st => st = (x, x, (i : Int))) rfl (fun i st hi hst => ?_) (fun st hst => ?_)) rfl
      · subst hst
        obtain ⟨p, q, hpq⟩ := htw _ (List.getElem_mem hi)
        have ex : o[i]? = some [p, q] := by rw [← hpq]; simp [hi]
        refine ⟨_, ?_, rfl⟩
        simp only [dec_t (show (i : Int) < (o.length : Int) by omega), cond_true, idx_get, ex, Option.bind_some]
        rw [show decide ((([p, q] : List Int).length : Int) = 2) = true from rfl]
        simp only [Bool.not_true, cond_false]
        by_cases h0 : 0 < i
        · obtain ⟨a', b', c', d', e1, e3, h3⟩ := lx_at hlx hi h0
          rw [ex] at e3
          simp only [Option.some.injEq, List.cons.injEq, and_true] at e3
          obtain ⟨rfl, rfl⟩ := e3
          rw [dec_t (show (0 : Int) < (i : Int) by omega), w64_of (x := (i : Int) - 1) (by omega) (by omega), show (i : Int) - 1 = ((i - 1 : Nat) : Int) by omega]
          simp only [cond_true, idx_get, e1, Option.bind_some]
          have i0 : ∀ v w : Int, idx [v, w] 0 = some v := fun v w => rfl
          have i1 : ∀ v w : Int, idx [v, w] 1 = some w := fun v w => rfl
          simp only [i0, i1, Option.bind_some]
          rcases h3 with h3 | ⟨h3, h4⟩
          · rw [dec_f (show ¬ p < a' by omega), dec_f (show ¬ a' = p by omega)]
            simp only [cond_false, Option.bind_some]
            rw [w64_of (by omega) (by omega)]
            rfl
          · rw [dec_f (show ¬ p < a' by omega), dec_t h3, dec_f (show ¬ q ≤ b' by omega)]
            simp only [cond_true, cond_false, Option.bind_some]
            rw [w64_of (by omega) (by omega)]
            rfl
        · rw [dec_f (show ¬ (0 : Int) < (i : Int) by omega)]
          simp only [cond_false, Option.bind_some]
          rw [w64_of (by omega) (by omega)]
          rfl
      · subst hst
        simp only [dec_f (Int.lt_irrefl (o.length : Int)), cond_false]
  simp only
  -- a part has arrived
  cases hk : (askT l (2, m, part, ())).2 with
  | false => rfl
  | true =>
    obtain ⟨k1, left, st, fewer, k2, k3, k4, k5, k6, k7, k8, k9, k10, k11, k12⟩ := note_law hl.small hk
    have hs := (ask_small hl.small (2, m, part, ())).1
    simp only [Bool.not_true, cond_false, (stand_val hl.small m).1, (stand_val hl.small m).2, (stand_val hs m).1, (stand_val hs m).2, k2, k3, Option.bind_some, decide_true, i_good (small_fine hs), k1, (note_val hs m part).2]
    rw [w64_of (x := left - fewer) (by omega) (by omega), dec_f (show ¬ left - fewer < 0 by omega), dec_f (show ¬ 1 < left - fewer by omega)]
    by_cases h1 : st = 1
    · rw [dec_t h1, dec_t (k10.1 h1), k11 h1]
      rfl
    · rw [dec_f h1, dec_f (fun h => h1 (k10.2 h)), k12 h1]
      simp only [bne_self_eq_false, cond_false, cond_true, Option.bind_some]
      rw [qTickets_self hs]
      rfl
end Go.Proofs.YthgnllgpdheidaaGreatDoor.Sh

/-!
  Moves one after the other, counts of states, and FnDeskRuns.
-/
namespace Go.Proofs.YthgnllgpdheidaaGreatDoor.Sh
open Go Go.Ab
set_option maxRecDepth 100000

/-! tickets by their order -/

theorem are_iff {l : List GTicket} : areTickets l = true ↔ ((∀ x ∈ l, isT x = true) ∧ (l.Pairwise fun x y => x.1 < y.1) ∧ l.length ≤ 20) := by
  constructor
  · intro h
    refine ⟨fun x hx => ?_, are_pair h, are_len h⟩
    obtain ⟨i, hi, rfl⟩ := List.getElem_of_mem hx
    exact isT_at h hi
  · rintro ⟨h1, h2, h3⟩
    unfold areTickets
    simp only [Bool.and_eq_true, List.all_eq_true, List.mem_range, decide_eq_true_eq]
    refine ⟨fun i hi => ?_, by omega⟩
    unfold okAt
    rw [show l[i]? = some l[i] by simp [hi], ordAt_eq hi]
    simp only [Bool.and_eq_true]
    refine ⟨h1 _ (List.getElem_mem hi), ?_⟩
    by_cases h0 : i = 0
    · rw [dec_t h0]; rfl
    · have := (List.pairwise_iff_getElem.1 h2) (i - 1) i (by omega) hi (by omega)
      rw [dec_f h0, dec_f (by omega)]
      rfl
theorem open_are {l : List GTicket} (h : areTickets l = true) : areTickets (openT l) = true := by
  rw [are_iff] at h ⊢
  refine ⟨fun x hx => h.1 x (List.mem_filter.1 hx).1, h.2.1.filter _, ?_⟩
  have := List.length_filter_le (fun x : GTicket => decide (x.2.2.2.1 = 0)) l
  show (l.filter _).length ≤ 20
  omega
theorem open_parts : ∀ l : List GTicket, partsT (openT l) = partsT l
  | [] => rfl
  | x :: l => by
    have ih := open_parts l
    unfold openT at ih ⊢
    cases h : decide (x.2.2.2.1 = 0) with
    | true =>
      rw [List.filter_cons_of_pos (p := fun x : GTicket => decide (x.2.2.2.1 = 0)) h]
      show partRow x ++ partsT (l.filter _) = partRow x ++ partsT l
      rw [ih]
    | false =>
      rw [List.filter_cons_of_neg (p := fun x : GTicket => decide (x.2.2.2.1 = 0)) (by simp [h])]
      have hr : partRow x = [] := by unfold partRow; rw [h]; rfl
      show partsT (l.filter _) = partRow x ++ partsT l
      rw [ih, hr]; rfl

/-! counts -/

def cntS (l : List GTicket) (s : Int) : Nat := l.countP fun x => decide (x.2.2.2.1 = s)
theorem cntS_snoc {l : List GTicket} {i : Nat} (h : i < l.length) (s : Int) : cntS (l.take (i + 1)) s = cntS (l.take i) s + (bif decide (l[i].2.2.2.1 = s) then 1 else 0) := by
  unfold cntS
  rw [List.take_succ_eq_append_getElem h, List.countP_append, List.countP_cons, List.countP_nil]
  cases decide (l[i].2.2.2.1 = s) <;> simp
theorem cntS_le (l : List GTicket) (s : Int) : cntS l s ≤ l.length := List.countP_le_length
theorem cntS_open : ∀ l : List GTicket, cntS (openT l) 0 = cntS l 0 ∧ (openT l).length = cntS l 0
  | [] => ⟨rfl, rfl⟩
  | x :: l => by
    obtain ⟨h1, h2⟩ := cntS_open l
    unfold openT cntS at h1 h2 ⊢
    cases h : decide (x.2.2.2.1 = 0) with
    | true => rw [List.filter_cons_of_pos (p := fun x : GTicket => decide (x.2.2.2.1 = 0)) h, List.countP_cons_of_pos (p := fun x : GTicket => decide (x.2.2.2.1 = 0)) h, List.countP_cons_of_pos (p := fun x : GTicket => decide (x.2.2.2.1 = 0)) h, List.length_cons, h1, h2]; exact ⟨rfl, rfl⟩
    | false => rw [List.filter_cons_of_neg (p := fun x : GTicket => decide (x.2.2.2.1 = 0)) (by simp [h]), List.countP_cons_of_neg (p := fun x : GTicket => decide (x.2.2.2.1 = 0)) (by simp [h]), h1, h2]; exact ⟨rfl, rfl⟩
theorem cntS_all {l : List GTicket} (h : ∀ x ∈ l, 0 ≤ x.2.2.2.1 ∧ x.2.2.2.1 ≤ 2) : cntS l 0 + cntS l 1 + cntS l 2 = l.length := by
  induction l with
  | nil => rfl
  | cons x l ih =>
    have h1 := h x (by simp)
    have h2 := ih fun y hy => h y (List.mem_cons_of_mem _ hy)
    unfold cntS at h2 ⊢
    simp only [List.countP_cons, List.length_cons]
    have : x.2.2.2.1 = 0 ∨ x.2.2.2.1 = 1 ∨ x.2.2.2.1 = 2 := by omega
    rcases this with h3 | h3 | h3 <;> simp [h3] <;> omega
theorem count_val {l : List GTicket} (h : Small l) : s_CountStates l = some (bif areTickets l then ((cntS l 0 : Int), (cntS l 1 : Int), (cntS l 2 : Int), true) else (0, 0, 0, false)) ∧ i_CountStates l = some (bif areTickets l then ((cntS l 0 : Int), (cntS l 1 : Int), (cntS l 2 : Int), true) else (0, 0, 0, false)) := by
  have hf := small_fine h
  unfold s_CountStates i_CountStates
  rw [s_good hf, i_good hf]
  simp only [Option.bind_some]
  cases hg : areTickets l with
  | false => exact ⟨rfl, rfl⟩
  | true =>
    have h20 := are_len hg
    have hT : ∀ i (hi : i < l.length), TkF l[i] := fun i hi => tk_of (isT_at hg hi)
    have hle : ∀ i s, cntS (l.take i) s ≤ 20 := fun i s => by
      have := cntS_le (l.take i) s
      rw [List.length_take] at this
      omega
    simp only [Bool.not_true, cond_false, cond_true]
    constructor
    · rw [show (decide (0 ≤ 3) && decide (3 ≤ 3) && decide (3 ≤ lim)) = true by unfold lim; decide]
      simp only [cond_true]
      refine bind_eq (one_loop' (n := l.length) (y := [(cntS l 0 : Int), (cntS l 1 : Int), (cntS l 2 : Int)]) (fun i st => st = ([(cntS (l.take i) 0 : Int), (cntS (l.take i) 1 : Int), (cntS (l.take i) 2 : Int)], (i : Int))) rfl (fun i st hi hst => ?_) (fun st hst => ?_)) ?_
      · subst hst
        have ex : l[i]? = some l[i] := by simp [hi]
        have ht := (hT i hi).st
        have a0 := hle i 0; have a1 := hle i 1; have a2 := hle i 2
        refine ⟨_, ?_, rfl⟩
        rw [cntS_snoc hi, cntS_snoc hi, cntS_snoc hi]
        simp only [dec_t (show (i : Int) < (l.length : Int) by omega), cond_true, idx_get, ex, Option.bind_some, w64_of (x := (i : Int) + 1) (by omega) (by omega)]
        generalize l[i].2.2.2.1 = s at ht
        have : s = 0 ∨ s = 1 ∨ s = 2 := by omega
        rcases this with h3 | h3 | h3 <;> subst h3 <;> simp [w64_of (x := ((cntS (l.take i) 0 : Nat) : Int) + 1) (by omega) (by omega), w64_of (x := ((cntS (l.take i) 1 : Nat) : Int) + 1) (by omega) (by omega), w64_of (x := ((cntS (l.take i) 2 : Nat) : Int) + 1) (by omega) (by omega)]
      · subst hst
        simp only [dec_f (Int.lt_irrefl (l.length : Int)), cond_false, List.take_length]
      · rfl
    · refine bind_eq (one_loop' (n := l.length) (y := ((cntS l 0 : Int), (cntS l 1 : Int), (cntS l 2 : Int))) (fun i st => st = ((cntS (l.take i) 0 : Int), (cntS (l.take i) 1 : Int), (cntS (l.take i) 2 : Int), (i : Int))) rfl (fun i st hi hst => ?_) (fun st hst => ?_)) rfl
      · subst hst
        have ex : l[i]? = some l[i] := by simp [hi]
        have ht := (hT i hi).st
        have a0 := hle i 0; have a1 := hle i 1; have a2 := hle i 2
        refine ⟨_, ?_, rfl⟩
        rw [cntS_snoc hi, cntS_snoc hi, cntS_snoc hi]
        simp only [dec_t (show (i : Int) < (l.length : Int) by omega), cond_true, idx_get, ex, Option.bind_some, w64_of (x := (i : Int) + 1) (by omega) (by omega)]
        generalize l[i].2.2.2.1 = s at ht
        have : s = 0 ∨ s = 1 ∨ s = 2 := by omega
        rcases this with h3 | h3 | h3 <;> subst h3 <;> simp [w64_of (x := ((cntS (l.take i) 0 : Nat) : Int) + 1) (by omega) (by omega), w64_of (x := ((cntS (l.take i) 1 : Nat) : Int) + 1) (by omega) (by omega), w64_of (x := ((cntS (l.take i) 2 : Nat) : Int) + 1) (by omega) (by omega)]
      · subst hst
        simp only [dec_f (Int.lt_irrefl (l.length : Int)), cond_false, List.take_length]

/-! moves one after the other -/

noncomputable def runT : List GTicket → List GDeskMove → List GTicket × Nat
  | l, [] => (l, 0)
  | l, m :: ms => bif (stepT l m).2 then ((runT (stepT l m).1 ms).1, (runT (stepT l m).1 ms).2 + 1) else (l, 0)
theorem runT_are : ∀ (ms : List GDeskMove) {l : List GTicket}, areTickets l = true → areTickets (runT l ms).1 = true ∧ (runT l ms).2 ≤ ms.length
  | [], _, h => ⟨h, Nat.le_refl _⟩
  | m :: ms, l, h => by
    unfold runT
    cases hb : (stepT l m).2 with
    | false => exact ⟨h, Nat.zero_le _⟩
    | true =>
      have := runT_are ms ((step_fine (are_drawn h).small h m).2 hb)
      exact ⟨this.1, by simp only [cond_true, List.length_cons]; omega⟩
theorem runT_append : ∀ (a b : List GDeskMove) {l : List GTicket}, (runT l a).2 = a.length → runT l (a ++ b) = ((runT (runT l a).1 b).1, a.length + (runT (runT l a).1 b).2)
  | [], b, l, _ => by simp [runT]
  | m :: a, b, l, h => by
    have e : ∀ c, runT l (m :: c) = bif (stepT l m).2 then ((runT (stepT l m).1 c).1, (runT (stepT l m).1 c).2 + 1) else (l, 0) := fun c => rfl
    rw [e] at h
    rw [List.cons_append, e, e]
    cases hb : (stepT l m).2 with
    | false => rw [hb] at h; cases h
    | true =>
      rw [hb] at h
      simp only [cond_true, List.length_cons, Nat.add_right_cancel_iff] at h ⊢
      rw [runT_append a b h]
      simp only [Prod.mk.injEq, true_and]
      omega
theorem runT_pre : ∀ (a b : List GDeskMove) {l : List GTicket}, a.length ≤ (runT l (a ++ b)).2 → (runT l a).2 = a.length
  | [], _, _, _ => rfl
  | m :: a, b, l, h => by
    have e : ∀ c, runT l (m :: c) = bif (stepT l m).2 then ((runT (stepT l m).1 c).1, (runT (stepT l m).1 c).2 + 1) else (l, 0) := fun c => rfl
    rw [List.cons_append, e] at h
    rw [e]
    cases hb : (stepT l m).2 with
    | false => rw [hb] at h; simp at h
    | true =>
      rw [hb] at h
      simp only [cond_true, List.length_cons] at h ⊢
      rw [runT_pre a b (by omega)]
/-- all that were made -/
theorem runT_take : ∀ (ms : List GDeskMove) (l : List GTicket), runT l (ms.take (runT l ms).2) = ((runT l ms).1, (runT l ms).2)
  | [], l => rfl
  | m :: ms, l => by
    have e : ∀ c, runT l (m :: c) = bif (stepT l m).2 then ((runT (stepT l m).1 c).1, (runT (stepT l m).1 c).2 + 1) else (l, 0) := fun c => rfl
    rw [e]
    cases hb : (stepT l m).2 with
    | false => rfl
    | true =>
      simp only [cond_true, List.take_succ_cons]
      rw [e, hb, runT_take ms]
      rfl
theorem runT_next : ∀ (ms : List GDeskMove) (l : List GTicket) (m : GDeskMove), ms[(runT l ms).2]? = some m → (stepT (runT l ms).1 m).2 = false
  | [], _, _, h => by simp at h
  | m0 :: ms, l, m, h => by
    have e : ∀ c, runT l (m0 :: c) = bif (stepT l m0).2 then ((runT (stepT l m0).1 c).1, (runT (stepT l m0).1 c).2 + 1) else (l, 0) := fun c => rfl
    rw [e] at h ⊢
    cases hb : (stepT l m0).2 with
    | false =>
      rw [hb] at h
      simp only [cond_false, List.getElem?_cons_zero, Option.some.injEq] at h ⊢
      rw [← h]; exact hb
    | true =>
      rw [hb] at h
      simp only [cond_true, List.getElem?_cons_succ] at h ⊢
      exact runT_next ms _ m h

noncomputable def runV (l : List GTicket) (ms : List GDeskMove) : List GTicket × Int × Bool := bif areTickets l && decide (ms.length ≤ 60) then ((runT l ms).1, ((runT l ms).2 : Int), true) else ([], 0, false)
noncomputable def rOut (l : List GTicket) (i : Nat) (ms : List GDeskMove) : List GTicket ⊕ (List GTicket × Int × Bool) := if (runT l ms).2 = ms.length then .inl (runT l ms).1 else .inr ((runT l ms).1, ((i + (runT l ms).2 : Nat) : Int), true)
theorem r_loop {all : List GDeskMove} (hl : all.length ≤ 60) {f : (List GTicket) × Int → Option (((List GTicket) × Int) ⊕ ((List GTicket) ⊕ ((List GTicket) × Int × Bool)))}
    (hf : ∀ l (i : Nat), areTickets l = true → f (l, (i : Int)) = bif decide ((i : Int) < (all.length : Int)) then (idx all (i : Int)).bind fun m => bif !(stepT l m).2 then some (.inr (.inr (l, (i : Int), true))) else some (.inl ((stepT l m).1, w64 ((i : Int) + 1))) else some (.inr (.inl l))) :
    ∀ (suf pre : List GDeskMove) (l : List GTicket), all = pre ++ suf → areTickets l = true → loopE f (l, (pre.length : Int)) = some (rOut l pre.length suf)
  | [], pre, l, e, hg => by
    rw [List.append_nil] at e
    subst e
    refine loopE_done ?_
    rw [hf l _ hg, dec_f (Int.lt_irrefl _)]
    rfl
  | m :: suf, pre, l, e, hg => by
    have hlen : all.length = pre.length + (suf.length + 1) := by rw [e]; simp
    have hx : idx all (pre.length : Int) = some m := by rw [idx_get, e]; simp
    have ee : runT l (m :: suf) = bif (stepT l m).2 then ((runT (stepT l m).1 suf).1, (runT (stepT l m).1 suf).2 + 1) else (l, 0) := rfl
    cases hb : (stepT l m).2 with
    | false =>
      refine loopE_done ?_
      rw [hf l _ hg, dec_t (by omega), hx]
      simp only [cond_true, Option.bind_some, hb, Bool.not_false]
      unfold rOut
      rw [ee, hb]
      simp
    | true =>
      have hg2 := (step_fine (are_drawn hg).small hg m).2 hb
      have ih := r_loop hl hf suf (pre ++ [m]) (stepT l m).1 (by rw [e]; simp) hg2
      rw [loopE_step (a' := ((stepT l m).1, ((pre ++ [m]).length : Int)))]
      · rw [ih]
        unfold rOut
        rw [ee, hb]
        simp only [cond_true, List.length_append, List.length_cons, List.length_nil, Nat.zero_add, Nat.add_right_cancel_iff]
        rw [show pre.length + 1 + (runT (stepT l m).1 suf).2 = pre.length + ((runT (stepT l m).1 suf).2 + 1) by omega]
      · rw [hf l _ hg, dec_t (by omega), hx]
        simp only [cond_true, Option.bind_some, hb, Bool.not_true, cond_false]
        rw [w64_of (by omega) (by omega)]
        simp
theorem rOut_end (l : List GTicket) (ms : List GDeskMove) : (match rOut l 0 ms with
    | .inl x9 => some (x9, (ms.length : Int), true)
    | .inr y10 => some (y10.1, y10.2.1, y10.2.2)) = some ((runT l ms).1, ((runT l ms).2 : Int), true) := by
  unfold rOut
  by_cases h : (runT l ms).2 = ms.length
  · rw [if_pos h, h]
  · rw [if_neg h]; simp
theorem run_val {l : List GTicket} (h : Small l) {ms : List GDeskMove} (hm : ms.length ≤ 1000) : s_RunDesk l ms = some (runV l ms) ∧ i_RunDesk l ms = some (runV l ms) := by
  have hf := small_fine h
  unfold s_RunDesk i_RunDesk runV
  rw [s_good hf, i_good hf]
  simp only [Option.bind_some]
  cases hg : areTickets l with
  | false => exact ⟨rfl, rfl⟩
  | true =>
    by_cases h60 : ms.length ≤ 60
    · rw [dec_t h60, dec_f (show ¬ (60 : Int) < (ms.length : Int) by omega), ownT h, cloneT h]
      simp only [Bool.not_true, cond_false, cond_true, Option.bind_some, Bool.and_self]
      constructor
      · refine bind_eq (r_loop h60 (fun l i hg => ?_) ms [] l rfl hg) (rOut_end l ms)
        cases decide ((i : Int) < (ms.length : Int)) with
        | false => rfl
        | true =>
          simp only [cond_true]
          cases idx ms (i : Int) with
          | none => rfl
          | some m => simp only [Option.bind_some, s_step (are_drawn hg).small hg]
      · refine bind_eq (r_loop h60 (fun l i hg => ?_) ms [] l rfl hg) (rOut_end l ms)
        cases decide ((i : Int) < (ms.length : Int)) with
        | false => rfl
        | true =>
          simp only [cond_true]
          cases idx ms (i : Int) with
          | none => rfl
          | some m => simp only [Option.bind_some, i_step (are_drawn hg).small hg]
    · rw [dec_f h60, dec_t (show (60 : Int) < (ms.length : Int) by omega)]
      exact ⟨rfl, rfl⟩

/-! messages stay -/

def Has (l : List GTicket) (k : Int) : Prop := ∃ x ∈ l, x.1 = k
theorem set_has {l : List GTicket} {i : Nat} {x y : GTicket} (hx : l[i]? = some x) (hy : y.1 = x.1) {k : Int} (h : Has l k) : Has (l.set i y) k := by
  obtain ⟨z, hz, hk⟩ := h
  obtain ⟨j, hj, rfl⟩ := List.getElem_of_mem hz
  obtain ⟨hi, e⟩ := List.getElem?_eq_some_iff.1 hx
  by_cases hij : i = j
  · subst hij
    exact ⟨y, List.mem_iff_getElem.2 ⟨i, by simpa using hi, by simp⟩, by rw [hy, ← hk, e]⟩
  · exact ⟨l[j], List.mem_iff_getElem.2 ⟨j, by simpa using hj, by simp [List.getElem_set, hij]⟩, hk⟩
theorem step_has {l : List GTicket} {m : GDeskMove} (hb : (stepT l m).2 = true) : Has (stepT l m).1 m.2.1 ∧ ∀ k, Has l k → Has (stepT l m).1 k := by
  unfold stepT at hb ⊢
  cases h1 : decide (m.1 = 1) with
  | true =>
    rw [h1] at hb
    simp only [cond_true] at hb ⊢
    unfold accept at hb ⊢
    cases hw : areTickets (withT l m.2.1 m.2.2.1) with
    | false => rw [hw] at hb; cases hb
    | true =>
      simp only [cond_true]
      unfold withT
      refine ⟨⟨newT m.2.1 m.2.2.1, by simp, rfl⟩, fun k ⟨x, hx, hk⟩ => ⟨x, ?_, hk⟩⟩
      rw [← List.take_append_drop (placeT l m.2.1) l, List.mem_append] at hx
      rw [List.mem_append, List.mem_cons]
      exact hx.imp (fun h => h) .inr
  | false =>
    rw [h1] at hb
    simp only [cond_false] at hb ⊢
    cases h2 : decide (m.1 = 2) with
    | true =>
      rw [h2] at hb
      simp only [cond_true] at hb ⊢
      unfold notedT at hb ⊢
      cases hi : firstAt (fun x : GTicket => decide (x.1 = m.2.1)) l 0 with
      | none => rw [hi] at hb; cases hb
      | some i =>
        rw [hi] at hb
        obtain ⟨x, hx, _, ht⟩ := firstAt_get l 0 i hi
        rw [Nat.sub_zero] at hx
        simp only [hx] at hb ⊢
        cases h0 : (decide (x.2.2.2.1 = 0) && inB m.2.2.1 0 (w64 (x.2.1 - 1))) with
        | false => rw [h0] at hb; cases hb
        | true =>
          have hs := fun k h => set_has (l := l) hx (y := gotT x m.2.2.1) rfl (k := k) h
          exact ⟨hs _ ⟨x, List.mem_of_getElem? hx, of_decide_eq_true ht⟩, hs⟩
    | false =>
      rw [h2] at hb
      simp only [cond_false] at hb ⊢
      cases h3 : decide (m.1 = 3) with
      | true =>
        rw [h3] at hb
        simp only [cond_true] at hb ⊢
        unfold gaveUp at hb ⊢
        cases hi : firstAt (fun x : GTicket => decide (x.1 = m.2.1)) l 0 with
        | none => rw [hi] at hb; cases hb
        | some i =>
          rw [hi] at hb
          obtain ⟨x, hx, _, ht⟩ := firstAt_get l 0 i hi
          rw [Nat.sub_zero] at hx
          simp only [hx] at hb ⊢
          cases h0 : decide (x.2.2.2.1 = 0) with
          | false => rw [h0] at hb; cases hb
          | true =>
            have hs := fun k h => set_has (l := l) hx (y := failed x) rfl (k := k) h
            exact ⟨hs _ ⟨x, List.mem_of_getElem? hx, of_decide_eq_true ht⟩, hs⟩
      | false => rw [h3] at hb; cases hb
theorem runT_keep : ∀ (ms : List GDeskMove) (l : List GTicket) (k : Int), Has l k → Has (runT l ms).1 k
  | [], _, _, h => h
  | m :: ms, l, k, h => by
    unfold runT
    cases hb : (stepT l m).2 with
    | false => exact h
    | true => exact runT_keep ms _ k ((step_has hb).2 k h)
theorem runT_has : ∀ (ms : List GDeskMove) (l : List GTicket), ∀ m ∈ ms.take (runT l ms).2, Has (runT l ms).1 m.2.1
  | [], _, m, h => by simp at h
  | m0 :: ms, l, m, h => by
    have e : runT l (m0 :: ms) = bif (stepT l m0).2 then ((runT (stepT l m0).1 ms).1, (runT (stepT l m0).1 ms).2 + 1) else (l, 0) := rfl
    rw [e] at h ⊢
    cases hb : (stepT l m0).2 with
    | false => rw [hb] at h; simp at h
    | true =>
      rw [hb] at h
      simp only [cond_true, List.take_succ_cons, List.mem_cons] at h ⊢
      rcases h with rfl | h
      · exact runT_keep ms _ _ (step_has hb).1
      · exact runT_has ms _ m h
def Yes (o : Option (Bytes × Bool)) : Prop := ∀ r, o = some r → r.2 = true
theorem yes_none : Yes none := fun _ h => by cases h
theorem yes_some (t : Bytes) : Yes (some (t, true)) := fun r h => by cases h; rfl
theorem yes_if {c : Bool} {o : Option (Bytes × Bool)} (h : Yes o) : Yes (bif c then o else none) := by cases c with
  | true => exact h
  | false => exact yes_none
theorem yes_bind {α : Type} {o : Option α} {f : α → Option (Bytes × Bool)} (h : ∀ x, Yes (f x)) : Yes (o.bind f) := by cases o with
  | none => exact yes_none
  | some x => exact h x
theorem receipt_has {l : List GTicket} (hg : areTickets l = true) (hs : Small l) {k : Int} (h : Has l k) : ∃ t, s_ReceiptText l k = some (t, true) ∧ i_ReceiptText l k = some (t, true) := by
  have hf := small_fine hs
  obtain ⟨⟨t, b⟩, h1, h2⟩ := receipt_eq hf k
  suffices hb : b = true by subst hb; exact ⟨t, h1, h2⟩
  obtain ⟨x, hx, hk⟩ := h
  obtain ⟨i, hi, rfl⟩ := List.getElem_of_mem hx
  have hf1 := first_of hg (i := i) (x := l[i]) (by simp [hi])
  rw [hk] at hf1
  refine (?_ : Yes (s_ReceiptText l k)) (t, b) h1
  unfold s_ReceiptText
  rw [s_find hf.len, hf1, s_good hf, hg]
  simp only [Option.bind_some, Bool.not_true, cond_false, dec_f (show ¬ (i : Int) < 0 by omega)]
  exact yes_bind fun _ => yes_bind fun _ => yes_if (yes_if (yes_bind fun _ => yes_if (yes_bind fun _ => yes_if (yes_if (yes_if (yes_bind fun _ => yes_if (yes_some _)))))))
theorem stand_facts {l : List GTicket} {m : Int} (h : (stand l m).2.2 = true) : 0 ≤ (stand l m).2.1 ∧ ((stand l m).1 = 1 ↔ (stand l m).2.1 = 0) := by
  obtain ⟨hg, i, x, hx, rfl⟩ := stand_ok h
  rw [stand_at hg hx]
  have ht := tk_at hg hx
  have h1 := ht.len; have h2 := ht.full
  simp only
  omega

/-- FnDeskRuns -/
theorem plain_DeskRuns (code more : List Int) (hc : ∀ b ∈ code, 0 ≤ b ∧ b ≤ 255) (hm : ∀ b ∈ more, 0 ≤ b ∧ b ≤ 255) (hlc : code.length ≤ 140737488355328) (hlm : more.length ≤ 140737488355328) : l_FnDeskRuns code more = some true := by
  unfold l_FnDeskRuns
  rw [w64_of (x := (code.length : Int) + (more.length : Int)) (by omega) (by omega)]
  by_cases hbig : 1048576 < (code.length : Int) + (more.length : Int)
  · rw [dec_t hbig]; rfl
  rw [dec_f hbig]
  replace hlc : code.length ≤ 1048576 := by omega
  replace hlm : more.length ≤ 1048576 := by omega
  obtain ⟨l, ms, d1, hl, hms⟩ := draw_run hc hlc
  obtain ⟨u, d2, hu⟩ := draw_are hm hlm
  have d3 : s_DrawCountStates more = some u := by unfold s_DrawCountStates; rw [d2]; rfl
  obtain ⟨a, b, d4, ha⟩ := draw_give hm hlm
  have d5 : s_DrawStandingOf more = some (a, b) := by unfold s_DrawStandingOf; rw [d4]; rfl
  obtain ⟨v1, v2⟩ := run_val hl.small (ms := ms) (by omega)
  obtain ⟨c1, c2⟩ := count_val hu.small
  obtain ⟨t1, t2⟩ := stand_val ha.small b
  obtain ⟨p1, p2⟩ := parts_val hu.small
  have hou := openT_small hu.small
  obtain ⟨oc1, oc2⟩ := count_val hou
  obtain ⟨op1, op2⟩ := parts_val hou
  have k1 := s_clear hu.small
  have k2 := i_clear hu.small
  have hsm : Small (runV l ms).1 := by
    unfold runV
    cases hg : (areTickets l && decide (ms.length ≤ 60)) with
    | false => exact ⟨by simp, by simp⟩
    | true =>
      simp only [Bool.and_eq_true] at hg
      exact (are_drawn (runT_are ms hg.1).1).small
  have q1 := qTickets_self hsm
  have q2 : l_qTickets (bif areTickets u then (openT u, true) else ([], false) : List GTicket × Bool).1 (bif areTickets u then (openT u, true) else ([], false) : List GTicket × Bool).1 = some true := by
    cases areTickets u with
    | true => exact qTickets_self hou
    | false => exact qTickets_self ⟨by simp, by simp⟩
  have e1 : (bif areTickets u then (openT u, true) else ([], false) : List GTicket × Bool).2 = areTickets u := by cases areTickets u <;> rfl
  have e2 : (bif areTickets u then ((cntS u 0 : Int), (cntS u 1 : Int), (cntS u 2 : Int), true) else (0, 0, 0, false) : Int × Int × Int × Bool).2.2.2 = areTickets u := by cases areTickets u <;> rfl
  simp only [cond_false, d1, v1, v2, d3, c1, c2, k1, k2, d5, t1, t2, Option.bind_some, q1, q2, bne_self_eq_false, decide_true, Bool.not_true, e1, e2]
  refine bind_eq (x := .inl (l, ms, (runV l ms).1, (runV l ms).1)) ?_ ?_
  · cases hg : areTickets u with
    | false => rfl
    | true =>
      have h20 := are_len hg
      have hT : ∀ x ∈ u, TkF x := fun x hx => by
        obtain ⟨i, hi, rfl⟩ := List.getElem_of_mem hx
        exact tk_of (isT_at hg hi)
      have hs := cntS_all fun x hx => (hT x hx).st
      obtain ⟨o1, o2⟩ := cntS_open u
      have hq : l_qLists (partsT u) (partsT u) = some true := by
        have h1 := partsT_len hT
        exact qLists_self (by omega) fun r hr => by
          obtain ⟨x, y, rfl⟩ := two_at hr
          simp
      simp only [cond_true, oc2, op2, p1, p2, open_are hg, hg, Option.bind_some, open_parts, o1, o2, decide_true, Bool.not_true, cond_false, hq]
      rw [dec_t (show w64 (w64 ((cntS u 0 : Int) + (cntS u 1 : Int)) + (cntS u 2 : Int)) = (u.length : Int) by rw [w64_of (x := (cntS u 0 : Int) + (cntS u 1 : Int)) (by omega) (by omega), w64_of (by omega) (by omega)]; omega)]
      rfl
  simp only
  refine bind_eq (x := false) ?_ ?_
  · cases hk : (stand a b).2.2 with
    | false => rfl
    | true =>
      obtain ⟨f1, f2⟩ := stand_facts hk
      generalize (stand a b).1 = x at f2
      generalize (stand a b).2.1 = y at f1 f2
      rw [dec_f (show ¬ y < 0 by omega)]
      by_cases h1 : x = 1
      · rw [dec_t h1, dec_t (f2.1 h1)]; rfl
      · rw [dec_f h1, dec_f (fun h => h1 (f2.2 h))]; rfl
  simp only [cond_false]
  cases hk : (runV l ms).2.2 with
  | false => rfl
  | true =>
    obtain ⟨hg, h60⟩ : areTickets l = true ∧ ms.length ≤ 60 := by
      unfold runV at hk
      cases hh : (areTickets l && decide (ms.length ≤ 60)) with
      | false => rw [hh] at hk; cases hk
      | true => simp only [Bool.and_eq_true, decide_eq_true_eq] at hh; exact hh
    have ev : runV l ms = ((runT l ms).1, ((runT l ms).2 : Int), true) := by unfold runV; rw [hg, dec_t h60]; rfl
    rw [ev]
    obtain ⟨hg2, hd⟩ := runT_are ms hg
    have hR := runT_take ms l
    have hH := runT_has ms l
    have hN := runT_next ms l
    generalize hr : (runT l ms).1 = r at hg2 hR hH hN
    generalize hd2 : (runT l ms).2 = d at hd hR hH hN
    have hr0 := (are_drawn hg2).small
    have hdiv : w64 (Int.tdiv (d : Int) 2) = ((d / 2 : Nat) : Int) := by
      rw [show Int.tdiv (d : Int) 2 = ((d / 2 : Nat) : Int) from rfl]
      exact w64_of (by omega) (by omega)
    have hsub : ∀ i j : Nat, i ≤ j → j ≤ ms.length → sub ms (i : Int) (j : Int) = some ((ms.take j).drop i) := fun i j h1 h2 => by
      unfold sub
      rw [if_pos (by omega), Int.toNat_natCast, Int.toNat_natCast]
    have hhalf : d / 2 ≤ d := Nat.div_le_self d 2
    have s1 := hsub 0 (d / 2) (by omega) (by omega)
    have s2 := hsub (d / 2) d hhalf hd
    have s3 := hsub 0 d (by omega) hd
    rw [List.drop_zero] at s1 s3
    have hAB : ms.take (d / 2) ++ (ms.take d).drop (d / 2) = ms.take d := by
      rw [show ms.take (d / 2) = (ms.take d).take (d / 2) by rw [List.take_take, Nat.min_eq_left hhalf]]
      exact List.take_append_drop _ _
    have hlA : (ms.take (d / 2)).length = d / 2 := by rw [List.length_take]; omega
    have hlB : ((ms.take d).drop (d / 2)).length = d - d / 2 := by rw [List.length_drop, List.length_take]; omega
    have hR2 := hR
    rw [← hAB] at hR2
    have hpre := runT_pre (ms.take (d / 2)) ((ms.take d).drop (d / 2)) (l := l) (by rw [hR2, hlA]; exact hhalf)
    rw [runT_append _ _ hpre, hlA] at hR2
    rw [hlA] at hpre
    obtain ⟨hgA, _⟩ := runT_are (ms.take (d / 2)) hg
    have vA : i_RunDesk l (ms.take (d / 2)) = some ((runT l (ms.take (d / 2))).1, ((d / 2 : Nat) : Int), true) := by
      rw [(run_val hl.small (by omega)).2]
      unfold runV
      rw [hg, dec_t (show (ms.take (d / 2)).length ≤ 60 by omega), hpre]
      rfl
    generalize (runT l (ms.take (d / 2))).1 = r1 at hR2 hgA vA
    have vB : i_RunDesk r1 ((ms.take d).drop (d / 2)) = some (r, ((d - d / 2 : Nat) : Int), true) := by
      rw [(run_val (are_drawn hgA).small (by omega)).2]
      unfold runV
      rw [hgA, dec_t (show ((ms.take d).drop (d / 2)).length ≤ 60 by omega)]
      obtain ⟨x1, x2⟩ := Prod.mk.inj hR2
      rw [x1, show (runT r1 ((ms.take d).drop (d / 2))).2 = d - d / 2 by omega]
      rfl
    have z0 : ((0 : Nat) : Int) = 0 := rfl
    rw [z0] at s1 s3
    simp only [Bool.not_true, cond_false, hdiv, s1, s2, s3, vA, vB, Option.bind_some, decide_true, qTickets_self hr0, i_good (small_fine hr0), hg2]
    rw [w64_of (x := (d : Int) - ((d / 2 : Nat) : Int)) (by omega) (by omega), dec_t (show ((d - d / 2 : Nat) : Int) = (d : Int) - ((d / 2 : Nat) : Int) by omega)]
    simp only [Bool.not_true, cond_false, Option.bind_some]
    have hlT : (ms.take d).length = d := by rw [List.length_take]; omega
    refine bind_eq (one_loop' (n := d) (y := (Sum.inl r : (List GTicket) ⊕ Bool)) (fun i st => st = (r, r, (i : Int))) rfl (fun i st hi hst => ?_) (fun st hst => ?_)) ?_
    · subst hst
      refine ⟨_, ?_, rfl⟩
      have hi2 : i < (ms.take d).length := by omega
      have ex : (ms.take d)[i]? = some (ms.take d)[i] := by simp [hi]
      obtain ⟨t, y1, y2⟩ := receipt_has hg2 hr0 (hH _ (List.getElem_mem hi2))
      simp only [dec_t (show (i : Int) < ((ms.take d).length : Int) by omega), cond_true, idx_get, ex, Option.bind_some, y1, y2, Bool.not_true, cond_false, decide_true]
      rw [w64_of (by omega) (by omega)]
      rfl
    · subst hst
      rw [dec_f (show ¬ (d : Int) < ((ms.take d).length : Int) by omega)]
      rfl
    · simp only
      by_cases h0 : d = ms.length
      · rw [dec_t (show (d : Int) = (ms.length : Int) by omega)]; rfl
      · rw [dec_f (show ¬ (d : Int) = (ms.length : Int) by omega)]
        have s4 := hsub d (d + 1) (by omega) (by omega)
        have hlt : d < ms.length := by omega
        have e4 : (ms.take (d + 1)).drop d = [ms[d]] := by
          rw [List.take_succ_eq_append_getElem hlt, List.drop_append, hlT, Nat.sub_self, List.drop_zero, List.drop_of_length_le (by omega)]
          rfl
        rw [e4] at s4
        have hst := hN ms[d] (by simp [hlt])
        have v5 : i_RunDesk r [ms[d]] = some (r, 0, true) := by
          rw [(run_val hr0 (by simp)).2]
          unfold runV
          rw [hg2, dec_t (show ([ms[d]] : List GDeskMove).length ≤ 60 by simp)]
          unfold runT
          rw [hst]
          rfl
        rw [w64_of (by omega) (by omega), show (d : Int) + 1 = ((d + 1 : Nat) : Int) by omega, s4]
        simp only [cond_false, Option.bind_some, v5]
        rfl
end Go.Proofs.YthgnllgpdheidaaGreatDoor.Sh
