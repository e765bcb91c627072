/-
  Tickets, in plain Lean.
-/
import Derived.Test.YteocijadidgagaaDoorXLaw
import Derived.Test.YteocijadidgagaaDoorRcFns
import Derived.Test.YteocijadidgagaaDoorXNum
namespace Go.Proofs.YteocijadidgagaaDoor.Sh
open Go Go.Ab Go.Proofs

def inB (n lo hi : Int) : Bool := decide (lo ≤ n) && decide (n ≤ hi)
theorem l1In_eq (n lo hi : Int) : s_l1In n lo hi = some (inB n lo hi) := by
  unfold s_l1In inB
  cases decide (lo ≤ n) <;> rfl
theorem within_eq (n lo hi : Int) : i_within n lo hi = some (inB n lo hi) := by
  unfold i_within inB
  cases decide (lo ≤ n) <;> rfl

theorem at_lt {n i : Nat} (hi : i < n) : decide ((i : Int) < (n : Int)) = true := decide_eq_true (by omega)
theorem up {n i : Nat} (hn : n ≤ maxLen) (hi : i < n) : w64 ((i : Int) + 1) = (i : Int) + 1 := by unfold maxLen at hn; exact w64_of (by omega) (by omega)

theorem i_all {l : List Int} {lo hi : Int} (h : l.length ≤ maxLen) : i_allWithin l lo hi = some (l.all fun x => inB x lo hi) := by
  unfold i_allWithin
  rw [all_loop (l := l) (fun x => inB x lo hi) false ?_ ?_]
  · cases l.all fun x => inB x lo hi <;> rfl
  · intro i x hx hi'
    simp only [idx_get, hx, Option.bind_some, within_eq, at_lt hi', up h hi']
    cases inB x lo hi <;> rfl
  · simp

theorem prevI {α : Type} {l : List α} (h : l.length ≤ maxLen) {i : Nat} (hi : i < l.length) (h0 : 0 < i) : idx l (w64 ((i : Int) - 1)) = some (l[i - 1]'(by omega)) := by
  unfold maxLen at h
  rw [w64_of (by omega) (by omega), show (i : Int) - 1 = ((i - 1 : Nat) : Int) by omega, idx_get]
  simp [show i - 1 < l.length by omega]

/-- the number at place i is greater than the one before -/
def risesAt (l : List Int) (i : Nat) : Bool := match l[i]?, l[i - 1]? with
  | some x, some y => decide (i = 0) || !decide (x ≤ y)
  | _, _ => false
def rising (l : List Int) (lo hi : Int) : Bool := (l.all fun x => inB x lo hi) && (List.range l.length).all (risesAt l)

theorem risesAt_eq {l : List Int} {i : Nat} (hi : i < l.length) : risesAt l i = (decide (i = 0) || !decide (l[i] ≤ l[i - 1]'(by omega))) := by
  unfold risesAt
  have e1 : l[i]? = some l[i] := by simp [hi]
  have e2 : l[i - 1]? = some (l[i - 1]'(by omega)) := by simp [show i - 1 < l.length by omega]
  rw [e1, e2]

theorem s_rising {l : List Int} {lo hi : Int} (h : l.length ≤ maxLen) : s_l1Rising l lo hi = some (rising l lo hi) := by
  unfold s_l1Rising
  rw [all_loop_at (n := l.length) (fun i => (match l[i]? with | some x => inB x lo hi | none => false) && risesAt l i) false ?_ ?_]
  · have : ((List.range l.length).all fun i => (match l[i]? with | some x => inB x lo hi | none => false) && risesAt l i) = rising l lo hi := by
      unfold rising
      rw [Bool.eq_iff_iff]
      simp only [List.all_eq_true, List.mem_range, Bool.and_eq_true]
      constructor
      · intro H
        refine ⟨fun x hx => ?_, fun i hi => (H i hi).2⟩
        obtain ⟨i, hi, rfl⟩ := List.getElem_of_mem hx
        have := (H i hi).1
        simpa [hi] using this
      · intro H i hi
        refine ⟨?_, H.2 i hi⟩
        have e1 : l[i]? = some l[i] := by simp [hi]
        rw [e1]
        exact H.1 _ (List.getElem_mem hi)
    rw [this]
    cases rising l lo hi <;> rfl
  · intro i hi'
    have hx : l[i]? = some l[i] := by simp [hi']
    simp only [idx_get, hx, Option.bind_some, at_lt hi', up h hi', l1In_eq, risesAt_eq hi', cond_true]
    cases inB l[i] lo hi with
    | false => rfl
    | true =>
      by_cases h0 : 0 < i
      · rw [show decide ((0 : Int) < (i : Int)) = true from decide_eq_true (by omega), prevI h hi' h0, show decide (i = 0) = false from decide_eq_false (by omega)]
        simp only [cond_true, Option.bind_some, Bool.not_true, cond_false, Bool.false_or, Bool.true_and]
        cases decide (l[i] ≤ l[i - 1]'(by omega)) <;> rfl
      · rw [show decide ((0 : Int) < (i : Int)) = false from decide_eq_false (by omega), show decide (i = 0) = true from decide_eq_true (by omega)]
        rfl
  · simp

theorem all_from {β : Type} {n : Nat} {f : Int → Option (Int ⊕ (Unit ⊕ β))} (T : Nat → Bool) (y : β)
    (hf : ∀ (i : Nat), 0 < i → i < n → f i = some (bif T i then .inl ((i : Int) + 1) else .inr (.inr y))) (hend : ∀ i : Nat, n ≤ i → f i = some (.inr (.inl ()))) :
    ∀ (m k : Nat), 0 < k → n ≤ k + m → loopE f k = some (bif (List.range' k m).all (fun i => !decide (i < n) || T i) then .inl () else .inr y)
  | 0, k, _, h => by
    rw [loopE_done (hend k (by omega))]
    rfl
  | m + 1, k, h0, h => by
    by_cases hk : k < n
    · have hs := hf k h0 hk
      rw [List.range'_succ, List.all_cons, decide_eq_true hk]
      simp only [Bool.not_true, Bool.false_or]
      cases ht : T k with
      | true =>
        rw [ht] at hs
        rw [loopE_step hs]
        have ih := all_from T y hf hend m (k + 1) (by omega) (by omega)
        simp only [Bool.true_and]
        exact ih
      | false =>
        rw [ht] at hs
        rw [loopE_done hs]
        rfl
    · rw [loopE_done (hend k (by omega))]
      have : ((List.range' k (m + 1)).all fun i => !decide (i < n) || T i) = true := by
        rw [List.all_eq_true]
        intro i hi
        rw [List.mem_range'] at hi
        obtain ⟨j, _, rfl⟩ := hi
        rw [decide_eq_false (by omega)]
        rfl
      rw [this]
      rfl

theorem i_incr {l : List Int} (h : l.length ≤ maxLen) : i_increasing l = some ((List.range l.length).all (risesAt l)) := by
  unfold i_increasing
  have := all_from (n := l.length) (f := fun st2 : Int => (
      bif (decide (st2 < (l.length : Int))) then
        (idx l (w64 (st2 - 1))).bind fun e3 =>
        (idx l st2).bind fun e4 =>
        bif (decide (e4 ≤ e3)) then
          some (.inr (.inr false))
        else
          some (.inl (w64 (st2 + 1)))
      else
        some (.inr (.inl ())) : Option ((Int) ⊕ (Unit ⊕ Bool)))) (risesAt l) false (fun i h0 hi => by
      have hx : l[i]? = some l[i] := by simp [hi]
      simp only [at_lt hi, cond_true, prevI h hi h0, idx_get, hx, Option.bind_some, up h hi, risesAt_eq hi]
      rw [show decide (i = 0) = false from decide_eq_false (by omega)]
      simp only [Bool.false_or]
      cases decide (l[i] ≤ l[i - 1]'(by omega)) <;> rfl) (fun i hi => by
      simp only [show decide ((i : Int) < (l.length : Int)) = false from decide_eq_false (by omega)]
      rfl) l.length 1 (by omega) (by omega)
  rw [show ((1 : Nat) : Int) = 1 from rfl] at this
  rw [this]
  have e : ((List.range' 1 l.length).all fun i => !decide (i < l.length) || risesAt l i) = (List.range l.length).all (risesAt l) := by
    rw [Bool.eq_iff_iff]
    simp only [List.all_eq_true, List.mem_range, List.mem_range']
    constructor
    · intro H i hi
      by_cases h0 : i = 0
      · subst h0; rw [risesAt_eq hi]; rfl
      · have := H i ⟨i - 1, by omega, by omega⟩
        rw [decide_eq_true hi] at this
        simpa using this
    · intro H i _
      by_cases hi : i < l.length
      · rw [H i hi]; simp
      · rw [decide_eq_false hi]; rfl
  rw [e]
  cases (List.range l.length).all (risesAt l) <;> rfl

def isT (x : GTicket) : Bool := inB x.1 1 999 && (inB x.2.1 1 9 && (rising x.2.2.1 0 (w64 (x.2.1 - 1)) && (inB x.2.2.2.1 0 2 && ((decide ((x.2.2.1.length : Int) = x.2.1)) == (decide (x.2.2.2.1 = 1))))))
theorem s_ticket {x : GTicket} (h : x.2.2.1.length ≤ maxLen) : s_dkTicket x = some (isT x) := by
  unfold s_dkTicket isT
  simp only [l1In_eq, s_rising h, Option.bind_some]
  cases inB x.1 1 999 <;> cases inB x.2.1 1 9 <;> cases rising x.2.2.1 0 (w64 (x.2.1 - 1)) <;> cases inB x.2.2.2.1 0 2 <;> rfl

/-- what is given of tickets -/
structure Fine (l : List GTicket) : Prop where
  len : l.length ≤ maxLen
  got : ∀ x ∈ l, x.2.2.1.length ≤ maxLen

def ordAt (l : List GTicket) (i : Nat) : Bool := match l[i]?, l[i - 1]? with
  | some x, some y => decide (i = 0) || !decide (x.1 ≤ y.1)
  | _, _ => false
theorem ordAt_eq {l : List GTicket} {i : Nat} (hi : i < l.length) : ordAt l i = (decide (i = 0) || !decide (l[i].1 ≤ (l[i - 1]'(by omega)).1)) := by
  unfold ordAt
  have e1 : l[i]? = some l[i] := by simp [hi]
  have e2 : l[i - 1]? = some (l[i - 1]'(by omega)) := by simp [show i - 1 < l.length by omega]
  rw [e1, e2]
def okAt (l : List GTicket) (i : Nat) : Bool := (match l[i]? with | some x => isT x | none => false) && ordAt l i
def areTickets (l : List GTicket) : Bool := (List.range l.length).all (okAt l) && decide ((l.length : Int) ≤ 20)

theorem s_good {l : List GTicket} (h : Fine l) : s_dkGood l = some (areTickets l) := by
  unfold s_dkGood areTickets
  rw [all_loop_at (n := l.length) (okAt l) false ?_ ?_]
  · cases (List.range l.length).all (okAt l) <;> rfl
  · intro i hi
    have hx : l[i]? = some l[i] := by simp [hi]
    simp only [okAt, idx_get, hx, Option.bind_some, at_lt hi, up h.len hi, s_ticket (h.got _ (List.getElem_mem hi)), ordAt_eq hi, cond_true]
    cases isT l[i] with
    | false => rfl
    | true =>
      by_cases h0 : 0 < i
      · rw [show decide ((0 : Int) < (i : Int)) = true from decide_eq_true (by omega), prevI h.len hi h0, show decide (i = 0) = false from decide_eq_false (by omega)]
        simp only [cond_true, Option.bind_some, Bool.not_true, cond_false, Bool.false_or, Bool.true_and]
        cases decide (l[i].1 ≤ (l[i - 1]'(by omega)).1) <;> rfl
      · rw [show decide ((0 : Int) < (i : Int)) = false from decide_eq_false (by omega), show decide (i = 0) = true from decide_eq_true (by omega)]
        rfl
  · simp

theorem i_good {l : List GTicket} (h : Fine l) : i_AreTickets l = some (areTickets l) := by
  unfold i_AreTickets areTickets
  have e20 : decide ((20 : Int) < (l.length : Int)) = !decide ((l.length : Int) ≤ 20) := by
    by_cases h : (l.length : Int) ≤ 20
    · rw [decide_eq_true h, decide_eq_false (by omega)]; rfl
    · rw [decide_eq_false h, decide_eq_true (by omega)]; rfl
  rw [e20]
  cases decide ((l.length : Int) ≤ 20) with
  | false => simp
  | true =>
  simp only [Bool.not_true, cond_false, Bool.and_true]
  rw [all_loop_at (n := l.length) (okAt l) false ?_ ?_]
  · cases (List.range l.length).all (okAt l) <;> rfl
  · intro i hi
    have hx : l[i]? = some l[i] := by simp [hi]
    have hg := h.got _ (List.getElem_mem hi)
    have hp : (bif decide ((0 : Int) < (i : Int)) then (idx l (w64 ((i : Int) - 1))).bind fun e11 => some (decide (l[i].1 ≤ e11.1)) else some false) = some (!ordAt l i) := by
      rw [ordAt_eq hi]
      by_cases h0 : 0 < i
      · rw [show decide ((0 : Int) < (i : Int)) = true from decide_eq_true (by omega), prevI h.len hi h0, show decide (i = 0) = false from decide_eq_false (by omega)]
        simp
      · rw [show decide ((0 : Int) < (i : Int)) = false from decide_eq_false (by omega), show decide (i = 0) = true from decide_eq_true (by omega)]
        rfl
    simp only [okAt, idx_get, hx, Option.bind_some, at_lt hi, up h.len hi, within_eq, i_all hg, i_incr hg, hp, cond_true, isT, rising]
    cases inB l[i].1 1 999 <;> cases inB l[i].2.1 1 9 <;> cases (l[i].2.2.1.all fun x => inB x 0 (w64 (l[i].2.1 - 1))) <;> cases (List.range l[i].2.2.1.length).all (risesAt l[i].2.2.1) <;> cases ordAt l i <;> try rfl
    all_goals cases inB l[i].2.2.2.1 0 2 <;> cases decide ((l[i].2.2.1.length : Int) = l[i].2.1) <;> cases decide (l[i].2.2.2.1 = 1) <;> rfl
  · simp

theorem s_find {l : List GTicket} (h : l.length ≤ maxLen) (k : Int) : s_dkFind l k = some (match firstAt (fun x : GTicket => decide (x.1 = k)) l 0 with | some i => (i : Int) | none => -1) := by
  unfold s_dkFind
  rw [find_loop (l := l) (fun x : GTicket => decide (x.1 = k)) ?_ ?_]
  · cases firstAt (fun x : GTicket => decide (x.1 = k)) l 0 <;> rfl
  · intro i x hx hi
    simp only [idx_get, hx, Option.bind_some, at_lt hi, up h hi]
    cases decide (x.1 = k) <;> rfl
  · simp
theorem i_find {l : List GTicket} (h : l.length ≤ maxLen) (k : Int) : i_ticketIndex l k = some (match firstAt (fun x : GTicket => decide (x.1 = k)) l 0 with | some i => (i : Int) | none => -1) := by
  unfold i_ticketIndex slices_IndexFunc_Ticket_23
  rw [find_loop (l := l) (fun x : GTicket => decide (x.1 = k)) ?_ ?_]
  · cases firstAt (fun x : GTicket => decide (x.1 = k)) l 0 <;> rfl
  · intro i x hx hi
    simp only [idx_get, hx, Option.bind_some, at_lt hi, up h hi, i_ticketIndex_1]
    cases decide (x.1 = k) <;> rfl
  · simp
theorem firstAt_lt {α : Type} (t : α → Bool) : ∀ (l : List α) (k i : Nat), firstAt t l k = some i → i < k + l.length
  | [], _, _, h => by cases h
  | x :: l, k, i, h => by
    simp only [firstAt] at h
    simp only [List.length_cons]
    cases hx : t x with
    | true => rw [hx] at h; cases h; omega
    | false => rw [hx] at h; have := firstAt_lt t l (k + 1) i h; omega

/-! sizes, copies -/

structure Small (l : List GTicket) : Prop where
  len : l.length ≤ 1048576
  got : ∀ x ∈ l, x.2.2.1.length ≤ 1048576
theorem szIntS {a : List Int} {left : Int} (h : a.length ≤ maxLen) (h0 : 0 ≤ left) (h1 : left ≤ 1048576) : ∃ r, l_szIntS a left = some r ∧ (r < 0 ∨ (a.length ≤ 1048576 ∧ 0 ≤ r ∧ r ≤ 1048576)) := by
  unfold l_szIntS
  unfold maxLen at h
  rw [w64_of (by omega) (by omega)]
  by_cases h2 : left - a.length < 0
  · rw [decide_eq_true h2]; exact ⟨_, rfl, .inl (by decide)⟩
  · rw [decide_eq_false h2]; exact ⟨_, rfl, .inr ⟨by omega, by omega, by omega⟩⟩
theorem szTicket {x : GTicket} {left : Int} (h : x.2.2.1.length ≤ maxLen) (h0 : 0 ≤ left) (h1 : left ≤ 1048576) : ∃ r, l_szTicket x left = some r ∧ (r < 0 ∨ (x.2.2.1.length ≤ 1048576 ∧ 0 ≤ r ∧ r ≤ 1048576)) := by
  unfold l_szTicket
  obtain ⟨r, hr, h3⟩ := szIntS (left := left) h h0 h1
  simp only [hr, Option.bind_some]
  rcases h3 with h3 | h3
  · rw [decide_eq_true h3]; exact ⟨_, rfl, .inl (by decide)⟩
  · rw [show decide (r < 0) = false from decide_eq_false (by omega)]; exact ⟨_, rfl, .inr h3⟩
theorem sz_res : ∀ (l : List GTicket) (s : Int) (i : Nat), (∀ x ∈ l, x.2.2.1.length ≤ maxLen) → 0 ≤ s → s ≤ 1048576 →
    ∃ z, forRes (fun s _ x => (l_szTicket x s).bind fun r4 => some (bif decide (r4 < 0) then .inr (.inr (-1)) else .inl r4)) (fun s => (.inl s : Int ⊕ Int)) s i l = some z ∧ (z = .inr (-1) ∨ ∃ s', z = .inl s' ∧ ∀ x ∈ l, x.2.2.1.length ≤ 1048576)
  | [], s, i, _, _, _ => ⟨_, rfl, .inr ⟨s, rfl, fun x h => by cases h⟩⟩
  | x :: l, s, i, h, h0, h1 => by
    obtain ⟨r, hr, h3⟩ := szTicket (h x (by simp)) h0 h1
    simp only [forRes, hr, Option.bind_some]
    rcases h3 with h3 | ⟨h3, h4, h5⟩
    · rw [decide_eq_true h3]; exact ⟨_, rfl, .inl rfl⟩
    · rw [show decide (r < 0) = false from decide_eq_false (by omega)]
      obtain ⟨z, hz, h6⟩ := sz_res l r (i + 1) (fun y hy => h y (List.mem_cons_of_mem _ hy)) h4 h5
      refine ⟨z, hz, h6.imp id fun ⟨s', e, h7⟩ => ⟨s', e, fun y hy => ?_⟩⟩
      rcases List.mem_cons.1 hy with rfl | hy
      · exact h3
      · exact h7 y hy
theorem szTicketS {l : List GTicket} (h : Fine l) : ∃ r, l_szTicketS l 1048576 = some r ∧ (r < 0 ∨ Small l) := by
  unfold l_szTicketS
  have hm := h.len
  unfold maxLen at hm
  rw [w64_of (x := 1048576 - (l.length : Int)) (by omega) (by omega)]
  by_cases h2 : (1048576 : Int) - l.length < 0
  · rw [decide_eq_true h2]; exact ⟨_, rfl, .inl (by decide)⟩
  · rw [decide_eq_false h2]
    simp only [cond_false]
    rw [for_loop (a := l) Prod.mk (fun s _ x => (l_szTicket x s).bind fun r4 => some (bif decide (r4 < 0) then .inr (.inr (-1)) else .inl r4)) (fun s => (.inl s : Int ⊕ Int)) (1048576 - (l.length : Int)) ?_ ?_ ?_]
    · obtain ⟨z, hz, h3⟩ := sz_res l (1048576 - (l.length : Int)) 0 h.got (by omega) (by omega)
      rw [hz]
      rcases h3 with rfl | ⟨s', rfl, h4⟩
      · exact ⟨_, rfl, .inl (by decide)⟩
      · exact ⟨_, rfl, .inr ⟨by omega, h4⟩⟩
    · rfl
    · intro s i x hi hx
      simp only [idx_get, hx, Option.bind_some, at_lt hi, up h.len hi, cond_true]
      cases l_szTicket x s with
      | none => rfl
      | some r => simp only [Option.bind_some]; cases decide (r < 0) <;> rfl
    · intro s; simp

theorem toIntS {l : List Int} (h : l.length ≤ 1048576) : l_toIntS l = some l := by
  unfold l_toIntS
  rw [copy_guard h, cond_true, copy_loop (fun x => x) h ?_ ?_]
  · simp
  · intro out i x hx hi
    simp only [idx_get, hx, Option.bind_some, at_lt hi, cond_true]
  · intro out; simp
theorem toTicket {x : GTicket} (h : x.2.2.1.length ≤ 1048576) : l_toTicket x = some x := by
  unfold l_toTicket
  rw [toIntS h]
  rfl
theorem toTicketS {l : List GTicket} (h : Small l) : l_toTicketS l = some l := by
  unfold l_toTicketS
  rw [copy_guard h.len, cond_true, copy_loop (fun x => x) h.len ?_ ?_]
  · simp
  · intro out i x hx hi
    simp only [idx_get, hx, Option.bind_some, at_lt hi, cond_true, toTicket (h.got x (List.mem_of_getElem? hx))]
  · intro out; simp
theorem eqIntS {l : List Int} (h : l.length ≤ maxLen) : l_eqIntS l l = some true := by
  unfold l_eqIntS
  simp only [decide_true, Bool.not_true, cond_false]
  rw [all_loop (l := l) (fun _ => true) false ?_ ?_]
  · have : (l.all fun _ => true) = true := by simp
    rw [this]
    rfl
  · intro i x hx hi
    simp only [idx_get, hx, Option.bind_some, decide_true, Bool.not_true, cond_false, at_lt hi, up h hi]
    rfl
  · simp
theorem eqTicket {x : GTicket} (h : x.2.2.1.length ≤ maxLen) : l_eqTicket x x = some true := by
  unfold l_eqTicket
  simp [eqIntS h]
theorem eqTicketS {l : List GTicket} (h : Fine l) : l_eqTicketS l l = some true := by
  unfold l_eqTicketS
  simp only [decide_true, Bool.not_true, cond_false]
  rw [all_loop (l := l) (fun _ => true) false ?_ ?_]
  · have : (l.all fun _ => true) = true := by simp
    rw [this]
    rfl
  · intro i x hx hi
    simp only [idx_get, hx, Option.bind_some, at_lt hi, up h.len hi, eqTicket (h.got x (List.mem_of_getElem? hx))]
    rfl
  · simp

theorem fine_of {l : List GTicket} (h : good (.slice TGTicket) l) : Fine l := ⟨h.1, fun x hx => (h.2 x hx).2.2.1.1⟩
end Go.Proofs.YteocijadidgagaaDoor.Sh
