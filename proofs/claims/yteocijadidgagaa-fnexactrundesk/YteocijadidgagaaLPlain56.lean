/-
  A part has arrived; moves at a desk, in plain Lean.
-/
import Derived.Test.YteocijadidgagaaLPlain4
namespace Go.Proofs.Yteocijadidgagaa.Sh
open Go Go.Ab Go.Proofs

def gotT (x : GTicket) (n : Int) : GTicket := (x.1, x.2.1, putI x.2.2.1 n, (bif decide (((putI x.2.2.1 n).length : Int) = x.2.1) then 1 else x.2.2.2.1), ())
noncomputable def notedT (l : List GTicket) (k n : Int) : List GTicket × Bool :=
  match firstAt (fun x : GTicket => decide (x.1 = k)) l 0 with
  | none => ([], false)
  | some i => match l[i]? with
    | none => ([], false)
    | some x => bif decide (x.2.2.2.1 = 0) && inB n 0 (w64 (x.2.1 - 1)) then (l.set i (gotT x n), true) else ([], false)

/-- what is known of an open ticket -/
structure OpenT (x : GTicket) : Prop where
  pair : x.2.2.1.Pairwise (· < ·)
  bnd : ∀ a ∈ x.2.2.1, 0 ≤ a ∧ a ≤ x.2.1 - 1
  parts : 1 ≤ x.2.1 ∧ x.2.1 ≤ 9
  len : x.2.2.1.length ≤ 9
  less : ¬ ((x.2.2.1.length : Int) = x.2.1)
  msg : inB x.1 1 999 = true

theorem pair_ge {l : List Int} (hp : l.Pairwise (· < ·)) (h0 : ∀ a ∈ l, 0 ≤ a) : ∀ (i : Nat) (hi : i < l.length), (i : Int) ≤ l[i]
  | 0, hi => h0 _ (List.getElem_mem hi)
  | i + 1, hi => by
    have h1 := pair_ge hp h0 i (by omega)
    have h2 := List.pairwise_iff_getElem.1 hp i (i + 1) (by omega) hi (by omega)
    omega
theorem pair_len {l : List Int} (hp : l.Pairwise (· < ·)) {b : Int} (h0 : ∀ a ∈ l, 0 ≤ a ∧ a ≤ b) (hb : 0 ≤ b + 1) : (l.length : Int) ≤ b + 1 := by
  by_cases h : l.length = 0
  · omega
  · have h1 := pair_ge hp (fun a ha => (h0 a ha).1) (l.length - 1) (by omega)
    have h2 := (h0 _ (List.getElem_mem (show l.length - 1 < l.length by omega))).2
    omega

theorem inB_iff {n lo hi : Int} : inB n lo hi = true ↔ lo ≤ n ∧ n ≤ hi := by unfold inB; simp

theorem open_of {x : GTicket} (h : isT x = true) (h0 : x.2.2.2.1 = 0) : OpenT x := by
  unfold isT at h
  simp only [Bool.and_eq_true] at h
  obtain ⟨h1, h2, h3, h4, h5⟩ := h
  rw [inB_iff] at h2
  unfold rising at h3
  simp only [Bool.and_eq_true] at h3
  have hw : w64 (x.2.1 - 1) = x.2.1 - 1 := w64_of (by omega) (by omega)
  have hb : ∀ a ∈ x.2.2.1, 0 ≤ a ∧ a ≤ x.2.1 - 1 := fun a ha => by
    have := List.all_eq_true.1 h3.1 a ha
    rw [inB_iff, hw] at this
    exact this
  have hp := rises_pair.1 h3.2
  have hlen := pair_len hp hb (by omega)
  refine ⟨hp, hb, h2, by omega, fun he => ?_, h1⟩
  rw [h0, dec_t he] at h5
  exact absurd h5 (by decide)

theorem isT_got {x : GTicket} (h : OpenT x) (h0 : x.2.2.2.1 = 0) {n : Int} (hn : inB n 0 (w64 (x.2.1 - 1)) = true) : isT (gotT x n) = true := by
  have hw : w64 (x.2.1 - 1) = x.2.1 - 1 := w64_of (by have := h.parts; omega) (by have := h.parts; omega)
  have hn' := hn
  rw [inB_iff, hw] at hn'
  unfold isT gotT
  simp only [Bool.and_eq_true]
  refine ⟨h.msg, inB_iff.2 h.parts, ?_, ?_, ?_⟩
  · unfold rising
    rw [Bool.and_eq_true]
    refine ⟨List.all_eq_true.2 fun a ha => ?_, rises_pair.2 (put_pair h.pair)⟩
    rw [inB_iff, hw]
    rcases put_mem ha with rfl | ha
    · exact hn'
    · exact h.bnd a ha
  · rw [h0]
    cases decide (((putI x.2.2.1 n).length : Int) = x.2.1) <;> rfl
  · rw [h0]
    cases decide (((putI x.2.2.1 n).length : Int) = x.2.1) <;> rfl

theorem isT_at {l : List GTicket} (hg : areTickets l = true) {i : Nat} (hi : i < l.length) : isT (l[i]'hi) = true := by
  unfold areTickets at hg
  simp only [Bool.and_eq_true, List.all_eq_true, List.mem_range] at hg
  have := hg.1 i hi
  unfold okAt at this
  rw [show l[i]? = some (l[i]'hi) by simp [hi], Bool.and_eq_true] at this
  exact this.1

theorem s_noted {l : List GTicket} (h : Small l) (hg : areTickets l = true) (k n : Int) : s_dkStep l (2, k, n, ()) = some (notedT l k n) := by
  have hf := small_fine h
  unfold s_dkStep s_dkOpen notedT
  have hl := hf.len
  rw [s_find hl]
  simp only [dec_f (by decide : ¬ (2 : Int) = 1), dec_f (by decide : ¬ (2 : Int) = 3), eq_self, decide_true, cond_false, cond_true]
  cases hi : firstAt (fun x : GTicket => decide (x.1 = k)) l 0 with
  | none => rfl
  | some i =>
    have hlt := firstAt_lt _ _ _ _ hi
    rw [Nat.zero_add] at hlt
    have hx : l[i]? = some (l[i]'hlt) := by simp [hlt]
    have hT := isT_at hg hlt
    simp only [Option.bind_some, idx_get, hx, dec_t (by omega : (0 : Int) ≤ (i : Int)), cond_true]
    generalize hxe : l[i]'hlt = x at hx hT
    by_cases h0 : x.2.2.2.1 = 0
    · have ho := open_of hT h0
      simp only [dec_t h0, Bool.not_true, cond_false, Bool.true_and, dec_f (by omega : ¬ (i : Int) < 0), ownT h, Option.bind_some, dec_t (by omega : (0 : Int) ≤ (i : Int)), dec_t (by omega : (i : Int) < (l.length : Int)), Bool.and_self, cond_true, Int.toNat_natCast, hx, l1In_eq]
      cases hn : inB n 0 (w64 (x.2.1 - 1)) with
      | false => rfl
      | true =>
        have hs : ∀ y : GTicket, (l.set i y)[i]? = some y := fun y => by simp [hlt]
        simp only [cond_true, s_put ho.pair (by have := ho.len; omega), Option.bind_some, hs, List.set_set, h0, gotT]
        cases decide (((putI x.2.2.1 n).length : Int) = x.2.1) with
        | true => rfl
        | false => rw [show x.2.2.2 = ((0 : Int), ()) from by rw [← h0]]; rfl
    · simp only [dec_f h0, Bool.not_false, cond_true, Bool.false_and, cond_false, Option.bind_some, dec_t (by omega : (-1 : Int) < 0)]

theorem i_noted {l : List GTicket} (h : Small l) (hg : areTickets l = true) (k n : Int) : i_makeMove l (2, k, n, ()) = some (notedT l k n) := by
  have hf := small_fine h
  unfold i_makeMove notedT
  have hl := hf.len
  rw [cloneT h]
  simp only [Option.bind_some]
  rw [i_find hl]
  simp only [dec_f (by decide : ¬ (2 : Int) = 1), dec_f (by decide : ¬ (2 : Int) = 3), eq_self, decide_true, cond_false, cond_true, Option.bind_some]
  cases hi : firstAt (fun x : GTicket => decide (x.1 = k)) l 0 with
  | none => rfl
  | some i =>
    have hlt := firstAt_lt _ _ _ _ hi
    rw [Nat.zero_add] at hlt
    have hx : l[i]? = some (l[i]'hlt) := by simp [hlt]
    have hT := isT_at hg hlt
    have hset : ∀ y : GTicket, y.1 = (l[i]'hlt).1 → isT y = true → y.2.2.1.length ≤ 1048576 → i_AreTickets (l.set i y) = some true := fun y h1 h2 h3 => by
      have := i_good (l := l.set i y) ⟨by simpa using hl, fun z hz => by
        rcases List.mem_or_eq_of_mem_set hz with hz | rfl
        · exact hf.got z hz
        · unfold maxLen; omega⟩
      rw [okAt_set hlt h1 h2 hg] at this
      exact this
    simp only [Option.bind_some, hx, dec_t (by omega : (0 : Int) ≤ (i : Int)), dec_t (by omega : (i : Int) < (l.length : Int)), Bool.and_self, cond_true, Int.toNat_natCast, within_eq]
    generalize hxe : l[i]'hlt = x at hx hT hset
    by_cases h0 : x.2.2.2.1 = 0
    · have ho := open_of hT h0
      simp only [dec_t h0, cond_true, Option.bind_some, Bool.true_and]
      cases hn : inB n 0 (w64 (x.2.1 - 1)) with
      | false => rfl
      | true =>
        have hs : ∀ y : GTicket, (l.set i y)[i]? = some y := fun y => by simp [hlt]
        have hgot := hset (gotT x n) rfl (isT_got ho h0 hn) (by have := put_len x.2.2.1 n; have := ho.len; unfold gotT; simp only; omega)
        simp only [cond_true, i_contains (show x.2.2.1.length ≤ 1048576 by have := ho.len; omega) n, Option.bind_some]
        cases hany : x.2.2.1.any (fun y => decide (n = y)) with
        | true =>
          have hput : putI x.2.2.1 n = x.2.2.1 := by unfold putI; rw [hany]; rfl
          have hgx : gotT x n = x := by
            unfold gotT
            rw [hput, dec_f ho.less]
            rfl
          have hlx : l.set i x = l := by rw [← hxe]; exact List.set_getElem_self hlt
          rw [hgx, hlx] at hgot
          simp only [Bool.not_true, cond_false, dec_f ho.less, hgot, Option.bind_some, hgx, hlx]
        | false =>
          have hsort := i_sort ho.pair (by have := ho.len; omega) hany
          simp only [Bool.not_false, cond_true, lim_ok (show List.length x.2.2.1 + List.length [n] ≤ 4194304 by have := ho.len; simp only [List.length_singleton]; omega), Nat.beq_refl, hs, Option.bind_some, hsort, List.set_set, bothSame_self]
          unfold gotT at hgot ⊢
          cases hd : decide (((putI x.2.2.1 n).length : Int) = x.2.1) with
          | true =>
            rw [hd] at hgot
            simp only [cond_true] at hgot ⊢
            simp only [hgot, Option.bind_some, Bool.not_true, cond_false]
          | false =>
            rw [hd] at hgot
            simp only [cond_false] at hgot ⊢
            rw [show x.2.2.2 = (x.2.2.2.1, ()) from rfl]
            simp only [hgot, Option.bind_some, Bool.not_true, cond_false]
    · simp only [dec_f h0, cond_false, Option.bind_some, Bool.false_and]

theorem s_gave3 {l : List GTicket} (h : Small l) (hf : Fine l) (k p : Int) : s_dkStep l (3, k, p, ()) = some (gaveUp l k) := by
  unfold s_dkStep s_dkOpen gaveUp
  have hl := hf.len
  rw [s_find hl]
  cases hi : firstAt (fun x : GTicket => decide (x.1 = k)) l 0 with
  | none => rfl
  | some i =>
    have hlt := firstAt_lt _ _ _ _ hi
    rw [Nat.zero_add] at hlt
    have hx : l[i]? = some (l[i]'hlt) := by simp [hlt]
    simp only [Option.bind_some, idx_get, hx, dec_t (by omega : (0 : Int) ≤ (i : Int)), cond_true]
    generalize l[i]'hlt = x at hx
    simp only [dec_f (by decide : ¬ (3 : Int) = 1), eq_self, decide_true, cond_false, cond_true]
    cases decide (x.2.2.2.1 = 0) with
    | false => rfl
    | true =>
      simp only [Bool.not_true, cond_false, cond_true, Option.bind_some, dec_f (by omega : ¬ (i : Int) < 0), ownT h, dec_t (by omega : (0 : Int) ≤ (i : Int)), dec_t (by omega : (i : Int) < (l.length : Int)), Bool.and_self, Int.toNat_natCast, hx]
      rfl

theorem i_gave3 {l : List GTicket} (h : Small l) (hf : Fine l) (hg : areTickets l = true) (k p : Int) : i_makeMove l (3, k, p, ()) = some (gaveUp l k) := by
  unfold i_makeMove gaveUp
  have hl := hf.len
  rw [cloneT h]
  simp only [Option.bind_some]
  rw [i_find hl]
  simp only [dec_f (by decide : ¬ (3 : Int) = 1), dec_f (by decide : ¬ (3 : Int) = 2), eq_self, decide_true, cond_false, cond_true, Option.bind_some]
  cases hi : firstAt (fun x : GTicket => decide (x.1 = k)) l 0 with
  | none => rfl
  | some i =>
    have hlt := firstAt_lt _ _ _ _ hi
    rw [Nat.zero_add] at hlt
    have hx : l[i]? = some (l[i]'hlt) := by simp [hlt]
    simp only [Option.bind_some, dec_t (by omega : (0 : Int) ≤ (i : Int)), dec_t (by omega : (i : Int) < (l.length : Int)), Bool.and_self, cond_true, Int.toNat_natCast, hx]
    cases hd : decide ((l[i]'hlt).2.2.2.1 = 0) with
    | false => rfl
    | true =>
      simp only [cond_true]
      have hok : isT (failed (l[i]'hlt)) = true := by
        unfold areTickets at hg
        simp only [Bool.and_eq_true, List.all_eq_true, List.mem_range] at hg
        have := hg.1 i hlt
        unfold okAt at this
        rw [hx, Bool.and_eq_true] at this
        have ht := this.1
        simp only at ht
        have h0 := of_decide_eq_true hd
        generalize l[i]'hlt = x at ht h0
        unfold isT at ht ⊢
        simp only [Bool.and_eq_true] at ht ⊢
        refine ⟨ht.1, ht.2.1, ht.2.2.1, rfl, ?_⟩
        have h5 := ht.2.2.2.2
        rw [h0] at h5
        exact h5
      have hs := okAt_set hlt (y := failed (l[i]'hlt)) rfl hok hg
      have hfine : Fine (l.set i (failed (l[i]'hlt))) := ⟨by simpa using hl, fun y hy => by
        rcases List.mem_or_eq_of_mem_set hy with hy | rfl
        · exact hf.got y hy
        · exact hf.got (l[i]'hlt) (List.getElem_mem _)⟩
      have hb := i_good hfine
      rw [hs] at hb
      refine bind_eq hb ?_
      rfl

theorem sz_res2 : ∀ (l : List GTicket) (s : Int) (i : Nat), (∀ x ∈ l, x.2.2.1.length ≤ maxLen) → 0 ≤ s → s ≤ 1048576 →
    ∃ z, forRes (fun s _ x => (l_szTicket x s).bind fun r4 => some (bif decide (r4 < 0) then .inr (.inr (-1)) else .inl r4)) (fun s => (.inl s : Int ⊕ Int)) s i l = some z ∧ (z = .inr (-1) ∨ ∃ s', z = .inl s' ∧ (0 ≤ s' ∧ s' ≤ 1048576) ∧ ∀ x ∈ l, x.2.2.1.length ≤ 1048576)
  | [], s, i, _, h0, h1 => ⟨_, rfl, .inr ⟨s, rfl, ⟨h0, h1⟩, fun x h => by cases h⟩⟩
  | x :: l, s, i, h, h0, h1 => by
    obtain ⟨r, hr, h3⟩ := szTicket (h x (by simp)) h0 h1
    simp only [forRes, hr, Option.bind_some]
    rcases h3 with h3 | ⟨h3, h4, h5⟩
    · rw [decide_eq_true h3]; exact ⟨_, rfl, .inl rfl⟩
    · rw [show decide (r < 0) = false from decide_eq_false (by omega)]
      obtain ⟨z, hz, h6⟩ := sz_res2 l r (i + 1) (fun y hy => h y (List.mem_cons_of_mem _ hy)) h4 h5
      refine ⟨z, hz, h6.imp id fun ⟨s', e, hb, h7⟩ => ⟨s', e, hb, fun y hy => ?_⟩⟩
      rcases List.mem_cons.1 hy with rfl | hy
      · exact h3
      · exact h7 y hy
theorem szTicketS2 {l : List GTicket} (h : Fine l) : ∃ r, l_szTicketS l 1048576 = some r ∧ (r < 0 ∨ (Small l ∧ 0 ≤ r ∧ r ≤ 1048576)) := by
  unfold l_szTicketS
  have hm := h.len
  unfold maxLen at hm
  rw [w64_of (x := 1048576 - (l.length : Int)) (by omega) (by omega)]
  by_cases h2 : (1048576 : Int) - l.length < 0
  · rw [decide_eq_true h2]; exact ⟨_, rfl, .inl (by decide)⟩
  · rw [decide_eq_false h2]
    simp only [cond_false]
    rw [for_loop (a := l) Prod.mk (fun s _ x => (l_szTicket x s).bind fun r4 => some (bif decide (r4 < 0) then .inr (.inr (-1)) else .inl r4)) (fun s => (.inl s : Int ⊕ Int)) (1048576 - (l.length : Int)) ?_ ?_ ?_]
    · obtain ⟨z, hz, h3⟩ := sz_res2 l (1048576 - (l.length : Int)) 0 h.got (by omega) (by omega)
      rw [hz]
      rcases h3 with rfl | ⟨s', rfl, hb, h4⟩
      · exact ⟨_, rfl, .inl (by decide)⟩
      · exact ⟨_, rfl, .inr ⟨⟨by omega, h4⟩, hb⟩⟩
    · rfl
    · intro s i x hi hx
      simp only [idx_get, hx, Option.bind_some, at_lt hi, up h.len hi, cond_true]
      cases l_szTicket x s with
      | none => rfl
      | some r => simp only [Option.bind_some]; cases decide (r < 0) <;> rfl
    · intro s; simp

theorem noted_fine {l : List GTicket} (h : Small l) (hg : areTickets l = true) (k n : Int) : Small (notedT l k n).1 ∧ ((notedT l k n).2 = true → areTickets (notedT l k n).1 = true) := by
  have hz : Small [] := ⟨by simp, by simp⟩
  unfold notedT
  split
  · exact ⟨hz, fun h => by cases h⟩
  · split
    · exact ⟨hz, fun h => by cases h⟩
    · rename_i i hi _ x hx
      have hlt : i < l.length := (List.getElem?_eq_some_iff.1 hx).1
      have hxe : l[i]'hlt = x := (List.getElem?_eq_some_iff.1 hx).2
      have hT := isT_at hg hlt
      rw [hxe] at hT
      cases hb : (decide (x.2.2.2.1 = 0) && inB n 0 (w64 (x.2.1 - 1))) with
      | false => exact ⟨hz, fun h => by cases h⟩
      | true =>
        rw [Bool.and_eq_true] at hb
        have h0 := of_decide_eq_true hb.1
        have ho := open_of hT h0
        refine ⟨⟨by simpa using h.len, fun y hy => ?_⟩, fun _ => okAt_set hlt (by rw [hxe]; rfl) (isT_got ho h0 hb.2) hg⟩
        rcases List.mem_or_eq_of_mem_set hy with hy | rfl
        · exact h.got y hy
        · have := put_len x.2.2.1 n; have := ho.len; unfold gotT; simp only; omega

theorem gave_fine {l : List GTicket} (h : Small l) (hg : areTickets l = true) (k : Int) : Small (gaveUp l k).1 ∧ ((gaveUp l k).2 = true → areTickets (gaveUp l k).1 = true) := by
  refine ⟨gave_small h k, ?_⟩
  unfold gaveUp
  split
  · exact fun h => by cases h
  · split
    · exact fun h => by cases h
    · rename_i i hi _ x hx
      have hlt : i < l.length := (List.getElem?_eq_some_iff.1 hx).1
      have hxe : l[i]'hlt = x := (List.getElem?_eq_some_iff.1 hx).2
      have hT := isT_at hg hlt
      rw [hxe] at hT
      cases hb : decide (x.2.2.2.1 = 0) with
      | false => exact fun h => by cases h
      | true =>
        intro _
        have h0 := of_decide_eq_true hb
        refine okAt_set hlt (by rw [hxe]; rfl) ?_ hg
        unfold isT at hT ⊢
        simp only [Bool.and_eq_true] at hT ⊢
        refine ⟨hT.1, hT.2.1, hT.2.2.1, rfl, ?_⟩
        have h5 := hT.2.2.2.2
        rw [h0] at h5
        exact h5

theorem accept_fine {l : List GTicket} (h : Small l) (hg : areTickets l = true) (k p : Int) : Small (accept l k p).1 ∧ ((accept l k p).2 = true → areTickets (accept l k p).1 = true) := by
  unfold accept
  cases hb : areTickets (withT l k p) with
  | true => exact ⟨small_with h hg k p, fun _ => hb⟩
  | false => exact ⟨⟨by simp, by simp⟩, fun h => by cases h⟩

/-- what a move comes to -/
noncomputable def stepT (l : List GTicket) (m : GDeskMove) : List GTicket × Bool :=
  bif decide (m.1 = 1) then accept l m.2.1 m.2.2.1 else bif decide (m.1 = 2) then notedT l m.2.1 m.2.2.1 else bif decide (m.1 = 3) then gaveUp l m.2.1 else ([], false)

theorem step_fine {l : List GTicket} (h : Small l) (hg : areTickets l = true) (m : GDeskMove) : Small (stepT l m).1 ∧ ((stepT l m).2 = true → areTickets (stepT l m).1 = true) := by
  unfold stepT
  cases decide (m.1 = 1) with
  | true => exact accept_fine h hg _ _
  | false =>
    cases decide (m.1 = 2) with
    | true => exact noted_fine h hg _ _
    | false =>
      cases decide (m.1 = 3) with
      | true => exact gave_fine h hg _
      | false => exact ⟨⟨by simp, by simp⟩, fun h => by cases h⟩

theorem s_step {l : List GTicket} (h : Small l) (hg : areTickets l = true) (m : GDeskMove) : s_dkStep l m = some (stepT l m) := by
  obtain ⟨a, k, n, u⟩ := m
  unfold stepT
  by_cases h1 : a = 1
  · subst h1; rw [dec_t rfl]; exact s_accept h hg k n
  by_cases h2 : a = 2
  · subst h2; rw [dec_f h1, dec_t rfl]; exact s_noted h hg k n
  by_cases h3 : a = 3
  · subst h3; rw [dec_f h1, dec_f h2, dec_t rfl]; exact s_gave3 h (small_fine h) k n
  rw [dec_f h1, dec_f h2, dec_f h3]
  unfold s_dkStep s_dkOpen
  rw [s_find (small_fine h).len]
  simp only [dec_f h1, dec_f h2, dec_f h3, cond_false, Option.bind_some]
  cases hi : firstAt (fun x : GTicket => decide (x.1 = k)) l 0 with
  | none => rfl
  | some i =>
    have hlt := firstAt_lt _ _ _ _ hi
    rw [Nat.zero_add] at hlt
    have hx : l[i]? = some (l[i]'hlt) := by simp [hlt]
    simp only [idx_get, hx, dec_t (by omega : (0 : Int) ≤ (i : Int)), cond_true, Option.bind_some]
    cases decide ((l[i]'hlt).2.2.2.1 = 0) with
    | false => rfl
    | true =>
      simp only [Bool.not_true, cond_false, dec_f (by omega : ¬ (i : Int) < 0), ownT h, Option.bind_some, dec_t (by omega : (0 : Int) ≤ (i : Int)), dec_t (by omega : (i : Int) < (l.length : Int)), Bool.and_self, cond_true]

theorem i_step {l : List GTicket} (h : Small l) (hg : areTickets l = true) (m : GDeskMove) : i_makeMove l m = some (stepT l m) := by
  obtain ⟨a, k, n, u⟩ := m
  unfold stepT
  by_cases h1 : a = 1
  · subst h1; rw [dec_t rfl]; exact i_accept h hg k n
  by_cases h2 : a = 2
  · subst h2; rw [dec_f h1, dec_t rfl]; exact i_noted h hg k n
  by_cases h3 : a = 3
  · subst h3; rw [dec_f h1, dec_f h2, dec_t rfl]; exact i_gave3 h (small_fine h) hg k n
  rw [dec_f h1, dec_f h2, dec_f h3]
  unfold i_makeMove
  rw [cloneT h]
  simp only [Option.bind_some]
  rw [i_find (small_fine h).len]
  simp only [dec_f h1, dec_f h2, dec_f h3, cond_false, Option.bind_some]

/-! a part has arrived -/

theorem note_same {l : List GTicket} (h : Small l) (k n : Int) : ∃ v b, s_NoteArrival l k n = some (v, b) ∧ i_NoteArrival l k n = some (v, b) ∧ Small v := by
  have hf := small_fine h
  unfold s_NoteArrival i_NoteArrival s_dkAsked
  rw [s_good hf, i_good hf]
  simp only [Option.bind_some]
  cases hg : areTickets l with
  | false => exact ⟨[], false, rfl, rfl, ⟨by simp, by simp⟩⟩
  | true =>
    simp only [Bool.not_true, cond_false]
    rw [s_noted h hg, i_noted h hg]
    exact ⟨_, _, rfl, rfl, (noted_fine h hg k n).1⟩

/-- FnExactNoteArrival -/
theorem plain_NoteArrival (l : List GTicket) (k p : Int) (h : Fine l) : l_FnExactNoteArrival l k p = some true := by
  unfold l_FnExactNoteArrival
  obtain ⟨r, hr, h2⟩ := szTicketS h
  rw [hr]
  simp only [Option.bind_some]
  by_cases h3 : r < 0
  · rw [dec_t h3]; rfl
  rw [dec_f h3]
  have hs : Small l := h2.resolve_left h3
  obtain ⟨v, b, e1, e2, hv⟩ := note_same hs k p
  simp only [toTicketS hs, e1, e2, eqTicketS (small_fine hv), eqTicketS h, Option.bind_some, cond_false, Bool.not_true, bne_self_eq_false, markT hs, dec_f (by omega : ¬ (1 + (total cntT l : Int)) < 0),
    markT hv, heldT hv, dec_f (by omega : ¬ (1 + (total cntT v : Int)) < 0), decide_true]

/-! moves, one by one -/

theorem toMoves {l : List GDeskMove} (h : l.length ≤ 1048576) : l_toDeskMoveS l = some l := by
  unfold l_toDeskMoveS
  rw [copy_guard h, cond_true, copy_loop (fun x => x) h ?_ ?_]
  · simp
  · intro out i x hx hi
    simp only [idx_get, hx, Option.bind_some, at_lt hi, cond_true, l_toDeskMove]
  · intro out; simp
theorem eqMoves {l : List GDeskMove} (h : l.length ≤ 1048576) : l_eqDeskMoveS l l = some true := by
  unfold l_eqDeskMoveS
  simp only [decide_true, Bool.not_true, cond_false]
  rw [all_loop (l := l) (fun _ => true) false ?_ ?_]
  · have : (l.all fun _ => true) = true := by simp
    rw [this]
    rfl
  · intro i x hx hi
    simp only [idx_get, hx, Option.bind_some, at_lt hi, l_eqDeskMove, decide_true, Bool.not_true, cond_false, cond_true, w64_of (x := (i : Int) + 1) (by omega) (by omega)]
  · simp
def wrM (_ : GDeskMove) (k : Int) : GDeskMove × Int := ((k, k + 1, k + 1 + 1, ()), k + 1 + 1 + 1)
theorem markMoves {l : List GDeskMove} {k : Int} (h : l.length ≤ 1048576) (h0 : 0 ≤ k) (h1 : k ≤ 100000000000000) : ∃ v, l_markDeskMoveS l k = some (v, k + (3 * l.length : Nat)) := by
  unfold l_markDeskMoveS
  have hm := mark_loop wrM (fun _ => 3) (B := 9000000000000000000) (f := fun (st2 : (List GDeskMove) × Int × Int) => (
      bif (decide (st2.2.2 < (st2.1.length : Int))) then
        bif decide (0 ≤ st2.2.2) && decide (st2.2.2 < (st2.1.length : Int)) then
          (st2.1[(Int.toNat st2.2.2)]?).bind fun e3 =>
          bif decide (0 ≤ st2.2.2) && decide (st2.2.2 < ((st2.1.set (Int.toNat st2.2.2) (st2.2.1, e3.2)).length : Int)) then
            ((st2.1.set (Int.toNat st2.2.2) (st2.2.1, e3.2))[(Int.toNat st2.2.2)]?).bind fun e4 =>
            bif decide (0 ≤ st2.2.2) && decide (st2.2.2 < (((st2.1.set (Int.toNat st2.2.2) (st2.2.1, e3.2)).set (Int.toNat st2.2.2) (e4.1, (w64 (st2.2.1 + 1)), e4.2.2)).length : Int)) then
              (((st2.1.set (Int.toNat st2.2.2) (st2.2.1, e3.2)).set (Int.toNat st2.2.2) (e4.1, (w64 (st2.2.1 + 1)), e4.2.2))[(Int.toNat st2.2.2)]?).bind fun e5 =>
              some (.inl ((((st2.1.set (Int.toNat st2.2.2) (st2.2.1, e3.2)).set (Int.toNat st2.2.2) (e4.1, (w64 (st2.2.1 + 1)), e4.2.2)).set (Int.toNat st2.2.2) (e5.1, e5.2.1, (w64 ((w64 (st2.2.1 + 1)) + 1)), ())), (w64 ((w64 ((w64 (st2.2.1 + 1)) + 1)) + 1)), (w64 (st2.2.2 + 1))))
            else
              none
          else
            none
        else
          none
      else
        some (.inr (st2.1, st2.2.1)) : Option (((List GDeskMove) × Int × Int) ⊕ (((List GDeskMove) × Int))))) (fun _ k => by simp [wrM]; omega) (fun l k => by simp) l [] k
    (fun x _ pre suf k h0 hB hl => by
      have g : decide (0 ≤ (pre.length : Int)) = true := decide_eq_true (by omega)
      have g2 : ∀ y : GDeskMove, decide ((pre.length : Int) < ((pre ++ y :: suf).length : Int)) = true := fun y => by simp; omega
      have hl' : pre.length < 4194304 := by simp at hl; omega
      have hB' : k + 3 ≤ 9000000000000000000 := hB
      have e0 : w64 (k + 1) = k + 1 := w64_of (by omega) (by omega)
      have e1 : w64 (k + 1 + 1) = k + 1 + 1 := w64_of (by omega) (by omega)
      have e2 : w64 (k + 1 + 1 + 1) = k + 1 + 1 + 1 := w64_of (by omega) (by omega)
      simp only [g, g2, get_mid, set_mid, cond_true, Bool.and_self, Option.bind_some, e0, e1, e2, w64_of (x := (pre.length : Int) + 1) (by omega) (by omega), wrM]) h0 (by rw [total_const]; omega) (by simpa using (by omega : l.length ≤ 4194304))
  simp only [List.nil_append, List.length_nil] at hm
  rw [show ((0 : Nat) : Int) = 0 from rfl] at hm
  exact ⟨_, bind_eq hm (by rw [total_const])⟩

theorem run_same {l : List GTicket} (h : Small l) {ms : List GDeskMove} (hm : ms.length ≤ 1048576) : ∃ v n b, s_RunDesk l ms = some (v, n, b) ∧ i_RunDesk l ms = some (v, n, b) ∧ Small v := by
  have hf := small_fine h
  unfold s_RunDesk i_RunDesk
  rw [s_good hf, i_good hf]
  simp only [Option.bind_some]
  cases hg : areTickets l with
  | false => exact ⟨[], 0, false, rfl, rfl, ⟨by simp, by simp⟩⟩
  | true =>
    simp only [Bool.not_true, cond_false, Option.bind_some]
    cases decide ((60 : Int) < (ms.length : Int)) with
    | true => exact ⟨[], 0, false, rfl, rfl, ⟨by simp, by simp⟩⟩
    | false =>
      simp only [cond_false, ownT h, cloneT h, Option.bind_some]
      obtain ⟨y, z, h1, h2, h3⟩ := two_loops (n := ms.length) (f := fun (st6 : (List GTicket) × Int) => (
          bif (decide (st6.2 < (ms.length : Int))) then
            (idx ms st6.2).bind fun e7 =>
            (s_dkStep st6.1 e7).bind fun r8 =>
            bif (!r8.2) then
              some (.inr (.inr (st6.1, st6.2, true)))
            else
              some (.inl (r8.1, (w64 (st6.2 + 1))))
          else
            some (.inr (.inl st6.1)) : Option (((List GTicket) × Int) ⊕ ((List GTicket) ⊕ ((List GTicket) × Int × Bool)))))
        (g := fun (st6 : (List GTicket) × Int) => (
          bif (decide (st6.2 < (ms.length : Int))) then
            (idx ms st6.2).bind fun e7 =>
            (i_makeMove st6.1 e7).bind fun r8 =>
            bif (!r8.2) then
              some (.inr (.inr (st6.1, st6.2, true)))
            else
              some (.inl (r8.1, (w64 (st6.2 + 1))))
          else
            some (.inr (.inl st6.1)) : Option (((List GTicket) × Int) ⊕ ((List GTicket) ⊕ ((List GTicket) × Int × Bool)))))
        (fun i a b => a = b ∧ a.2 = (i : Int) ∧ Small a.1 ∧ areTickets a.1 = true)
        (fun y z => y = z ∧ match y with | .inl v => Small v | .inr v => Small v.1)
        (fun i a b hi ⟨hab, ha2, hs, hgo⟩ => by
          subst hab
          obtain ⟨v, j⟩ := a
          simp only at ha2 hs hgo
          subst ha2
          have hx : ms[i]? = some (ms[i]'hi) := by simp [hi]
          have hfin := step_fine hs hgo (ms[i]'hi)
          simp only [at_lt hi, cond_true, idx_get, hx, Option.bind_some, s_step hs hgo, i_step hs hgo, w64_of (x := (i : Int) + 1) (by omega) (by omega)]
          cases hb : (stepT v (ms[i]'hi)).2 with
          | false => exact .inr ⟨_, _, rfl, rfl, rfl, hs⟩
          | true => exact .inl ⟨_, _, rfl, rfl, rfl, rfl, hfin.1, hfin.2 hb⟩)
        (fun a b ⟨hab, ha2, hs, hgo⟩ => by
          subst hab
          obtain ⟨v, j⟩ := a
          simp only at ha2 hs hgo
          subst ha2
          simp only [dec_f (by omega : ¬ (ms.length : Int) < (ms.length : Int)), cond_false]
          exact ⟨_, _, rfl, rfl, rfl, hs⟩)
        ms.length 0 (l, 0) (l, 0) (by omega) ⟨rfl, rfl, h, hg⟩
      obtain ⟨rfl, h4⟩ := h3
      rw [h1, h2]
      cases y with
      | inl v => exact ⟨v, _, _, rfl, rfl, h4⟩
      | inr v => exact ⟨v.1, v.2.1, v.2.2, rfl, rfl, h4⟩

/-- FnExactRunDesk -/
theorem plain_RunDesk (l : List GTicket) (ms : List GDeskMove) (h : Fine l) (hm : ms.length ≤ maxLen) : l_FnExactRunDesk l ms = some true := by
  unfold l_FnExactRunDesk
  obtain ⟨r, hr, h2⟩ := szTicketS2 h
  rw [hr]
  simp only [Option.bind_some]
  by_cases h3 : r < 0
  · rw [dec_t h3]; rfl
  rw [dec_f h3]
  obtain ⟨hs, hr0, hr1⟩ := h2.resolve_left h3
  unfold maxLen at hm
  have hw : w64 (r - (ms.length : Int)) = r - (ms.length : Int) := w64_of (by omega) (by omega)
  by_cases h5 : r - (ms.length : Int) < 0
  · have : l_szDeskMoveS ms r = some (-1) := by unfold l_szDeskMoveS; rw [hw, dec_t h5]; rfl
    rw [this]
    rfl
  have hsz : l_szDeskMoveS ms r = some (r - (ms.length : Int)) := by unfold l_szDeskMoveS; rw [hw, dec_f h5]; rfl
  have hml : ms.length ≤ 1048576 := by omega
  obtain ⟨v, n, b, e1, e2, hv⟩ := run_same hs hml
  have htl := total_le l hs.got
  have hsl := hs.len
  have hb : (1 + (total cntT l : Int)) ≤ 100000000000000 := by omega
  obtain ⟨v2, hmk⟩ := markMoves (k := 1 + (total cntT l : Int)) hml (by omega) hb
  simp only [hsz, cond_false, Option.bind_some, dec_f h5, toTicketS hs, toMoves hml, e1, e2, eqTicketS (small_fine hv), eqTicketS h, eqMoves hml, Bool.not_true, bne_self_eq_false, decide_true, markT hs, hmk, dec_f (by omega : ¬ (1 + (total cntT l : Int) + ((3 * ms.length : Nat) : Int)) < 0),
    markT hv, heldT hv, dec_f (by omega : ¬ (1 + (total cntT v : Int)) < 0)]
end Go.Proofs.Yteocijadidgagaa.Sh
