/-
  How often signals are used: SignalUses, UnusedSignals.
-/
import Derived.Test.YtbbcmknpbpfkaaaMPlain1
namespace Go.Proofs.Ytbbcmknpbpfkaaa.Sh
open Go Go.Ab Go.Proofs

def wrInt (_ : Int) (k : Int) : Int × Int := (k, k + 1)
theorem markIntS {l : List Int} {k : Int} (h : l.length ≤ 1048576) (h0 : 0 ≤ k) (h1 : k ≤ 1000000000000000) : l_markIntS l k = some (marked wrInt l k, k + (l.length : Int)) := by
  unfold l_markIntS
  have := mark_loop wrInt (fun _ => 1) (B := 9000000000000000000) (f := fun (st2 : (List Int) × Int × Int) => (
      bif (decide (st2.2.2 < (st2.1.length : Int))) then
        bif decide (0 ≤ st2.2.2) && decide (st2.2.2 < (st2.1.length : Int)) then
          some (.inl ((st2.1.set (Int.toNat st2.2.2) st2.2.1), (w64 (st2.2.1 + 1)), (w64 (st2.2.2 + 1))))
        else
          none
      else
        some (.inr (st2.1, st2.2.1)) : Option (((List Int) × Int × Int) ⊕ (((List Int) × Int))))) (fun _ _ => rfl) (fun l k => by simp) l [] k
    (fun x _ pre suf k h0 hB hl => by
      have h1 : (pre.length : Int) < (pre ++ x :: suf).length := by simp; omega
      have h2 : pre.length < 4194304 := by simp at hl; omega
      simp only [set_mid, h1, decide_true, cond_true]
      rw [w64_of (x := k + 1) (by omega) (by omega), w64_of (x := (pre.length : Int) + 1) (by omega) (by omega)]
      simp [wrInt]) h0 (by rw [total_const]; omega) (by simpa using (by omega : l.length ≤ 4194304))
  simp only [List.nil_append, List.length_nil] at this
  rw [show ((0 : Nat) : Int) = 0 from rfl] at this
  rw [this, total_const]
  simp

theorem heldIntS {l : List Int} (h : l.length ≤ 1048576) : l_heldIntS (marked wrInt l 1) 1 = some ((1 : Int) + (l.length : Int)) := by
  unfold l_heldIntS
  have hml := marked_len wrInt l 1
  rw [for_loop (a := marked wrInt l 1) Prod.mk (fun (k : Int) _ x => some (bif decide (x = k) && decide (k ≤ 9000000000000000000) then .inl (w64 (k + 1)) else (bif (!decide (x = k)) then .inr (.inr (-1)) else .inl (w64 (k + 1))))) (fun k => .inl k) 1 ?_ ?_ ?_]
  · have := held_res wrInt (fun _ => 1) (fun (k : Int) _ x => some (bif decide (x = k) && decide (k ≤ 9000000000000000000) then .inl (w64 (k + 1)) else (bif (!decide (x = k)) then .inr (.inr (-1)) else .inl (w64 (k + 1))))) (fun _ _ => rfl) (B := 9000000000000000000) l 1 0 (fun x _ k i h0 hB => by
      have hB' : k + 1 ≤ 9000000000000000000 := by simpa using hB
      simp only [wrInt, decide_true, Bool.true_and]
      rw [show decide (k ≤ 9000000000000000000) = true from decide_eq_true (by omega), w64_of (by omega) (by omega)]
      rfl) (by omega) (by rw [total_const]; omega)
    rw [this, total_const]
    simp
  · rfl
  · intro k i x hi hx
    simp only [idx_get, hx, Option.bind_some]
    rw [show decide ((i : Int) < (marked wrInt l 1).length) = true from decide_eq_true (by omega), w64_of (x := (i : Int) + 1) (by omega) (by omega)]
    cases decide (x = k) <;> cases decide (k ≤ 9000000000000000000) <;> rfl
  · intro k; simp

/-- the digits of a number, before what is there -/
theorem digits : ∀ (n : Nat) (k : Int) (b : Bytes), 0 ≤ k → k ≤ 9223372036854775807 → k < 10 ^ n → b.length + n ≤ 1000 → ∃ t, loopE (fun (st2 : Int × Bytes) => (
        bif (decide (0 < st2.1)) then
          bif decide (List.length (toStr [(IntKind.u8.wrap (w64 (48 + (Int.tmod st2.1 10))))]) + List.length st2.2 ≤ lim) then
            some (.inl ((w64 (Int.tdiv st2.1 10)), ((toStr [(IntKind.u8.wrap (w64 (48 + (Int.tmod st2.1 10))))]) ++ st2.2)))
          else
            none
        else
          some (.inr st2.2) : Option ((Int × Bytes) ⊕ (Bytes)))) (k, b) = some t ∧ t.length ≤ 1000
  | 0, k, b, h0, hbig, h1, hb => by
    have : k = 0 := by simp at h1; omega
    subst this
    exact ⟨b, loopE_done rfl, by omega⟩
  | n + 1, k, b, h0, hbig, h1, hb => by
    by_cases hk : 0 < k
    · have hlim : lim = 4294967296 := rfl
      have hp : (10 : Int) ^ (n + 1) = 10 * 10 ^ n := by rw [Int.pow_succ, Int.mul_comm]
      have e : Int.tdiv k 10 = k / 10 := Int.tdiv_eq_ediv_of_nonneg h0
      have hd : k / 10 < 10 ^ n := by omega
      · obtain ⟨t, ht, htl⟩ := digits n (k / 10) (toStr [(IntKind.u8.wrap (w64 (48 + (Int.tmod k 10))))] ++ b) (by omega) (by omega) hd (by simp [toStr]; omega)
        refine ⟨t, ?_, htl⟩
        rw [loopE_step (a' := (k / 10, toStr [(IntKind.u8.wrap (w64 (48 + (Int.tmod k 10))))] ++ b))]
        · exact ht
        · simp only [decide_eq_true hk, cond_true]
          rw [show decide (List.length (toStr [(IntKind.u8.wrap (w64 (48 + (Int.tmod k 10))))]) + b.length ≤ lim) = true from decide_eq_true (by simp [toStr]; omega), cond_true, e, w64_of (x := k / 10) (by omega) (by omega)]
    · have : k = 0 := by omega
      subst this
      exact ⟨b, loopE_done rfl, by omega⟩
theorem markText {k : Int} (h0 : 0 ≤ k) (h1 : k ≤ 1000000000000000) : ∃ t, l_markText k = some t ∧ t.length ≤ 2000 := by
  unfold l_markText
  by_cases h : k ≤ 0
  · rw [decide_eq_true h]; exact ⟨_, rfl, by simp⟩
  · rw [decide_eq_false h]
    obtain ⟨t, ht, hl⟩ := digits 16 k [] h0 (by omega) (by omega) (by simp)
    have hlim : lim = 4294967296 := rfl
    simp only [cond_false, ht, Option.bind_some]
    rw [show decide (List.length ([109] : Bytes) + t.length ≤ lim) = true from decide_eq_true (by simp; omega)]
    exact ⟨_, rfl, by simp; omega⟩

theorem markPhraseS {l : List GPhrase} (hl : l.length ≤ 1048576) (hs : ∀ x ∈ l, x.2.1.length ≤ 1048576) : ∃ v, l_markPhraseS l 1 = some v ∧ 0 ≤ v.2 := by
  unfold l_markPhraseS
  obtain ⟨v, h1, h2⟩ := one_loop (n := l.length) (f := (fun (st2 : (List GPhrase) × Int × Int) => (
      bif (decide (st2.2.2 < (st2.1.length : Int))) then
        (l_markText st2.2.1).bind fun r3 =>
        bif decide (0 ≤ st2.2.2) && decide (st2.2.2 < (st2.1.length : Int)) then
          (st2.1[(Int.toNat st2.2.2)]?).bind fun e4 =>
          bif decide (0 ≤ st2.2.2) && decide (st2.2.2 < ((st2.1.set (Int.toNat st2.2.2) (r3, e4.2)).length : Int)) then
            ((st2.1.set (Int.toNat st2.2.2) (r3, e4.2))[(Int.toNat st2.2.2)]?).bind fun e5 =>
            (l_markIntS e5.2.1 (w64 (st2.2.1 + 1))).bind fun r6 =>
            some (.inl (((st2.1.set (Int.toNat st2.2.2) (r3, e4.2)).set (Int.toNat st2.2.2) (e5.1, r6.1, ())), r6.2, (w64 (st2.2.2 + 1))))
          else
            none
        else
          none
      else
        some (.inr (st2.1, st2.2.1)) : Option (((List GPhrase) × Int × Int) ⊕ (((List GPhrase) × Int))))))
    (fun i a => a.1.length = l.length ∧ (∀ x ∈ a.1, x.2.1.length ≤ 1048576) ∧ a.2.2 = (i : Int) ∧ 0 ≤ a.2.1 ∧ a.2.1 ≤ 1 + i * 1048577) (fun y => 0 ≤ y.2)
    (fun i a hi ⟨h1, h2, h3, h4, h5⟩ => by
      obtain ⟨r, k, j⟩ := a
      simp only at h1 h2 h3 h4 h5
      subst h3
      left
      have hk : k ≤ 100000000000000 := by omega
      obtain ⟨t, ht, _⟩ := markText (k := k) h4 (by omega)
      have hx : r[i]? = some (r[i]'(by omega)) := by simp [show i < r.length by omega]
      have hxs := h2 _ (List.mem_of_getElem? hx)
      generalize r[i]'(by omega) = x at hx hxs
      have g1 : decide ((i : Int) < (r.length : Int)) = true := decide_eq_true (by omega)
      have g2 : decide ((0 : Int) ≤ (i : Int)) = true := decide_eq_true (by omega)
      have hs1 : (r.set i (t, x.2))[i]? = some (t, x.2) := by rw [List.getElem?_set_self (by omega)]
      have hm := markIntS (l := x.2.1) (k := k + 1) hxs (by omega) (by omega)
      refine ⟨(((r.set i (t, x.2)).set i (t, (marked wrInt x.2.1 (k + 1)), ())), k + 1 + (x.2.1.length : Int), (i : Int) + 1), ?_, by simp [h1], fun y hy => ?_, by simp, by show (0 : Int) ≤ k + 1 + (x.2.1.length : Int); omega, by show k + 1 + (x.2.1.length : Int) ≤ _; omega⟩
      · simp only [g1, g2, ht, Int.toNat_natCast, hx, cond_true, Option.bind_some, Bool.and_self, List.length_set, hs1, w64_of (x := k + 1) (by omega) (by omega), hm, w64_of (x := (i : Int) + 1) (by omega) (by omega)]
      · rcases List.mem_or_eq_of_mem_set hy with hy | rfl
        · rcases List.mem_or_eq_of_mem_set hy with hy | rfl
          · exact h2 y hy
          · exact hxs
        · show (marked wrInt x.2.1 (k + 1)).length ≤ 1048576
          rw [marked_len]
          exact hxs)
    (fun a ⟨h1, h2, h3, h4, h5⟩ => by
      obtain ⟨r, k, j⟩ := a
      simp only at h1 h2 h3 h4 h5
      subst h3
      exact ⟨(r, k), by simp only [show decide ((l.length : Int) < (r.length : Int)) = false from decide_eq_false (by omega)]; rfl, h4⟩) l.length 0 (l, 1, 0) (by omega) ⟨rfl, hs, rfl, by simp, by simp⟩
  exact ⟨_, by rw [h1]; rfl, h2⟩

theorem markBook {b : GBook} (h : Small b) : ∃ v, l_markBook b 1 = some v ∧ decide (v.2 < 0) = false := by
  obtain ⟨v, h1, h2⟩ := markPhraseS h.len h.sig
  unfold l_markBook
  exact ⟨_, by rw [h1]; rfl, decide_eq_false (by simp only []; omega)⟩

theorem uses_some {b : GBook} (h : Fine b) (hp : ∀ x ∈ b.1, ∀ n ∈ x.2.1, 1 ≤ n ∧ n ≤ 60) : ∃ l, s_msUses b = some l ∧ l.length = 60 := by
  unfold s_msUses
  have hm := h.len
  unfold maxLen at hm
  obtain ⟨l, h1, h2⟩ := one_loop (n := b.1.length) (f := (fun (st2 : (List Int) × Int) => (
        bif (decide (st2.2 < (b.1.length : Int))) then
          (idx b.1 st2.2).bind fun e3 =>
          (loopE (fun (st5 : (List Int) × Int) => (
              bif (decide (st5.2 < (e3.2.1.length : Int))) then
                (idx e3.2.1 st5.2).bind fun e6 =>
                bif decide (0 ≤ (w64 (e6 - 1))) && decide ((w64 (e6 - 1)) < (st5.1.length : Int)) then
                  (st5.1[(Int.toNat (w64 (e6 - 1)))]?).bind fun e7 =>
                  bif decide (0 ≤ (w64 (e6 - 1))) && decide ((w64 (e6 - 1)) < (st5.1.length : Int)) then
                    some (.inl ((st5.1.set (Int.toNat (w64 (e6 - 1))) (w64 (e7 + 1))), (w64 (st5.2 + 1))))
                  else
                    none
                else
                  none
              else
                some (.inr st5.1) : Option (((List Int) × Int) ⊕ ((List Int))))) (st2.1, 0)).bind fun o8 =>
          some (.inl (o8, (w64 (st2.2 + 1))))
        else
          some (.inr st2.1) : Option (((List Int) × Int) ⊕ ((List Int)))))) (fun i a => a.1.length = 60 ∧ a.2 = (i : Int)) (fun y => y.length = 60)
    (fun i a hi ⟨h1, h2⟩ => by
      obtain ⟨r, j⟩ := a
      simp only at h1 h2
      subst h2
      left
      have ex : b.1[i]? = some b.1[i] := by simp [hi]
      have hmem := List.mem_of_getElem? ex
      generalize b.1[i] = x at ex hmem
      have hx := hp x hmem
      have hlx := h.sig x hmem
      obtain ⟨l, k1, k2⟩ := one_loop (n := x.2.1.length) (f := (fun (st5 : (List Int) × Int) => (
              bif (decide (st5.2 < (x.2.1.length : Int))) then
                (idx x.2.1 st5.2).bind fun e6 =>
                bif decide (0 ≤ (w64 (e6 - 1))) && decide ((w64 (e6 - 1)) < (st5.1.length : Int)) then
                  (st5.1[(Int.toNat (w64 (e6 - 1)))]?).bind fun e7 =>
                  bif decide (0 ≤ (w64 (e6 - 1))) && decide ((w64 (e6 - 1)) < (st5.1.length : Int)) then
                    some (.inl ((st5.1.set (Int.toNat (w64 (e6 - 1))) (w64 (e7 + 1))), (w64 (st5.2 + 1))))
                  else
                    none
                else
                  none
              else
                some (.inr st5.1) : Option (((List Int) × Int) ⊕ ((List Int)))))) (fun i a => a.1.length = 60 ∧ a.2 = (i : Int)) (fun y => y.length = 60)
        (fun i a hi ⟨h1, h2⟩ => by
          obtain ⟨r, j⟩ := a
          simp only at h1 h2
          subst h2
          left
          have en : x.2.1[i]? = some x.2.1[i] := by simp [hi]
          have hn := hx _ (List.mem_of_getElem? en)
          generalize x.2.1[i] = n at en hn
          have g1 : (decide ((0 : Int) ≤ n - 1) && decide (n - 1 < (r.length : Int))) = true := by simp; omega
          have er : r[(n - 1).toNat]? = some (r[(n - 1).toNat]'(by omega)) := by simp [show (n - 1).toNat < r.length by omega]
          simp only [at_lt hi, cond_true, idx_get, en, Option.bind_some, w64_of (x := n - 1) (by omega) (by omega), g1, er, up hlx hi]
          exact ⟨_, rfl, by simp [h1], by simp⟩)
        (fun a ⟨h1, h2⟩ => by
          obtain ⟨r, j⟩ := a
          simp only at h1 h2
          subst h2
          exact ⟨r, by simp only [no_lt]; rfl, h1⟩) x.2.1.length 0 (r, 0) (by omega) ⟨h1, rfl⟩
      simp only [at_lt hi, cond_true, idx_get, ex, Option.bind_some, k1, up h.len hi]
      exact ⟨_, rfl, k2, by simp⟩)
    (fun a ⟨h1, h2⟩ => by
      obtain ⟨r, j⟩ := a
      simp only at h1 h2
      subst h2
      exact ⟨r, by simp only [no_lt]; rfl, h1⟩) b.1.length 0 ((List.replicate (Int.toNat 60) (0 : Int)), 0) (by omega) ⟨by simp, rfl⟩
  refine ⟨l, ?_, h2⟩
  rw [h1]
  rfl

theorem book_sig {b : GBook} (hb : isBook b = true) : ∀ x ∈ b.1, ∀ n ∈ x.2.1, 1 ≤ n ∧ n ≤ 60 := by
  simp only [isBook, Bool.and_eq_true, List.all_eq_true, inB, decide_eq_true_eq] at hb
  intro x hx
  obtain ⟨i, hi, rfl⟩ := List.getElem_of_mem hx
  have := hb.1 i (List.mem_range.2 hi)
  have e : b.1[i]? = some b.1[i] := by simp [hi]
  simp only [goodAt, e, Bool.and_eq_true, isSignals, inB, decide_eq_true_eq, List.all_eq_true] at this
  exact this.1.1.2.2

theorem uses_same {b : GBook} (h : Fine b) : ∃ v, s_SignalUses b = some v ∧ i_SignalUses b = some v ∧ v.1.length ≤ 1048576 := by
  unfold s_SignalUses i_SignalUses
  simp only [s_good h, i_good h, Option.bind_some]
  cases hb : isBook b with
  | false => exact ⟨_, rfl, rfl, by simp⟩
  | true =>
    obtain ⟨l, hl, h60⟩ := uses_some h (book_sig hb)
    have e : i_signalUses b = s_msUses b := rfl
    rw [e, hl]
    exact ⟨_, rfl, rfl, by simp only []; omega⟩

theorem unused_same {b : GBook} (h : Fine b) : ∃ v, s_UnusedSignals b = some v ∧ i_UnusedSignals b = some v ∧ v.1.length ≤ 1048576 := by
  unfold s_UnusedSignals i_UnusedSignals
  simp only [s_good h, i_good h, Option.bind_some]
  cases hb : isBook b with
  | false => exact ⟨_, rfl, rfl, by simp⟩
  | true =>
    obtain ⟨l, hl, h60⟩ := uses_some h (book_sig hb)
    have e : i_signalUses b = s_msUses b := rfl
    rw [e, hl]
    simp only [Bool.not_true, cond_false, Option.bind_some]
    obtain ⟨o, h1, h2⟩ := one_loop (n := l.length) (f := (fun (st4 : (List Int) × (List Int) × Int) => (
        bif (decide (st4.2.2 < (l.length : Int))) then
          bif decide (0 ≤ st4.2.2) && decide (st4.2.2 < (st4.2.1.length : Int)) then
            (st4.2.1[(Int.toNat st4.2.2)]?).bind fun e5 =>
            bif (decide (e5 = 0)) then
              bif decide (List.length st4.1 + List.length [(w64 (st4.2.2 + 1))] ≤ lim) then
                some (.inl ((st4.1 ++ [(w64 (st4.2.2 + 1))]), st4.2.1, (w64 (st4.2.2 + 1))))
              else
                none
            else
              some (.inl (st4.1, st4.2.1, (w64 (st4.2.2 + 1))))
          else
            none
        else
          some (.inr st4.1) : Option (((List Int) × (List Int) × Int) ⊕ ((List Int)))))) (fun i a => a.1.length ≤ i ∧ a.2.1 = l ∧ a.2.2 = (i : Int)) (fun y => y.length ≤ 60)
      (fun i a hi ⟨h1, h2, h3⟩ => by
        obtain ⟨o, r, j⟩ := a
        simp only at h1 h2 h3
        subst h2
        subst h3
        left
        have hlim : lim = 4294967296 := rfl
        have er : r[i]? = some r[i] := by simp [hi]
        generalize r[i] = n at er
        have g2 : decide ((0 : Int) ≤ (i : Int)) = true := decide_eq_true (by omega)
        simp only [at_lt hi, g2, cond_true, Bool.and_self, Int.toNat_natCast, er, Option.bind_some, w64_of (x := (i : Int) + 1) (by omega) (by omega)]
        rw [show decide (o.length + [(i : Int) + 1].length ≤ lim) = true from decide_eq_true (by simp only [List.length_cons, List.length_nil]; omega)]
        cases decide (n = 0) with
        | true => exact ⟨_, rfl, by simp; omega, rfl, by simp⟩
        | false => exact ⟨_, rfl, by simp only []; omega, rfl, by simp⟩)
      (fun a ⟨h1, h2, h3⟩ => by
        obtain ⟨o, r, j⟩ := a
        simp only at h1 h2 h3
        subst h2
        subst h3
        exact ⟨o, by simp only [no_lt]; rfl, by omega⟩) l.length 0 ([], l, 0) (by omega) ⟨by simp, rfl, rfl⟩
    rw [h1]
    exact ⟨_, rfl, rfl, by simp only []; omega⟩

/-- FnExactSignalUses -/
theorem plain_SignalUses (b : GBook) (h : Fine b) : l_FnExactSignalUses b = some true := by
  unfold l_FnExactSignalUses
  obtain ⟨r, hr, h2⟩ := szBook h
  rw [hr]
  simp only [Option.bind_some]
  rcases h2 with h2 | h2
  · rw [decide_eq_true h2]; rfl
  cases decide (r < 0) with
  | true => rfl
  | false =>
  obtain ⟨v, h3, h4, h5⟩ := uses_same h
  obtain ⟨m, m1, m2⟩ := markBook h2
  have hml : v.1.length ≤ maxLen := by unfold maxLen; omega
  have g : decide ((1 : Int) + v.1.length < 0) = false := decide_eq_false (by omega)
  simp only [toBook h2, eqBook h, Option.bind_some, cond_false, h3, h4, eqIntS hml, m1, m2, markIntS h5 (k := 1) (by omega) (by omega), heldIntS h5, g]
  simp

/-- FnExactUnusedSignals -/
theorem plain_UnusedSignals (b : GBook) (h : Fine b) : l_FnExactUnusedSignals b = some true := by
  unfold l_FnExactUnusedSignals
  obtain ⟨r, hr, h2⟩ := szBook h
  rw [hr]
  simp only [Option.bind_some]
  rcases h2 with h2 | h2
  · rw [decide_eq_true h2]; rfl
  cases decide (r < 0) with
  | true => rfl
  | false =>
  obtain ⟨v, h3, h4, h5⟩ := unused_same h
  obtain ⟨m, m1, m2⟩ := markBook h2
  have hml : v.1.length ≤ maxLen := by unfold maxLen; omega
  have g : decide ((1 : Int) + v.1.length < 0) = false := decide_eq_false (by omega)
  simp only [toBook h2, eqBook h, Option.bind_some, cond_false, h3, h4, eqIntS hml, m1, m2, markIntS h5 (k := 1) (by omega) (by omega), heldIntS h5, g]
  simp
end Go.Proofs.Ytbbcmknpbpfkaaa.Sh
