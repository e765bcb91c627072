/-
  A book that is dealt anew.
-/
import Derived.Test.YtlhplhjibadplaaBDraw7
namespace Go.Proofs.Ytlhplhjibadplaa.Sh
open Go Go.Ab
set_option maxRecDepth 100000

theorem sig_len {b : GBook} (hb : Q.isBook b = true) : ∀ x ∈ b.1, 1 ≤ x.2.1.length ∧ x.2.1.length ≤ 3 := by
  simp only [Q.isBook, Bool.and_eq_true, List.all_eq_true, Q.inB, decide_eq_true_eq] at hb
  intro x hx
  obtain ⟨i, hi, rfl⟩ := List.getElem_of_mem hx
  have := hb.1 i (List.mem_range.2 hi)
  have e : b.1[i]? = some b.1[i] := by simp [hi]
  simp only [Q.goodAt, e, Bool.and_eq_true, Q.isSignals, Q.inB, decide_eq_true_eq, List.all_eq_true] at this
  have h2 := this.1.1.2
  omega

theorem asked_val {b : GBook} (hb : Q.Fine b) {w : List Int} (hw : w.length ≤ maxLen) : s_msAsked b w = some (Q.isBook b && (decide (w.length = b.1.length) && w.all fun x => Q.inB x 0 10000)) := by
  unfold s_msAsked
  rw [Q.s_good hb]
  simp only [Option.bind_some, Q.s_all hw]
  have : decide ((w.length : Int) = (b.1.length : Int)) = decide (w.length = b.1.length) := by
    by_cases h : w.length = b.1.length
    · rw [dec_t h, dec_t (by omega)]
    · rw [dec_f h, dec_f (by omega)]
  rw [this]
  cases Q.isBook b <;> cases decide (w.length = b.1.length) <;> rfl

/-- how many phrases have signals of this number -/
def nOf (l : List GPhrase) (L : Nat) : Nat := l.countP fun x => decide ((x.2.1.length : Int) = (L : Int))
theorem nOf_cons (x : GPhrase) (l : List GPhrase) (L : Nat) : nOf (x :: l) L = nOf l L + (if x.2.1.length = L then 1 else 0) := by
  unfold nOf
  rw [List.countP_cons]
  congr 1
  by_cases h : x.2.1.length = L
  · simp [h]
  · have : ¬ (x.2.1.length : Int) = (L : Int) := by omega
    simp [h, this]
theorem nOf_three : ∀ {l : List GPhrase}, (∀ x ∈ l, 1 ≤ x.2.1.length ∧ x.2.1.length ≤ 3) → nOf l 1 + nOf l 2 + nOf l 3 = l.length
  | [], _ => rfl
  | x :: l, h => by
    have ih := nOf_three (l := l) fun y hy => h y (List.mem_cons_of_mem _ hy)
    have hx := h x (by simp)
    rw [nOf_cons, nOf_cons, nOf_cons, List.length_cons]
    have : x.2.1.length = 1 ∨ x.2.1.length = 2 ∨ x.2.1.length = 3 := by omega
    rcases this with e | e | e <;> rw [e] <;> simp <;> omega

theorem pick_loop {b : GBook} (hb : AnyOk b) {L : Nat} (order : List Int) (ho : order.length ≤ 400) (hr : ∀ x ∈ order, 0 ≤ x ∧ x < (b.1.length : Int)) (a : List GPhrase) :
    ∃ o, loopE (fun (st5 : (List GPhrase) × (List Int) × Int) => (
              bif (decide (st5.2.2 < (b.1.length : Int))) then
                (idx b.1 st5.2.2).bind fun e6 =>
                bif (decide ((e6.2.1.length : Int) = (L : Int))) then
                  bif decide (List.length st5.2.1 + List.length [st5.2.2] ≤ lim) then
                    some (.inl (st5.1, (st5.2.1 ++ [st5.2.2]), (w64 (st5.2.2 + 1))))
                  else
                    none
                else
                  some (.inl (st5.1, st5.2.1, (w64 (st5.2.2 + 1))))
              else
                some (.inr (st5.1, st5.2.1)) : Option (((List GPhrase) × (List Int) × Int) ⊕ (((List GPhrase) × (List Int)))))) (a, order, 0) = some (a, o) ∧ o.length = order.length + nOf b.1 L ∧ ∀ x ∈ o, 0 ≤ x ∧ x < (b.1.length : Int) := by
  have hbl := hb.len
  refine Exists.elim (one_loop (n := b.1.length) (fun i (st : (List GPhrase) × (List Int) × Int) => ∃ o, st = (a, o, (i : Int)) ∧ o.length = order.length + nOf (b.1.take i) L ∧ o.length ≤ order.length + i ∧ ∀ x ∈ o, 0 ≤ x ∧ x < (b.1.length : Int)) (fun (z : (List GPhrase) × (List Int)) => ∃ o, z = (a, o) ∧ o.length = order.length + nOf b.1 L ∧ ∀ x ∈ o, 0 ≤ x ∧ x < (b.1.length : Int)) (f := (fun (st5 : (List GPhrase) × (List Int) × Int) => (
              bif (decide (st5.2.2 < (b.1.length : Int))) then
                (idx b.1 st5.2.2).bind fun e6 =>
                bif (decide ((e6.2.1.length : Int) = (L : Int))) then
                  bif decide (List.length st5.2.1 + List.length [st5.2.2] ≤ lim) then
                    some (.inl (st5.1, (st5.2.1 ++ [st5.2.2]), (w64 (st5.2.2 + 1))))
                  else
                    none
                else
                  some (.inl (st5.1, st5.2.1, (w64 (st5.2.2 + 1))))
              else
                some (.inr (st5.1, st5.2.1)) : Option (((List GPhrase) × (List Int) × Int) ⊕ (((List GPhrase) × (List Int))))))) ?_ ?_ b.1.length 0 (a, order, 0) (by omega) ⟨order, rfl, rfl, Nat.le_refl _, hr⟩) ?_
  rotate_left
  rotate_left
  · intro z ⟨h1, o, h2, h3⟩
    exact ⟨o, by rw [h1, h2], h3⟩
  · intro i st hi ⟨o, e, h1, h2, h3⟩
    left
    subst e
    have hx : b.1[i]? = some (b.1[i]'hi) := by simp [hi]
    have ht : nOf (b.1.take (i + 1)) L = nOf (b.1.take i) L + (if ((b.1[i]'hi).2.1.length : Int) = (L : Int) then 1 else 0) := by
      unfold nOf
      rw [List.take_succ_eq_append_getElem hi, List.countP_append]
      congr 1
      by_cases h : ((b.1[i]'hi).2.1.length : Int) = (L : Int) <;> simp [h]
    simp only [dec_t (by omega : (i : Int) < (b.1.length : Int)), cond_true, idx_get, hx, Option.bind_some]
    rw [w64_of (by omega) (by omega)]
    by_cases h : ((b.1[i]'hi).2.1.length : Int) = (L : Int)
    · rw [if_pos h] at ht
      rw [dec_t h, limII (by omega) (by simp)]
      refine ⟨_, rfl, o ++ [(i : Int)], rfl, by rw [List.length_append, ht, List.length_singleton]; omega, by rw [List.length_append, List.length_singleton]; omega, fun x hx => ?_⟩
      rcases List.mem_append.1 hx with hx | hx
      · exact h3 x hx
      · rw [List.mem_singleton.1 hx]; omega
    · rw [if_neg h] at ht
      rw [dec_f h]
      exact ⟨_, rfl, o, rfl, by rw [ht]; exact h1, by omega, h3⟩
  · intro st ⟨o, e, h1, h2, h3⟩
    subst e
    rw [List.take_length] at h1
    exact ⟨(a, o), by simp only [dec_f (by omega : ¬ (b.1.length : Int) < (b.1.length : Int)), cond_false], o, rfl, h1, h3⟩

theorem deal_some {b : GBook} (hb : AnyOk b) {w : List Int} (hw : w.length ≤ 500) : ∃ v, s_DealAnew b w = some v ∧ AnyOk v.1 := by
  unfold s_DealAnew
  rw [asked_val hb.fine (by unfold maxLen; omega)]
  simp only [Option.bind_some]
  cases hk : (Q.isBook b && (decide (w.length = b.1.length) && w.all fun x => Q.inB x 0 10000)) with
  | false => exact ⟨_, rfl, ⟨by simp, fun x hx => by cases hx⟩⟩
  | true =>
    simp only [Bool.and_eq_true, decide_eq_true_eq] at hk
    obtain ⟨k1, k2, _⟩ := hk
    have hbl := hb.len
    obtain ⟨cm, c1, c2, c3⟩ := order_val hw
    simp only [Bool.not_true, cond_false]
    refine Exists.elim (one_loop (n := 3) (fun i (st : (List GPhrase) × (List Int) × Int) => ∃ o, st = ([], o, ((i + 1 : Nat) : Int)) ∧ o.length = (match i with | 0 => 0 | 1 => nOf b.1 1 | 2 => nOf b.1 1 + nOf b.1 2 | _ => nOf b.1 1 + nOf b.1 2 + nOf b.1 3) ∧ ∀ x ∈ o, 0 ≤ x ∧ x < (b.1.length : Int)) (fun (z : (List GPhrase) × (List Int)) => ∃ o, z = ([], o) ∧ o.length = b.1.length ∧ ∀ x ∈ o, 0 ≤ x ∧ x < (b.1.length : Int)) (f := (fun (st3 : (List GPhrase) × (List Int) × Int) => (
        bif (decide (st3.2.2 ≤ 3)) then
          (loopE (fun (st5 : (List GPhrase) × (List Int) × Int) => (
              bif (decide (st5.2.2 < (b.1.length : Int))) then
                (idx b.1 st5.2.2).bind fun e6 =>
                bif (decide ((e6.2.1.length : Int) = st3.2.2)) then
                  bif decide (List.length st5.2.1 + List.length [st5.2.2] ≤ lim) then
                    some (.inl (st5.1, (st5.2.1 ++ [st5.2.2]), (w64 (st5.2.2 + 1))))
                  else
                    none
                else
                  some (.inl (st5.1, st5.2.1, (w64 (st5.2.2 + 1))))
              else
                some (.inr (st5.1, st5.2.1)) : Option (((List GPhrase) × (List Int) × Int) ⊕ (((List GPhrase) × (List Int)))))) (st3.1, st3.2.1, 0)).bind fun o7 =>
          some (.inl (o7.1, o7.2, (w64 (st3.2.2 + 1))))
        else
          some (.inr (st3.1, st3.2.1)) : Option (((List GPhrase) × (List Int) × Int) ⊕ (((List GPhrase) × (List Int))))))) ?_ ?_ 3 0 ([], [], 1) (by omega) ⟨[], rfl, rfl, fun x hx => by cases hx⟩) ?_
    · intro i st hi ⟨o, e, g1, g2⟩
      left
      subst e
      have hn : ∀ L, nOf b.1 L ≤ b.1.length := fun L => List.countP_le_length
      have h1 := hn 1; have h2 := hn 2; have h3 := hn 3
      obtain ⟨o', e1, e2, e3⟩ := pick_loop hb (L := i + 1) o (by
        have : i = 0 ∨ i = 1 ∨ i = 2 := by omega
        rcases this with rfl | rfl | rfl <;> simp only at g1 <;> omega) g2 []
      refine ⟨([], o', ((i + 1 + 1 : Nat) : Int)), ?_, o', rfl, ?_, e3⟩
      · simp only [dec_t (by omega : ((i + 1 : Nat) : Int) ≤ 3), cond_true]
        rw [e1]
        simp only [Option.bind_some]
        rw [w64_of (by omega) (by omega)]
        rfl
      · rw [e2, g1]
        have : i = 0 ∨ i = 1 ∨ i = 2 := by omega
        rcases this with rfl | rfl | rfl <;> simp
    · intro st ⟨o, e, g1, g2⟩
      subst e
      exact ⟨([], o), rfl, o, rfl, by rw [g1]; exact nOf_three (sig_len k1), g2⟩
    intro z ⟨h1, o, hz, h2, h3⟩
    subst hz
    rw [h1]
    simp only [Option.bind_some, bkOwn_some hbl (fun x hx => (hb.all x hx).2), c1]
    refine Exists.elim (one_loop (n := cm.length) (fun i (st : (List GPhrase) × (List Int) × (List GPhrase) × (List Int) × Int) => ∃ ph, st = ([], o, ph, cm, (i : Int)) ∧ ph.length = b.1.length ∧ AnyOk (ph, ())) (fun (z : (List GPhrase) × (List GPhrase)) => ∃ ph, z = ([], ph) ∧ ph.length = b.1.length ∧ AnyOk (ph, ())) (f := (fun (st12 : (List GPhrase) × (List Int) × (List GPhrase) × (List Int) × Int) => (
        bif (decide (st12.2.2.2.2 < (cm.length : Int))) then
          bif decide (0 ≤ st12.2.2.2.2) && decide (st12.2.2.2.2 < (st12.2.2.2.1.length : Int)) then
            (st12.2.2.2.1[(Int.toNat st12.2.2.2.2)]?).bind fun e13 =>
            bif decide (0 ≤ st12.2.2.2.2) && decide (st12.2.2.2.2 < (st12.2.1.length : Int)) then
              (st12.2.1[(Int.toNat st12.2.2.2.2)]?).bind fun e14 =>
              (idx b.1 e14).bind fun e15 =>
              (s_l1Own e15.2.1).bind fun r16 =>
              bif decide (0 ≤ e13) && decide (e13 < (st12.2.2.1.length : Int)) then
                (st12.2.2.1[(Int.toNat e13)]?).bind fun e17 =>
                some (.inl (st12.1, st12.2.1, (st12.2.2.1.set (Int.toNat e13) (e17.1, r16, ())), st12.2.2.2.1, (w64 (st12.2.2.2.2 + 1))))
              else
                none
            else
              none
          else
            none
        else
          some (.inr (st12.1, st12.2.2.1)) : Option (((List GPhrase) × (List Int) × (List GPhrase) × (List Int) × Int) ⊕ (((List GPhrase) × (List GPhrase))))))) ?_ ?_ cm.length 0 ([], o, b.1, cm, 0) (by omega) ⟨b.1, rfl, rfl, hb⟩) ?_
    rotate_left
    rotate_left
    · intro z ⟨d1, ph, hz, d2, d3⟩
      subst hz
      exact ⟨((ph, ()), true), by rw [d1]; rfl, d3⟩
    · intro i st hi ⟨ph, e, g1, g2⟩
      left
      subst e
      have hio : i < o.length := by omega
      have hx : cm[i]? = some (cm[i]'hi) := by simp [hi]
      have hy : o[i]? = some (o[i]'hio) := by simp [hio]
      have r1 := c3 _ (List.getElem_mem hi)
      have r2 := h3 _ (List.getElem_mem hio)
      obtain ⟨m, hm⟩ : ∃ m : Nat, cm[i]'hi = (m : Int) := ⟨(cm[i]'hi).toNat, by omega⟩
      obtain ⟨n, hn⟩ : ∃ n : Nat, o[i]'hio = (n : Int) := ⟨(o[i]'hio).toNat, by omega⟩
      have hnb : n < b.1.length := by omega
      have hmp : m < ph.length := by omega
      have hz : b.1[n]? = some (b.1[n]'hnb) := by simp [hnb]
      have hp : ph[m]? = some (ph[m]'hmp) := by simp [hmp]
      have hb2 := hb.all _ (List.getElem_mem hnb)
      have hp2 := g2.all _ (List.getElem_mem hmp)
      refine ⟨([], o, ph.set m ((ph[m]'hmp).1, (b.1[n]'hnb).2.1, ()), cm, ((i + 1 : Nat) : Int)), ?_, _, rfl, by simp; exact g1, g2.set (b := (ph, ())) ⟨hp2.1, hb2.2⟩⟩
      simp only [dec_t (by omega : (i : Int) < (cm.length : Int)), dec_t (by omega : (0 : Int) ≤ (i : Int)), dec_t (by omega : (i : Int) < (o.length : Int)), dec_t (by omega : (0 : Int) ≤ (m : Int)), dec_t (by omega : (m : Int) < (ph.length : Int)), Bool.and_self, cond_true, Int.toNat_natCast, hx, hy, hm, hn, idx_get, hz, hp, Option.bind_some, own_some (l := (b.1[n]'hnb).2.1) (by omega)]
      rw [w64_of (by omega) (by omega)]
      rfl
    · intro st ⟨ph, e, g1, g2⟩
      subst e
      exact ⟨([], ph), by simp only [dec_f (by omega : ¬ (cm.length : Int) < (cm.length : Int)), cond_false], ph, rfl, g1, g2⟩
end Go.Proofs.Ytlhplhjibadplaa.Sh
