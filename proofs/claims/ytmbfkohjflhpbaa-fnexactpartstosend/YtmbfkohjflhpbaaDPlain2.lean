/-
  What is to be sent: PartsToSend.
-/
import Derived.Test.YtmbfkohjflhpbaaDPlain1
namespace Go.Proofs.Ytmbfkohjflhpbaa.Sh
open Go Go.Ab Go.Proofs

def wrInt (_ : Int) (k : Int) : Int × Int := (k, k + 1)
theorem markIntS {l : List Int} {k : Int} (h : l.length ≤ 1048576) (h0 : 0 ≤ k) (h1 : k ≤ 1000000000000000) : l_markIntS l k = some (marked wrInt l k, k + (l.length : Int)) := by
  unfold l_markIntS
  have := mark_loop wrInt (fun _ => 1) (B := 9000000000000000000) (f := fun (st2 : (List Int) × Int × Int) => (
      bif (decide (st2.2.2 < (st2.1.length : Int))) then
        bif decide (0 ≤ st2.2.2) && decide (st2.2.2 < (st2.1.length : Int)) then
          some (.inl ((st2.1.set (Int.toNat st2.2.2) st2.2.1), (w64 (st2.2.1 + 1)), (w64 (st2.2.2 + 1))))
        else
          none
      else
        some (.inr (st2.1, st2.2.1)) : Option (((List Int) × Int × Int) ⊕ (((List Int) × Int))))) (fun _ _ => rfl) (fun l k => by simp) l [] k
    (fun x _ pre suf k h0 hB hl => by
      have h1 : (pre.length : Int) < (pre ++ x :: suf).length := by simp; omega
      have h2 : pre.length < 4194304 := by simp at hl; omega
      simp only [set_mid, h1, decide_true, cond_true]
      rw [w64_of (x := k + 1) (by omega) (by omega), w64_of (x := (pre.length : Int) + 1) (by omega) (by omega)]
      simp [wrInt]) h0 (by rw [total_const]; omega) (by simpa using (by omega : l.length ≤ 4194304))
  simp only [List.nil_append, List.length_nil] at this
  rw [show ((0 : Nat) : Int) = 0 from rfl] at this
  rw [this, total_const]
  simp

theorem heldIntS {l : List Int} {k : Int} (h : l.length ≤ 1048576) (h0 : 0 ≤ k) (h1 : k ≤ 1000000000000000) : l_heldIntS (marked wrInt l k) k = some (k + (l.length : Int)) := by
  unfold l_heldIntS
  have hml := marked_len wrInt l k
  rw [for_loop (a := marked wrInt l k) Prod.mk (fun (k : Int) _ x => some (bif decide (x = k) && decide (k ≤ 9000000000000000000) then .inl (w64 (k + 1)) else (bif (!decide (x = k)) then .inr (.inr (-1)) else .inl (w64 (k + 1))))) (fun k => .inl k) k ?_ ?_ ?_]
  · have := held_res wrInt (fun _ => 1) (fun (k : Int) _ x => some (bif decide (x = k) && decide (k ≤ 9000000000000000000) then .inl (w64 (k + 1)) else (bif (!decide (x = k)) then .inr (.inr (-1)) else .inl (w64 (k + 1))))) (fun _ _ => rfl) (B := 9000000000000000000) l k 0 (fun x _ k i h0 hB => by
      have hB' : k + 1 ≤ 9000000000000000000 := by simpa using hB
      simp only [wrInt, decide_true, Bool.true_and]
      rw [show decide (k ≤ 9000000000000000000) = true from decide_eq_true (by omega), w64_of (by omega) (by omega)]
      rfl) h0 (by rw [total_const]; omega)
    rw [this, total_const]
    simp
  · rfl
  · intro k i x hi hx
    simp only [idx_get, hx, Option.bind_some]
    rw [show decide ((i : Int) < (marked wrInt l _).length) = true from decide_eq_true (by omega), w64_of (x := (i : Int) + 1) (by omega) (by omega)]
    cases decide (x = k) <;> cases decide (k ≤ 9000000000000000000) <;> rfl
  · intro k; simp

/-- rows of numbers -/
structure Rows2 (l : List (List Int)) : Prop where
  len : l.length ≤ 1048576
  row : ∀ x ∈ l, x.length ≤ 1048576
  tot : total List.length l ≤ 1000000000

def wrRow (x : List Int) (k : Int) : List Int × Int := (marked wrInt x k, k + (x.length : Int))
theorem markIntSS {l : List (List Int)} (h : Rows2 l) : l_markIntSS l 1 = some (marked wrRow l 1, 1 + (total List.length l : Int)) := by
  unfold l_markIntSS
  have hl := h.len
  have ht := h.tot
  have hrow := h.row
  have := mark_loop wrRow List.length (B := 1000000000000) (f := (fun (st2 : (List (List Int)) × Int × Int) => (
      bif (decide (st2.2.2 < (st2.1.length : Int))) then
        bif decide (0 ≤ st2.2.2) && decide (st2.2.2 < (st2.1.length : Int)) then
          (st2.1[(Int.toNat st2.2.2)]?).bind fun e3 =>
          (l_markIntS e3 st2.2.1).bind fun r4 =>
          some (.inl ((st2.1.set (Int.toNat st2.2.2) r4.1), r4.2, (w64 (st2.2.2 + 1))))
        else
          none
      else
        some (.inr (st2.1, st2.2.1)) : Option (((List (List Int)) × Int × Int) ⊕ (((List (List Int)) × Int)))))) (fun _ _ => rfl) (fun l k => by simp) l [] 1
    (fun x hx pre suf k h0 hB hl => by
      have h1 : (pre.length : Int) < (pre ++ x :: suf).length := by simp; omega
      have h2 : pre.length < 4194304 := by simp at hl; omega
      simp only [get_mid, set_mid, h1, decide_true, cond_true, Option.bind_some, markIntS (hrow x hx) h0 (by omega)]
      rw [w64_of (x := (pre.length : Int) + 1) (by omega) (by omega)]
      simp [wrRow]) (by omega) (by omega) (by simpa using (by omega : l.length ≤ 4194304))
  simp only [List.nil_append, List.length_nil] at this
  rw [show ((0 : Nat) : Int) = 0 from rfl] at this
  rw [this]
  rfl

theorem heldIntSS {l : List (List Int)} (h : Rows2 l) : l_heldIntSS (marked wrRow l 1) 1 = some (1 + (total List.length l : Int)) := by
  unfold l_heldIntSS
  have hl := h.len
  have ht := h.tot
  have hrow := h.row
  have hml := marked_len wrRow l 1
  rw [for_loop (a := marked wrRow l 1) Prod.mk (fun (k : Int) _ x => (l_heldIntS x k).bind fun r4 => some (bif decide (r4 < 0) then .inr (.inr (-1)) else .inl r4)) (fun k => .inl k) 1 ?_ ?_ ?_]
  · have := held_res wrRow List.length (fun (k : Int) _ x => (l_heldIntS x k).bind fun r4 => some (bif decide (r4 < 0) then .inr (.inr (-1)) else .inl r4)) (fun _ _ => rfl) (B := 1000000000000) l 1 0 (fun x hx k i h0 hB => by
      simp only [wrRow, heldIntS (hrow x hx) h0 (by omega), Option.bind_some]
      rw [show decide (k + (x.length : Int) < 0) = false from decide_eq_false (by omega)]
      rfl) (by omega) (by omega)
    rw [this]
    rfl
  · rfl
  · intro k i x hi hx
    simp only [idx_get, hx, Option.bind_some]
    rw [show decide ((i : Int) < (marked wrRow l 1).length) = true from decide_eq_true (by omega), w64_of (x := (i : Int) + 1) (by omega) (by omega)]
    cases l_heldIntS x k with
    | none => rfl
    | some r => simp only [Option.bind_some, cond_true]; cases decide (r < 0) <;> rfl
  · intro k; simp

theorem eqIntSS {l : List (List Int)} (h : Rows2 l) : l_eqIntSS l l = some true := by
  unfold l_eqIntSS
  have hl : l.length ≤ maxLen := by have := h.len; unfold maxLen; omega
  simp only [decide_true, Bool.not_true, cond_false]
  rw [all_loop (l := l) (fun _ => true) false ?_ ?_]
  · have : (l.all fun _ => true) = true := by simp
    rw [this]
    rfl
  · intro i x hx hi
    have hxl : x.length ≤ maxLen := by have := h.row x (List.mem_of_getElem? hx); unfold maxLen; omega
    simp only [idx_get, hx, Option.bind_some, at_lt hi, up hl hi, eqIntS hxl]
    rfl
  · simp

theorem markTicketS {l : List GTicket} (h : Small l) : ∃ v, l_markTicketS l 1 = some v ∧ decide (v.2 < 0) = false := by
  unfold l_markTicketS
  have hl := h.len
  have hs := h.got
  obtain ⟨v, h1, h2⟩ := one_loop (n := l.length) (f := (fun (st2 : (List GTicket) × Int × Int) => (
      bif (decide (st2.2.2 < (st2.1.length : Int))) then
        bif decide (0 ≤ st2.2.2) && decide (st2.2.2 < (st2.1.length : Int)) then
          (st2.1[(Int.toNat st2.2.2)]?).bind fun e3 =>
          bif decide (0 ≤ st2.2.2) && decide (st2.2.2 < ((st2.1.set (Int.toNat st2.2.2) (st2.2.1, e3.2)).length : Int)) then
            ((st2.1.set (Int.toNat st2.2.2) (st2.2.1, e3.2))[(Int.toNat st2.2.2)]?).bind fun e4 =>
            bif decide (0 ≤ st2.2.2) && decide (st2.2.2 < (((st2.1.set (Int.toNat st2.2.2) (st2.2.1, e3.2)).set (Int.toNat st2.2.2) (e4.1, (w64 (st2.2.1 + 1)), e4.2.2)).length : Int)) then
              (((st2.1.set (Int.toNat st2.2.2) (st2.2.1, e3.2)).set (Int.toNat st2.2.2) (e4.1, (w64 (st2.2.1 + 1)), e4.2.2))[(Int.toNat st2.2.2)]?).bind fun e5 =>
              (l_markIntS e5.2.2.1 (w64 ((w64 (st2.2.1 + 1)) + 1))).bind fun r6 =>
              bif decide (0 ≤ st2.2.2) && decide (st2.2.2 < ((((st2.1.set (Int.toNat st2.2.2) (st2.2.1, e3.2)).set (Int.toNat st2.2.2) (e4.1, (w64 (st2.2.1 + 1)), e4.2.2)).set (Int.toNat st2.2.2) (e5.1, e5.2.1, r6.1, e5.2.2.2)).length : Int)) then
                ((((st2.1.set (Int.toNat st2.2.2) (st2.2.1, e3.2)).set (Int.toNat st2.2.2) (e4.1, (w64 (st2.2.1 + 1)), e4.2.2)).set (Int.toNat st2.2.2) (e5.1, e5.2.1, r6.1, e5.2.2.2))[(Int.toNat st2.2.2)]?).bind fun e7 =>
                some (.inl (((((st2.1.set (Int.toNat st2.2.2) (st2.2.1, e3.2)).set (Int.toNat st2.2.2) (e4.1, (w64 (st2.2.1 + 1)), e4.2.2)).set (Int.toNat st2.2.2) (e5.1, e5.2.1, r6.1, e5.2.2.2)).set (Int.toNat st2.2.2) (e7.1, e7.2.1, e7.2.2.1, r6.2, ())), (w64 (r6.2 + 1)), (w64 (st2.2.2 + 1))))
              else
                none
            else
              none
          else
            none
        else
          none
      else
        some (.inr (st2.1, st2.2.1)) : Option (((List GTicket) × Int × Int) ⊕ (((List GTicket) × Int))))))
    (fun i a => a.1.length = l.length ∧ (∀ x ∈ a.1, x.2.2.1.length ≤ 1048576) ∧ a.2.2 = (i : Int) ∧ 0 ≤ a.2.1 ∧ a.2.1 ≤ 1 + i * 1048580) (fun y => 0 ≤ y.2)
    (fun i a hi ⟨h1, h2, h3, h4, h5⟩ => by
      obtain ⟨r, k, j⟩ := a
      simp only at h1 h2 h3 h4 h5
      subst h3
      left
      have hk : k ≤ 100000000000000 := by omega
      have hx : r[i]? = some (r[i]'(by omega)) := by simp [show i < r.length by omega]
      have hxs := h2 _ (List.mem_of_getElem? hx)
      generalize r[i]'(by omega) = x at hx hxs
      have g1 : decide ((i : Int) < (r.length : Int)) = true := decide_eq_true (by omega)
      have g2 : decide ((0 : Int) ≤ (i : Int)) = true := decide_eq_true (by omega)
      have hset : ∀ y : GTicket, (r.set i y)[i]? = some y := fun y => by rw [List.getElem?_set_self (by omega)]
      have hm := markIntS (l := x.2.2.1) (k := k + 1 + 1) hxs (by omega) (by omega)
      refine ⟨(r.set i (k, k + 1, marked wrInt x.2.2.1 (k + 1 + 1), k + 1 + 1 + (x.2.2.1.length : Int), ()), k + 1 + 1 + (x.2.2.1.length : Int) + 1, (i : Int) + 1), ?_, by simp [h1], fun y hy => ?_, by simp, by show (0 : Int) ≤ k + 1 + 1 + (x.2.2.1.length : Int) + 1; omega, by show k + 1 + 1 + (x.2.2.1.length : Int) + 1 ≤ _; omega⟩
      · simp only [g1, g2, Int.toNat_natCast, hx, cond_true, Option.bind_some, Bool.and_self, List.length_set, hset, List.set_set, w64_of (x := k + 1) (by omega) (by omega), w64_of (x := k + 1 + 1) (by omega) (by omega), hm, w64_of (x := k + 1 + 1 + (x.2.2.1.length : Int) + 1) (by omega) (by omega), w64_of (x := (i : Int) + 1) (by omega) (by omega)]
      · rcases List.mem_or_eq_of_mem_set hy with hy | rfl
        · exact h2 y hy
        · show (marked wrInt x.2.2.1 (k + 1 + 1)).length ≤ 1048576
          rw [marked_len]
          exact hxs)
    (fun a ⟨h1, h2, h3, h4, h5⟩ => by
      obtain ⟨r, k, j⟩ := a
      simp only at h1 h2 h3 h4 h5
      subst h3
      exact ⟨(r, k), by simp only [show decide ((l.length : Int) < (r.length : Int)) = false from decide_eq_false (by omega)]; rfl, h4⟩) l.length 0 (l, 1, 0) (by omega) ⟨rfl, hs, rfl, by simp, by simp⟩
  exact ⟨_, by rw [h1]; rfl, decide_eq_false (by simp only []; omega)⟩

/-- both look for a number in a list alike -/
theorem has_same {l : List Int} (h : l.length ≤ maxLen) (n : Int) : ∃ t, s_l1Has l n = some t ∧ slices_Contains_int l n = some t := by
  unfold s_l1Has slices_Contains_int slices_Index_int
  obtain ⟨y, z, h1, h2, h3⟩ := two_loops (n := l.length) (f := (fun (st2 : Int) => (
      bif (decide (st2 < (l.length : Int))) then
        (idx l st2).bind fun e3 =>
        bif (decide (e3 = n)) then
          some (.inr (.inr true))
        else
          some (.inl (w64 (st2 + 1)))
      else
        some (.inr (.inl ())) : Option ((Int) ⊕ (Unit ⊕ Bool))))) (g := (fun (st2 : Int) => (
      bif (decide (st2 < (l.length : Int))) then
        (idx l st2).bind fun e3 =>
        bif (decide (n = e3)) then
          some (.inr (.inr st2))
        else
          some (.inl (w64 (st2 + 1)))
      else
        some (.inr (.inl ())) : Option ((Int) ⊕ (Unit ⊕ Int))))) (fun i a b => a = (i : Int) ∧ b = (i : Int)) (fun y z => (y = .inl () ∧ z = .inl ()) ∨ ∃ i : Nat, y = .inr true ∧ z = .inr (i : Int))
    (fun i a b hi ⟨e1, e2⟩ => by
      subst e1
      subst e2
      have ex : l[i]? = some l[i] := by simp [hi]
      generalize l[i] = x at ex
      simp only [at_lt hi, cond_true, idx_get, ex, Option.bind_some, up h hi]
      by_cases e : x = n
      · rw [decide_eq_true e, decide_eq_true e.symm]
        exact .inr ⟨_, _, rfl, rfl, .inr ⟨i, rfl, rfl⟩⟩
      · rw [decide_eq_false e, decide_eq_false fun h => e h.symm]
        exact .inl ⟨_, _, rfl, rfl, by simp, by simp⟩)
    (fun a b ⟨e1, e2⟩ => by
      subst e1
      subst e2
      exact ⟨_, _, by simp only [show decide ((l.length : Int) < (l.length : Int)) = false from decide_eq_false (by omega)]; rfl, by simp only [show decide ((l.length : Int) < (l.length : Int)) = false from decide_eq_false (by omega)]; rfl, .inl ⟨rfl, rfl⟩⟩) l.length 0 0 0 (by omega) ⟨rfl, rfl⟩
  rw [h1, h2]
  rcases h3 with ⟨rfl, rfl⟩ | ⟨i, rfl, rfl⟩
  · exact ⟨false, rfl, rfl⟩
  · refine ⟨true, rfl, ?_⟩
    show some (decide (0 ≤ (i : Int))) = some true
    rw [decide_eq_true (by omega)]

/-- the parts of tickets up to now -/
structure Out (o : List (List Int)) (n : Nat) : Prop where
  len : o.length ≤ n
  row : ∀ x ∈ o, x.length = 2

theorem Out.more {o : List (List Int)} {n : Nat} (h : Out o n) (a b : Int) : Out (o ++ [[a, b]]) (n + 1) :=
  ⟨by have := h.len; simp; omega, fun x hx => by
    rcases List.mem_append.1 hx with hx | hx
    · exact h.row x hx
    · simp at hx
      subst hx
      rfl⟩
theorem Out.le {o : List (List Int)} {n m : Nat} (h : Out o n) (hm : n ≤ m) : Out o m := ⟨Nat.le_trans h.len hm, h.row⟩

abbrev Sp := (List (List Int)) × Int × Int × (List Int) × Int × Int

theorem part_same {x : GTicket} (h : x.2.2.1.length ≤ maxLen) (h9 : 0 ≤ x.2.1 ∧ x.2.1 ≤ 9) (o : List (List Int)) (n : Nat) (hn : n ≤ 1000) (ho : Out o n) : ∃ o', Out o' (n + 9) ∧
    (loopE (fun (st6 : Sp) => (
              (bif (decide (st6.2.2.2.2.2 < st6.2.2.1)) then
                  some (decide (st6.2.2.2.2.1 = 0))
                else
                  some false).bind fun c7 =>
              bif c7 then
                (s_l1Has st6.2.2.2.1 st6.2.2.2.2.2).bind fun r8 =>
                bif (!r8) then
                  bif decide (List.length st6.1 + List.length [[st6.2.1, st6.2.2.2.2.2]] ≤ lim) then
                    some (.inl ((st6.1 ++ [[st6.2.1, st6.2.2.2.2.2]]), st6.2.1, st6.2.2.1, st6.2.2.2.1, st6.2.2.2.2.1, (w64 (st6.2.2.2.2.2 + 1))))
                  else
                    none
                else
                  some (.inl (st6.1, st6.2.1, st6.2.2.1, st6.2.2.2.1, st6.2.2.2.2.1, (w64 (st6.2.2.2.2.2 + 1))))
              else
                some (.inr st6.1) : Option (Sp ⊕ ((List (List Int)))))) (o, x.1, x.2.1, x.2.2.1, x.2.2.2.1, 0)) = some o' ∧
    (loopE (fun (st6 : Sp) => (
              bif (decide (st6.2.2.2.2.2 < x.2.1)) then
                (bif (decide (st6.2.2.2.2.1 = 0)) then
                    (slices_Contains_int st6.2.2.2.1 st6.2.2.2.2.2).bind fun r7 =>
                    some (!r7)
                  else
                    some false).bind fun c8 =>
                bif c8 then
                  bif decide (List.length st6.1 + List.length [[st6.2.1, st6.2.2.2.2.2]] ≤ lim) then
                    some (.inl ((st6.1 ++ [[st6.2.1, st6.2.2.2.2.2]]), st6.2.1, st6.2.2.1, st6.2.2.2.1, st6.2.2.2.2.1, (w64 (st6.2.2.2.2.2 + 1))))
                  else
                    none
                else
                  some (.inl (st6.1, st6.2.1, st6.2.2.1, st6.2.2.2.1, st6.2.2.2.2.1, (w64 (st6.2.2.2.2.2 + 1))))
              else
                some (.inr st6.1) : Option (Sp ⊕ ((List (List Int)))))) (o, x.1, x.2.1, x.2.2.1, x.2.2.2.1, 0)) = some o' := by
  have hlim : lim = 4294967296 := rfl
  obtain ⟨p, hp⟩ : ∃ p : Nat, x.2.1 = (p : Int) := ⟨x.2.1.toNat, by omega⟩
  by_cases hz : x.2.2.2.1 = 0
  · obtain ⟨y, z, h1, h2, rfl, h3⟩ := two_loops (n := p) (f := (fun (st6 : Sp) => (
              (bif (decide (st6.2.2.2.2.2 < st6.2.2.1)) then
                  some (decide (st6.2.2.2.2.1 = 0))
                else
                  some false).bind fun c7 =>
              bif c7 then
                (s_l1Has st6.2.2.2.1 st6.2.2.2.2.2).bind fun r8 =>
                bif (!r8) then
                  bif decide (List.length st6.1 + List.length [[st6.2.1, st6.2.2.2.2.2]] ≤ lim) then
                    some (.inl ((st6.1 ++ [[st6.2.1, st6.2.2.2.2.2]]), st6.2.1, st6.2.2.1, st6.2.2.2.1, st6.2.2.2.2.1, (w64 (st6.2.2.2.2.2 + 1))))
                  else
                    none
                else
                  some (.inl (st6.1, st6.2.1, st6.2.2.1, st6.2.2.2.1, st6.2.2.2.2.1, (w64 (st6.2.2.2.2.2 + 1))))
              else
                some (.inr st6.1) : Option (Sp ⊕ ((List (List Int))))))) (g := (fun (st6 : Sp) => (
              bif (decide (st6.2.2.2.2.2 < x.2.1)) then
                (bif (decide (st6.2.2.2.2.1 = 0)) then
                    (slices_Contains_int st6.2.2.2.1 st6.2.2.2.2.2).bind fun r7 =>
                    some (!r7)
                  else
                    some false).bind fun c8 =>
                bif c8 then
                  bif decide (List.length st6.1 + List.length [[st6.2.1, st6.2.2.2.2.2]] ≤ lim) then
                    some (.inl ((st6.1 ++ [[st6.2.1, st6.2.2.2.2.2]]), st6.2.1, st6.2.2.1, st6.2.2.2.1, st6.2.2.2.2.1, (w64 (st6.2.2.2.2.2 + 1))))
                  else
                    none
                else
                  some (.inl (st6.1, st6.2.1, st6.2.2.1, st6.2.2.2.1, st6.2.2.2.2.1, (w64 (st6.2.2.2.2.2 + 1))))
              else
                some (.inr st6.1) : Option (Sp ⊕ ((List (List Int)))))))
      (fun i a b => a = b ∧ Out a.1 (n + i) ∧ i ≤ p ∧ a.2 = (x.1, x.2.1, x.2.2.1, x.2.2.2.1, (i : Int))) (fun y z => y = z ∧ Out y (n + 9))
      (fun i a b hi ⟨e, h1, h2, h3⟩ => by
        subst e
        obtain ⟨o, r⟩ := a
        simp only at h1 h3
        subst h3
        left
        obtain ⟨t, t1, t2⟩ := has_same h (i : Int)
        have g : decide ((i : Int) < x.2.1) = true := decide_eq_true (by omega)
        have gl : decide (o.length + [[x.1, (i : Int)]].length ≤ lim) = true := decide_eq_true (by have := h1.len; simp only [List.length_cons, List.length_nil]; omega)
        simp only [g, cond_true, Option.bind_some, decide_eq_true hz, t1, t2, gl, w64_of (x := (i : Int) + 1) (by omega) (by omega)]
        cases t with
        | true => exact ⟨_, _, rfl, rfl, rfl, h1.le (by omega), by omega, by simp⟩
        | false => exact ⟨_, _, rfl, rfl, rfl, h1.more x.1 (i : Int), by omega, by simp⟩)
      (fun a b ⟨e, h1, h2, h3⟩ => by
        subst e
        obtain ⟨o, r⟩ := a
        simp only at h1 h3
        subst h3
        have g : decide ((p : Int) < x.2.1) = false := decide_eq_false (by omega)
        exact ⟨o, o, by simp only [g]; rfl, by simp only [g]; rfl, rfl, h1.le (by omega)⟩) p 0 (o, x.1, x.2.1, x.2.2.1, x.2.2.2.1, 0) (o, x.1, x.2.1, x.2.2.1, x.2.2.2.1, 0) (by omega) ⟨rfl, ho, by omega, rfl⟩
    exact ⟨y, h3, h1, h2⟩
  · refine ⟨o, ho.le (by omega), loopE_done ?_, ?_⟩
    · simp only [decide_eq_false hz]
      cases decide ((0 : Int) < x.2.1) <;> rfl
    · obtain ⟨y, h1, rfl⟩ := one_loop (n := p) (f := (fun (st6 : Sp) => (
              bif (decide (st6.2.2.2.2.2 < x.2.1)) then
                (bif (decide (st6.2.2.2.2.1 = 0)) then
                    (slices_Contains_int st6.2.2.2.1 st6.2.2.2.2.2).bind fun r7 =>
                    some (!r7)
                  else
                    some false).bind fun c8 =>
                bif c8 then
                  bif decide (List.length st6.1 + List.length [[st6.2.1, st6.2.2.2.2.2]] ≤ lim) then
                    some (.inl ((st6.1 ++ [[st6.2.1, st6.2.2.2.2.2]]), st6.2.1, st6.2.2.1, st6.2.2.2.1, st6.2.2.2.2.1, (w64 (st6.2.2.2.2.2 + 1))))
                  else
                    none
                else
                  some (.inl (st6.1, st6.2.1, st6.2.2.1, st6.2.2.2.1, st6.2.2.2.2.1, (w64 (st6.2.2.2.2.2 + 1))))
              else
                some (.inr st6.1) : Option (Sp ⊕ ((List (List Int)))))))
        (fun i a => a = (o, x.1, x.2.1, x.2.2.1, x.2.2.2.1, (i : Int))) (fun y => y = o)
        (fun i a hi e => by
          subst e
          left
          have g : decide ((i : Int) < x.2.1) = true := decide_eq_true (by omega)
          simp only [g, cond_true, decide_eq_false hz, w64_of (x := (i : Int) + 1) (by omega) (by omega)]
          exact ⟨_, rfl, by simp⟩)
        (fun a e => by
          subst e
          have g : decide ((p : Int) < x.2.1) = false := decide_eq_false (by omega)
          exact ⟨o, by simp only [g]; rfl, rfl⟩) p 0 (o, x.1, x.2.1, x.2.2.1, x.2.2.2.1, 0) (by omega) rfl
      exact h1

theorem parts_same {l : List GTicket} (h : Fine l) : ∃ v, s_PartsToSend l = some v ∧ i_PartsToSend l = some v ∧ Rows2 v.1 := by
  unfold s_PartsToSend i_PartsToSend
  simp only [s_good h, i_good h, Option.bind_some]
  cases hb : areTickets l with
  | false => exact ⟨_, rfl, rfl, ⟨by simp, by simp, by simp [total]⟩⟩
  | true =>
    simp only [Bool.not_true, cond_false]
    simp only [areTickets, Bool.and_eq_true, decide_eq_true_eq, List.all_eq_true, List.mem_range] at hb
    obtain ⟨hok, h20⟩ := hb
    have h9 : ∀ x ∈ l, 0 ≤ x.2.1 ∧ x.2.1 ≤ 9 := fun x hx => by
      obtain ⟨i, hi, rfl⟩ := List.getElem_of_mem hx
      have := hok i hi
      have e : l[i]? = some l[i] := by simp [hi]
      simp only [okAt, e, isT, Bool.and_eq_true, inB, decide_eq_true_eq] at this
      omega
    obtain ⟨y, z, h1, h2, rfl, h3⟩ := two_loops (n := l.length) (f := (fun (st3 : (List (List Int)) × Int) => (
        bif (decide (st3.2 < (l.length : Int))) then
          (idx l st3.2).bind fun e4 =>
          (loopE (fun (st6 : (List (List Int)) × Int × Int × (List Int) × Int × Int) => (
              (bif (decide (st6.2.2.2.2.2 < st6.2.2.1)) then
                  some (decide (st6.2.2.2.2.1 = 0))
                else
                  some false).bind fun c7 =>
              bif c7 then
                (s_l1Has st6.2.2.2.1 st6.2.2.2.2.2).bind fun r8 =>
                bif (!r8) then
                  bif decide (List.length st6.1 + List.length [[st6.2.1, st6.2.2.2.2.2]] ≤ lim) then
                    some (.inl ((st6.1 ++ [[st6.2.1, st6.2.2.2.2.2]]), st6.2.1, st6.2.2.1, st6.2.2.2.1, st6.2.2.2.2.1, (w64 (st6.2.2.2.2.2 + 1))))
                  else
                    none
                else
                  some (.inl (st6.1, st6.2.1, st6.2.2.1, st6.2.2.2.1, st6.2.2.2.2.1, (w64 (st6.2.2.2.2.2 + 1))))
              else
                some (.inr st6.1) : Option (((List (List Int)) × Int × Int × (List Int) × Int × Int) ⊕ ((List (List Int)))))) (st3.1, e4.1, e4.2.1, e4.2.2.1, e4.2.2.2.1, 0)).bind fun o9 =>
          some (.inl (o9, (w64 (st3.2 + 1))))
        else
          some (.inr st3.1) : Option (((List (List Int)) × Int) ⊕ ((List (List Int))))))) (g := (fun (st3 : (List (List Int)) × Int) => (
        bif (decide (st3.2 < (l.length : Int))) then
          (idx l st3.2).bind fun e4 =>
          (loopE (fun (st6 : (List (List Int)) × Int × Int × (List Int) × Int × Int) => (
              bif (decide (st6.2.2.2.2.2 < e4.2.1)) then
                (bif (decide (st6.2.2.2.2.1 = 0)) then
                    (slices_Contains_int st6.2.2.2.1 st6.2.2.2.2.2).bind fun r7 =>
                    some (!r7)
                  else
                    some false).bind fun c8 =>
                bif c8 then
                  bif decide (List.length st6.1 + List.length [[st6.2.1, st6.2.2.2.2.2]] ≤ lim) then
                    some (.inl ((st6.1 ++ [[st6.2.1, st6.2.2.2.2.2]]), st6.2.1, st6.2.2.1, st6.2.2.2.1, st6.2.2.2.2.1, (w64 (st6.2.2.2.2.2 + 1))))
                  else
                    none
                else
                  some (.inl (st6.1, st6.2.1, st6.2.2.1, st6.2.2.2.1, st6.2.2.2.2.1, (w64 (st6.2.2.2.2.2 + 1))))
              else
                some (.inr st6.1) : Option (((List (List Int)) × Int × Int × (List Int) × Int × Int) ⊕ ((List (List Int)))))) (st3.1, e4.1, e4.2.1, e4.2.2.1, e4.2.2.2.1, 0)).bind fun o9 =>
          some (.inl (o9, (w64 (st3.2 + 1))))
        else
          some (.inr st3.1) : Option (((List (List Int)) × Int) ⊕ ((List (List Int)))))))
      (fun i a b => a = b ∧ a.2 = (i : Int) ∧ Out a.1 (9 * i)) (fun y z => y = z ∧ Out y (9 * l.length))
      (fun i a b hi ⟨e, h1, h2⟩ => by
        subst e
        obtain ⟨o, j⟩ := a
        simp only at h1 h2
        subst h1
        left
        have ex : l[i]? = some l[i] := by simp [hi]
        have hmem := List.mem_of_getElem? ex
        generalize l[i] = x at ex hmem
        obtain ⟨o', k1, k2, k3⟩ := part_same (h.got x hmem) (h9 x hmem) o (9 * i) (by omega) h2
        simp only [at_lt hi, cond_true, idx_get, ex, Option.bind_some, k2, k3, up h.len hi]
        exact ⟨_, _, rfl, rfl, rfl, by simp, k1⟩)
      (fun a b ⟨e, h1, h2⟩ => by
        subst e
        obtain ⟨o, j⟩ := a
        simp only at h1 h2
        subst h1
        have g : decide ((l.length : Int) < (l.length : Int)) = false := decide_eq_false (by omega)
        exact ⟨o, o, by simp only [g]; rfl, by simp only [g]; rfl, rfl, h2⟩) l.length 0 ([], 0) ([], 0) (by omega) ⟨rfl, rfl, ⟨by simp, by simp⟩⟩
    rw [h1, h2]
    have hl := h3.len
    have tot : ∀ (o : List (List Int)), (∀ x ∈ o, x.length = 2) → total List.length o = 2 * o.length := by
      intro o
      induction o with
      | nil => intro _; rfl
      | cons x o ih =>
        intro hx
        have h1 := hx x (by simp)
        have h2 := ih fun y hy => hx y (List.mem_cons_of_mem _ hy)
        simp only [total, h1, h2, List.length_cons]
        omega
    exact ⟨_, rfl, rfl, ⟨by simp only []; omega, fun x hx => by have := h3.row x hx; omega, by simp only []; rw [tot _ h3.row]; omega⟩⟩

/-- FnExactPartsToSend -/
theorem plain_PartsToSend (l : List GTicket) (h : Fine l) : l_FnExactPartsToSend l = some true := by
  unfold l_FnExactPartsToSend
  obtain ⟨r, hr, h2⟩ := szTicketS h
  rw [hr]
  simp only [Option.bind_some]
  rcases h2 with h2 | h2
  · rw [decide_eq_true h2]; rfl
  cases decide (r < 0) with
  | true => rfl
  | false =>
  obtain ⟨v, h3, h4, h5⟩ := parts_same h
  obtain ⟨m, m1, m2⟩ := markTicketS h2
  have g : decide ((1 : Int) + (total List.length v.1 : Int) < 0) = false := decide_eq_false (by omega)
  simp only [toTicketS h2, eqTicketS h, Option.bind_some, cond_false, h3, h4, eqIntSS h5, m1, m2, markIntSS h5, heldIntSS h5, g]
  simp
end Go.Proofs.Ytmbfkohjflhpbaa.Sh
