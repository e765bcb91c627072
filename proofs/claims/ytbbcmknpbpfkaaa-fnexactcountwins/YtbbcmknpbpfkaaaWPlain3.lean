/-
  The least number of signals: the program's and the reference's are the same. CompareBooks, ShowSeconds.
-/
import Derived.Test.YtbbcmknpbpfkaaaWPlain2
namespace Go.Proofs.Ytbbcmknpbpfkaaa.Sh
open Go Go.Ab Go.Proofs

theorem down_loop' {σ τ : Type} (mk : σ → Int → τ) {N : Nat} {f : τ → Option (τ ⊕ σ)} {tab : Nat → σ → Option σ} {len : σ → Nat} {stp : Nat → σ → Option σ} (h0 : ∀ A, tab 0 A = some A) (h1 : ∀ m A, tab (m + 1) A = if m < len A then (stp m A).bind (tab m) else none)
    (hf : ∀ (i : Nat) A, i < N → f (mk A (i : Int)) = if i < len A then (stp i A).bind fun A' => some (.inl (mk A' ((i : Int) - 1))) else none) (hend : ∀ A, f (mk A (-1)) = some (.inr A)) :
    ∀ (m : Nat) (A : σ), m ≤ N → loopE f (mk A ((m : Int) - 1)) = tab m A
  | 0, A, _ => by rw [h0]; exact loopE_done (hend A)
  | m + 1, A, hm => by
    have h := hf m A (by omega)
    rw [show ((m + 1 : Nat) : Int) - 1 = (m : Int) by omega, h1]
    by_cases hl : m < len A
    · rw [if_pos hl] at h ⊢
      cases hs : stp m A with
      | none => rw [hs] at h; exact loopE_none h
      | some A' =>
        rw [hs] at h
        rw [loopE_step h]
        exact down_loop' mk h0 h1 hf hend m A' (by omega)
    · rw [if_neg hl] at h ⊢
      exact loopE_none h

/-- the loop that reads the choices -/
def walk (b : GBook) (s : Bytes) : (List Int) × (List Int) × Int → Option (((List Int) × (List Int) × Int) ⊕ List Int) := fun st14 =>
  bif (decide (st14.2.2 < (s.length : Int))) then
    bif decide (0 ≤ st14.2.2) && decide (st14.2.2 < (st14.1.length : Int)) then
      (st14.1[(Int.toNat st14.2.2)]?).bind fun e15 =>
      bif decide (List.length st14.2.1 + List.length [e15] ≤ lim) then
        bif decide (0 ≤ st14.2.2) && decide (st14.2.2 < (st14.1.length : Int)) then
          (st14.1[(Int.toNat st14.2.2)]?).bind fun e16 =>
          (idx b.1 e16).bind fun e17 =>
          some (.inl (st14.1, (st14.2.1 ++ [e15]), (w64 (st14.2.2 + (e17.1.length : Int)))))
        else
          none
      else
        none
    else
      none
  else
    some (.inr st14.2.1)

/-- the program's spelling by its tables -/
noncomputable def spelt (b : GBook) (s : Bytes) (p : List Int × List Int) : Option ((List Int) × Bool) :=
  (p.1[0]?).bind fun e12 => bif (decide (1073741824 ≤ e12)) then some ([], false) else (loopE (walk b s) (p.2, [], 0)).bind fun o18 => some (o18, true)

theorem i_table {b : GBook} (h : Fine b) {s : Bytes} (hs : s.length ≤ 1000) : i_spell b s = (iTab s b.1 s.length (List.replicate (s.length + 1) 0, List.replicate (s.length + 1) 0)).bind (spelt b s) := by
  unfold i_spell
  have hlim : (lim : Int) = 4294967296 := rfl
  rw [w64_of (x := (s.length : Int) + 1) (by omega) (by omega)]
  rw [show (decide (0 ≤ (s.length : Int) + 1) && decide ((s.length : Int) + 1 ≤ (s.length : Int) + 1) && decide ((s.length : Int) + 1 ≤ lim)) = true by simp; omega, cond_true, w64_of (x := (s.length : Int) - 1) (by omega) (by omega)]
  rw [cond_true]
  rw [down_loop' (fun (A : List Int × List Int) (i : Int) => (A.1, A.2, i)) (A := ((List.replicate (Int.toNat ((s.length : Int) + 1)) 0), (List.replicate (Int.toNat ((s.length : Int) + 1)) 0))) (N := s.length) (tab := iTab s b.1) (len := fun A => A.1.length) (stp := fun m A => forRes (iIn s m) (fun p => p) (A.1.set m 1073741824, A.2) 0 b.1) (fun _ => rfl) (fun _ _ => rfl) ?_ ?_ s.length (Nat.le_refl _)]
  · rw [show Int.toNat ((s.length : Int) + 1) = s.length + 1 by omega]
    cases iTab s b.1 s.length (List.replicate (s.length + 1) 0, List.replicate (s.length + 1) 0) with
    | none => rfl
    | some p =>
      simp only [Option.bind_some]
      unfold spelt
      cases p.1 with
      | nil => rfl
      | cons x l =>
        rw [show (decide (0 ≤ 0) && decide ((0 : Int) < ((x :: l).length : Int))) = true by simp]
        rfl
  · intro i A hi
    obtain ⟨A, C⟩ := A
    by_cases hlt : i < A.length
    · rw [if_pos hlt]
      simp only [show decide ((0 : Int) ≤ (i : Int)) = true from decide_eq_true (by omega), show decide ((i : Int) < (A.length : Int)) = true from decide_eq_true (by omega), cond_true, Bool.and_self]
      rw [for_loop (a := b.1) (fun (A : List Int × List Int) (i : Int) => (A.1, A.2, i)) (iIn s i) (fun A => A) (A.set i 1073741824, C) ?_ ?_ ?_]
      · rw [w64_of (x := (i : Int) - 1) (by omega) (by omega)]
      · rw [Int.toNat_natCast]
      · intro A' j x hj hx
        obtain ⟨A', C'⟩ := A'
        simp only [idx_get, hx, Option.bind_some, at_lt hj, up h.len hj, cond_true, sub_drop (Nat.le_of_lt hi), i_begins, iIn, show decide ((0 : Int) ≤ (i : Int)) = true from decide_eq_true (by omega), Bool.true_and]
        cases hit s i x with
        | false => rfl
        | true =>
          simp only [Bool.not_true, cond_false]
          generalize (decide (0 ≤ (w64 ((i : Int) + (x.1.length : Int)))) && decide ((w64 ((i : Int) + (x.1.length : Int))) < (A'.length : Int))) = g1
          cases g1 with
          | false => rfl
          | true =>
            simp only [cond_true]
            cases A'[(Int.toNat (w64 ((i : Int) + (x.1.length : Int))))]? with
            | none => rfl
            | some e8 =>
              simp only [Option.bind_some]
              generalize (decide ((i : Int) < (A'.length : Int))) = g2
              cases g2 with
              | false => rfl
              | true =>
                simp only [cond_true]
                cases A'[(Int.toNat (i : Int))]? with
                | none => rfl
                | some e11 =>
                  simp only [Option.bind_some]
                  generalize (decide ((i : Int) < (C'.length : Int))) = g3
                  cases decide (w64 (e8 + (x.2.1.length : Int)) < e11) <;> cases g3 <;> rfl
      · intro A'; simp
    · rw [if_neg hlt]
      simp only [show decide ((0 : Int) ≤ (i : Int)) = true from decide_eq_true (by omega), show decide ((i : Int) < (A.length : Int)) = false from decide_eq_false (by omega)]
      rfl
  · intro A; rfl

/-- both tables, to the end -/
theorem tables_same {s : Bytes} {ps : List GPhrase} (hs : s.length ≤ 1000) (hp : ∀ x ∈ ps, 1 ≤ x.1.length ∧ x.2.1.length ≤ 3) :
    ∀ (m : Nat) (A C : List Int), m ≤ s.length → TabOk s m A → ChOk s ps m A C → ∃ A' C', sTab s ps m A = some A' ∧ iTab s ps m (A.map reach, C) = some (A'.map reach, C') ∧ TabOk s 0 A' ∧ ChOk s ps 0 A' C'
  | 0, A, C, _, hA, hC => ⟨A, C, rfl, rfl, hA, hC⟩
  | m + 1, A, C, hm, hA, hC => by
    have hl := hA.len
    obtain ⟨v, C1, h1, h2, h3, h4, h5, h6, h7⟩ := inner_same hs (i := m) (by omega) hp hA ps 0 (-1) C (fun k x h => by rw [Nat.zero_add]; exact h) (by omega) (by omega) hC.1 (fun h => by omega)
    have hr : reach (-1) = 1073741824 := rfl
    rw [hr] at h2
    have e2 : (A.map reach).set m (reach v) = (A.set m v).map reach := by rw [List.map_set]
    rw [e2] at h2
    obtain ⟨A', C', k1, k2, k3, k4⟩ := tables_same hs hp m (A.set m v) C1 (by omega) ⟨by simp [hl], fun k hk1 hk2 => by
        by_cases e : k = m
        · subst e
          exact ⟨v, by rw [List.getElem?_set_self (by omega)], h3, h4⟩
        · obtain ⟨u, q1, q2, q3⟩ := hA.val k (by omega) hk2
          exact ⟨u, by rw [List.getElem?_set_ne (fun x => e x.symm)]; exact q1, q2, q3⟩⟩ ⟨h5, fun k u hk1 hk2 hu h0 => by
        by_cases e : k = m
        · subst e
          rw [List.getElem?_set_self (by omega)] at hu
          obtain rfl := Option.some.inj hu
          obtain ⟨j, x, w, q1, q2, q3, q4, q5, q6⟩ := h7 h0
          refine ⟨j, x, w, q1, q2, q3, ?_, q5, q6⟩
          have := (hp x (List.mem_of_getElem? q2)).1
          rw [List.getElem?_set_ne (by omega)]
          exact q4
        · rw [List.getElem?_set_ne (fun x => e x.symm)] at hu
          obtain ⟨j, x, w, q1, q2, q3, q4, q5, q6⟩ := hC.2 k u (by omega) hk2 hu h0
          exact ⟨j, x, w, by rw [h6 k e]; exact q1, q2, q3, by rw [List.getElem?_set_ne (by omega)]; exact q4, q5, q6⟩⟩
    refine ⟨A', C', ?_, ?_, k3, k4⟩
    · unfold sTab
      rw [if_pos (by omega), h1]
      exact k1
    · unfold iTab
      rw [if_pos (by simp; omega)]
      simp only []
      rw [h2]
      exact k2

/-- the chosen phrases have so many signals -/
def Codes (ps : List GPhrase) : List Int → Int → Prop
  | [], n => n = 0
  | j :: L, n => ∃ (k : Nat) (x : GPhrase), j = (k : Int) ∧ ps[k]? = some x ∧ Codes ps L (n - (x.2.1.length : Int))

theorem walk_ok {b : GBook} {s : Bytes} {A C : List Int} (hs : s.length ≤ 1000) (hp : ∀ x ∈ b.1, 1 ≤ x.1.length ∧ x.2.1.length ≤ 3) (hA : TabOk s 0 A) (hC : ChOk s b.1 0 A C) :
    ∀ (n i : Nat) (v : Int) (acc : List Int), s.length ≤ i + n → i ≤ s.length → A[i]? = some v → 0 ≤ v → acc.length ≤ i → ∃ L, loopE (walk b s) (C, acc, (i : Int)) = some (acc ++ L) ∧ Codes b.1 L v ∧ L.length + i ≤ s.length
  | 0, i, v, acc, hn, hi, hv, h0, ha => by
    obtain ⟨u, q1, q2, q3⟩ := hA.val i (by omega) hi
    rw [hv] at q1
    obtain rfl := Option.some.inj q1
    refine ⟨[], loopE_done ?_, by show v = 0; omega, by simp; omega⟩
    unfold walk
    rw [show decide ((i : Int) < (s.length : Int)) = false from decide_eq_false (by omega)]
    simp
  | n + 1, i, v, acc, hn, hi, hv, h0, ha => by
    by_cases hlt : i < s.length
    · obtain ⟨j, x, u, q1, q2, q3, q4, q5, q6⟩ := hC.2 i v (by omega) hlt hv h0
      have hx := hp x (List.mem_of_getElem? q2)
      have ht := hit_len q3 hi
      obtain ⟨L, k1, k2, k3⟩ := walk_ok hs hp hA hC n (i + x.1.length) u (acc ++ [(j : Int)]) (by omega) ht q4 q5 (by simp; omega)
      refine ⟨(j : Int) :: L, ?_, ⟨j, x, rfl, q2, by rw [show v - (x.2.1.length : Int) = u by omega]; exact k2⟩, by simp; omega⟩
      have st : walk b s (C, acc, (i : Int)) = some (.inl (C, acc ++ [(j : Int)], ((i + x.1.length : Nat) : Int))) := by
        unfold walk
        have hlim : lim = 4294967296 := rfl
        have hcl := hC.1
        rw [show decide ((i : Int) < (s.length : Int)) = true from decide_eq_true (by omega), show (decide ((0 : Int) ≤ (i : Int)) && decide ((i : Int) < (C.length : Int))) = true by simp; omega, Int.toNat_natCast, q1]
        simp only [cond_true, Option.bind_some, idx_get, q2]
        rw [show decide (acc.length + [(j : Int)].length ≤ lim) = true from decide_eq_true (by simp only [List.length_cons, List.length_nil]; omega), cond_true, w64_of (by omega) (by omega)]
        rfl
      rw [loopE_step st, k1]
      simp
    · exact walk_ok hs hp hA hC 0 i v acc (by omega) hi hv h0 ha

/-- the loop that gathers the signals -/
def gather (b : GBook) (n : Nat) : (List Int) × (List Int) × Int → Option (((List Int) × (List Int) × Int) ⊕ List Int) := fun st3 =>
  bif (decide (st3.2.2 < (n : Int))) then
    bif decide (0 ≤ st3.2.2) && decide (st3.2.2 < (st3.2.1.length : Int)) then
      (st3.2.1[(Int.toNat st3.2.2)]?).bind fun e4 =>
      (idx b.1 e4).bind fun e5 =>
      bif decide (List.length st3.1 + List.length e5.2.1 ≤ lim) then
        some (.inl ((st3.1 ++ e5.2.1), st3.2.1, (w64 (st3.2.2 + 1))))
      else
        none
    else
      none
  else
    some (.inr st3.1)

theorem codes_pos {ps : List GPhrase} : ∀ {L : List Int} {n : Int}, Codes ps L n → 0 ≤ n
  | [], n, h => by have : n = 0 := h; omega
  | j :: L, n, ⟨k, x, _, _, h⟩ => by
    have := codes_pos h
    omega

theorem gather_ok {b : GBook} {M : List Int} (hM : M.length ≤ 5000) : ∀ (L : List Int) (pre acc : List Int) (v : Int), M = pre ++ L → Codes b.1 L v → (acc.length : Int) + v ≤ 1000000 → ∃ out, loopE (gather b M.length) (acc, M, (pre.length : Int)) = some out ∧ (out.length : Int) = acc.length + v
  | [], pre, acc, v, e, h, hb => by
    have hv : v = 0 := h
    refine ⟨acc, loopE_done ?_, by omega⟩
    unfold gather
    rw [show decide ((pre.length : Int) < (M.length : Int)) = false from decide_eq_false (by rw [e]; simp)]
    rfl
  | j :: L, pre, acc, v, e, ⟨k, x, hj, hx, h⟩, hb => by
    have hv := codes_pos h
    have hlim : lim = 4294967296 := rfl
    have hml : M.length = pre.length + (L.length + 1) := by rw [e]; simp
    have hat : M[pre.length]? = some j := by rw [e]; simp
    obtain ⟨out, k1, k2⟩ := gather_ok hM L (pre ++ [j]) (acc ++ x.2.1) (v - (x.2.1.length : Int)) (by rw [e]; simp) h (by simp; omega)
    refine ⟨out, ?_, by rw [k2]; simp; omega⟩
    have st : gather b M.length (acc, M, (pre.length : Int)) = some (.inl (acc ++ x.2.1, M, ((pre ++ [j]).length : Int))) := by
      unfold gather
      rw [show decide ((pre.length : Int) < (M.length : Int)) = true from decide_eq_true (by omega), show decide ((0 : Int) ≤ (pre.length : Int)) = true from decide_eq_true (by omega), Int.toNat_natCast, hat]
      simp only [cond_true, Option.bind_some, Bool.and_self, hj, idx_get, hx]
      rw [show decide (acc.length + x.2.1.length ≤ lim) = true from decide_eq_true (by omega), cond_true, w64_of (by omega) (by omega)]
      simp
    rw [loopE_step st]
    exact k1

theorem s_lets {s : Bytes} (h : s.length ≤ maxLen) : s_spLetters s = some (s.all low && decide ((s.length : Int) ≤ 40)) := by
  unfold s_spLetters
  rw [all_loop (l := s) low false ?_ ?_]
  · cases s.all low <;> rfl
  · intro i x hx hi'
    simp only [idx_get, hx, Option.bind_some, at_lt hi', up h hi', low]
    cases decide ((x.toNat : Int) < 97) <;> cases decide (122 < (x.toNat : Int)) <;> rfl
  · simp
theorem i_lets {s : Bytes} (h : s.length ≤ maxLen) : i_isLetters s = some (s.all low && decide ((s.length : Int) ≤ 40)) := by
  unfold i_isLetters
  rw [i_small h]
  cases s.all low <;> cases decide ((s.length : Int) ≤ 40) <;> rfl

theorem book_phrase {b : GBook} (hb : isBook b = true) : b.1.length ≤ 40 ∧ ∀ x ∈ b.1, 1 ≤ x.1.length ∧ x.2.1.length ≤ 3 := by
  simp only [isBook, Bool.and_eq_true, List.all_eq_true, inB, decide_eq_true_eq] at hb
  refine ⟨by omega, fun x hx => ?_⟩
  obtain ⟨i, hi, rfl⟩ := List.getElem_of_mem hx
  have := hb.1 i (List.mem_range.2 hi)
  have e : b.1[i]? = some b.1[i] := by simp [hi]
  simp only [goodAt, e, Bool.and_eq_true, isSignals, isText, inB, decide_eq_true_eq, Bool.not_eq_true'] at this
  refine ⟨?_, by omega⟩
  have h2 := this.1.1.1.2.2
  cases ht : b.1[i].1 with
  | nil => rw [ht] at h2; simp at h2
  | cons y l => simp

theorem least_same {b : GBook} (h : Fine b) {s : Bytes} (hs : s.length ≤ maxLen) : ∃ n ok, s_LeastSignals b s = some (n, ok) ∧ i_LeastSignals b s = some (n, ok) ∧ 0 ≤ n ∧ n ≤ 120 := by
  unfold s_LeastSignals i_LeastSignals i_EncodeMessage i_SpellMessage s_spAsked
  rw [s_good h, s_lets hs, i_good h, i_lets hs]
  simp only [Option.bind_some]
  have none_case : ∀ (x : Option ((List Int) × Bool)), x = some ([], false) → ((x.bind fun (r1 : List Int × Bool) => (loopE (gather b r1.1.length) ([], r1.1, 0)).bind fun o6 => some (o6, r1.2)).bind fun (r1 : List Int × Bool) => some ((r1.1.length : Int), r1.2)) = some ((0 : Int), false) := fun x e => by
    rw [e]
    simp only [Option.bind_some]
    rw [loopE_done (b := []) rfl]
    rfl
  cases hb : isBook b with
  | false =>
    refine ⟨0, false, rfl, ?_, by omega, by omega⟩
    exact none_case _ rfl
  | true =>
  obtain ⟨hlen, hp⟩ := book_phrase hb
  cases hl : (s.all low && decide ((s.length : Int) ≤ 40)) with
  | false =>
    refine ⟨0, false, rfl, ?_, by omega, by omega⟩
    exact none_case _ rfl
  | true =>
  simp only [Bool.and_eq_true, decide_eq_true_eq] at hl
  have hs4 : s.length ≤ 40 := by omega
  have z0 : TabOk s s.length (List.replicate (s.length + 1) 0) := ⟨by simp, fun k h1 h2 => ⟨0, by rw [List.getElem?_replicate, if_pos (by omega)], by omega, by omega⟩⟩
  have z1 : ChOk s b.1 s.length (List.replicate (s.length + 1) 0) (List.replicate (s.length + 1) 0) := ⟨by simp, fun k v h1 h2 => by omega⟩
  obtain ⟨A, C, k1, k2, k3, k4⟩ := tables_same (by omega) hp s.length _ _ (Nat.le_refl _) z0 z1
  rw [List.map_replicate, show reach 0 = 0 from rfl] at k2
  obtain ⟨v, v1, v2, v3⟩ := k3.val 0 (by omega) (by omega)
  have hal := k3.len
  have gA : (decide (0 ≤ 0) && decide ((0 : Int) < (A.length : Int))) = true := by simp; omega
  rw [s_table h (by omega), k1, i_table h (by omega), k2]
  have b0 : (A.map reach)[0]? = some (reach v) := by rw [List.getElem?_map, v1]; rfl
  simp only [Option.bind_some, Bool.not_true, cond_false, gA, cond_true, show Int.toNat 0 = 0 from rfl, v1, spelt, b0]
  by_cases hv : v < 0
  · have hr : reach v = 1073741824 := if_pos hv
    rw [decide_eq_true hv, hr]
    refine ⟨0, false, rfl, ?_, by omega, by omega⟩
    exact none_case _ rfl
  · have hr : reach v = v := if_neg hv
    rw [decide_eq_false hv, hr, show decide (1073741824 ≤ v) = false from decide_eq_false (by omega)]
    obtain ⟨L, w1, w2, w3⟩ := walk_ok (b := b) (s := s) (by omega) hp k3 k4 s.length 0 v [] (by omega) (by omega) v1 (by omega) (by simp)
    obtain ⟨out, g1, g2⟩ := gather_ok (b := b) (M := L) (by omega) L [] [] v rfl w2 (by simp; omega)
    have w1' : loopE (walk b s) (C, [], 0) = some L := w1
    refine ⟨v, true, rfl, ?_, by omega, by omega⟩
    simp only [cond_false, w1', Option.bind_some]
    show (((loopE (gather b L.length) ([], L, 0)).bind fun o6 => some (o6, true)).bind fun (r1 : List Int × Bool) => some ((r1.1.length : Int), r1.2)) = _
    have g1' : loopE (gather b L.length) ([], L, 0) = some out := g1
    rw [g1']
    simp only [Option.bind_some, g2]
    simp

theorem sz_res2 : ∀ (l : List GPhrase) (s : Int) (i : Nat), (∀ x ∈ l, x.1.length ≤ maxLen ∧ x.2.1.length ≤ maxLen) → 0 ≤ s → s ≤ 1048576 →
    ∃ z, forRes (fun s _ x => (l_szPhrase x s).bind fun r4 => some (bif decide (r4 < 0) then .inr (.inr (-1)) else .inl r4)) (fun s => (.inl s : Int ⊕ Int)) s i l = some z ∧ (z = .inr (-1) ∨ ∃ s', z = .inl s' ∧ (∀ x ∈ l, x.2.1.length ≤ 1048576) ∧ 0 ≤ s' ∧ s' ≤ 1048576)
  | [], s, i, _, h0, h1 => ⟨_, rfl, .inr ⟨s, rfl, (fun x h => by cases h), h0, h1⟩⟩
  | x :: l, s, i, h, h0, h1 => by
    obtain ⟨r, hr, h3⟩ := szPhrase (h x (by simp)).1 (h x (by simp)).2 h0 h1
    simp only [forRes, hr, Option.bind_some]
    rcases h3 with h3 | ⟨h3, h4, h5⟩
    · rw [decide_eq_true h3]; exact ⟨_, rfl, .inl rfl⟩
    · rw [show decide (r < 0) = false from decide_eq_false (by omega)]
      obtain ⟨z, hz, h6⟩ := sz_res2 l r (i + 1) (fun y hy => h y (List.mem_cons_of_mem _ hy)) h4 h5
      refine ⟨z, hz, h6.imp id fun ⟨s', e, h7, h8⟩ => ⟨s', e, (fun y hy => ?_), h8⟩⟩
      rcases List.mem_cons.1 hy with rfl | hy
      · exact h3
      · exact h7 y hy
theorem szBook2 {b : GBook} {left : Int} (h : Fine b) (h0 : 0 ≤ left) (h1 : left ≤ 1048576) : ∃ r, l_szBook b left = some r ∧ (r < 0 ∨ (Small b ∧ 0 ≤ r ∧ r ≤ 1048576)) := by
  unfold l_szBook l_szPhraseS
  have hm := h.len
  unfold maxLen at hm
  rw [w64_of (x := left - (b.1.length : Int)) (by omega) (by omega)]
  by_cases h2 : left - b.1.length < 0
  · rw [decide_eq_true h2]; exact ⟨_, rfl, .inl (by decide)⟩
  · rw [decide_eq_false h2]
    simp only [cond_false]
    rw [for_loop (a := b.1) Prod.mk (fun s _ x => (l_szPhrase x s).bind fun r4 => some (bif decide (r4 < 0) then .inr (.inr (-1)) else .inl r4)) (fun s => (.inl s : Int ⊕ Int)) (left - (b.1.length : Int)) ?_ ?_ ?_]
    · obtain ⟨z, hz, h3⟩ := sz_res2 b.1 (left - (b.1.length : Int)) 0 (fun x hx => ⟨h.text x hx, h.sig x hx⟩) (by omega) (by omega)
      rw [hz]
      rcases h3 with rfl | ⟨s', rfl, h4, h5, h6⟩
      · exact ⟨_, rfl, .inl (by decide)⟩
      · simp only [Option.bind_some]
        rw [show decide (s' < 0) = false from decide_eq_false (by omega)]
        exact ⟨_, rfl, .inr ⟨⟨by omega, h4⟩, h5, h6⟩⟩
    · rfl
    · intro s i x hi hx
      simp only [idx_get, hx, Option.bind_some, at_lt hi, up h.len hi, cond_true]
      cases l_szPhrase x s with
      | none => rfl
      | some r => simp only [Option.bind_some]; cases decide (r < 0) <;> rfl
    · intro s; simp

theorem cmp_sign (a b : Int) (ha : 0 ≤ a ∧ a ≤ 423600) (hb : 0 ≤ b ∧ b ≤ 423600) : cmp_Compare_int a b = s_l1Sign (w64 (a - b)) := by
  unfold cmp_Compare_int cmp_isNaN_int s_l1Sign
  rw [w64_of (by omega) (by omega)]
  simp only [decide_true, Bool.not_true, Option.bind_some, cond_false]
  by_cases h1 : a < b
  · rw [show decide (a < b) = true from decide_eq_true h1, show decide (0 < a - b) = false from decide_eq_false (by omega), show decide (a - b < 0) = true from decide_eq_true (by omega)]
    rfl
  · by_cases h2 : b < a
    · rw [show decide (a < b) = false from decide_eq_false h1, show decide (0 < a - b) = true from decide_eq_true (by omega), show decide (b < a) = true from decide_eq_true h2]
      rfl
    · rw [show decide (a < b) = false from decide_eq_false h1, show decide (0 < a - b) = false from decide_eq_false (by omega), show decide (b < a) = false from decide_eq_false h2, show decide (a - b < 0) = false from decide_eq_false (by omega)]
      rfl
theorem sign_some (n : Int) : ∃ v, s_l1Sign n = some v := by
  unfold s_l1Sign
  cases decide (0 < n) <;> cases decide (n < 0) <;> exact ⟨_, rfl⟩

theorem compare_same {a b : GBook} (ha : Fine a) (hb : Fine b) {s : Bytes} (hs : s.length ≤ maxLen) : ∃ v, s_CompareBooks a b s = some v ∧ i_CompareBooks a b s = some v := by
  unfold s_CompareBooks i_CompareBooks s_msCompare
  obtain ⟨n, ok, e1, e2, n1, n2⟩ := least_same ha hs
  obtain ⟨m, ok', e3, e4, m1, m2⟩ := least_same hb hs
  simp only [e1, e2, e3, e4, Option.bind_some]
  rw [cmp_sign n m ⟨by omega, by omega⟩ ⟨by omega, by omega⟩]
  obtain ⟨v, hv⟩ := sign_some (w64 (n - m))
  rw [hv]
  cases ok <;> cases ok' <;> exact ⟨_, rfl, rfl⟩

theorem show_same {b : GBook} (hb : Fine b) {s : Bytes} (hs : s.length ≤ maxLen) (sec : Int) : ∃ v, s_ShowSeconds b s sec = some v ∧ i_ShowSeconds b s sec = some v := by
  unfold s_ShowSeconds i_ShowSeconds
  obtain ⟨n, ok, e1, e2, n1, n2⟩ := least_same hb hs
  simp only [e1, e2, Option.bind_some, l1In_eq, within_eq]
  cases ok <;> cases inB sec 1 60 <;> exact ⟨_, rfl, rfl⟩

/-- FnExactCompareBooks -/
theorem plain_CompareBooks (a b : GBook) (s : Bytes) (ha : Fine a) (hb : Fine b) (hs : s.length ≤ maxLen) : l_FnExactCompareBooks a b s = some true := by
  unfold l_FnExactCompareBooks
  cases decide (1048576 < (s.length : Int)) with
  | true => rfl
  | false =>
  obtain ⟨r, hr, h2⟩ := szBook2 ha (left := 1048576) (by omega) (by omega)
  rw [hr]
  simp only [Option.bind_some]
  rcases h2 with h2 | ⟨h2, h3, h4⟩
  · rw [decide_eq_true h2]; rfl
  rw [show decide (r < 0) = false from decide_eq_false (by omega)]
  obtain ⟨q, hq, k2⟩ := szBook2 hb (left := r) h3 h4
  rw [hq]
  simp only [Option.bind_some]
  rcases k2 with k2 | ⟨k2, k3, k4⟩
  · rw [decide_eq_true k2]; rfl
  rw [show decide (q < 0) = false from decide_eq_false (by omega)]
  obtain ⟨v, e1, e2⟩ := compare_same ha hb hs
  simp only [toBook h2, toBook k2, eqBook ha, eqBook hb, Option.bind_some, cond_false, e1, e2]
  simp

/-- FnExactShowSeconds -/
theorem plain_ShowSeconds (b : GBook) (s : Bytes) (sec : Int) (hb : Fine b) (hs : s.length ≤ maxLen) : l_FnExactShowSeconds b s sec = some true := by
  unfold l_FnExactShowSeconds
  cases decide (1048576 < (s.length : Int)) with
  | true => rfl
  | false =>
  obtain ⟨r, hr, h2⟩ := szBook2 hb (left := 1048576) (by omega) (by omega)
  rw [hr]
  simp only [Option.bind_some]
  rcases h2 with h2 | ⟨h2, h3, h4⟩
  · rw [decide_eq_true h2]; rfl
  rw [show decide (r < 0) = false from decide_eq_false (by omega)]
  obtain ⟨v, e1, e2⟩ := show_same hb hs sec
  simp only [toBook h2, eqBook hb, Option.bind_some, cond_false, e1, e2]
  simp
end Go.Proofs.Ytbbcmknpbpfkaaa.Sh
