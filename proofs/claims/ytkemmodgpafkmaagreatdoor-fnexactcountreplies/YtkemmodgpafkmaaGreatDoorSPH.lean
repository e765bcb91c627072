/-
  EncodeMessage: the program's spelling is the reference's.
-/
import Derived.Test.YtkemmodgpafkmaaGreatDoorSPQ
namespace Go.Proofs.YtkemmodgpafkmaaGreatDoor.Sh.Q
open Go Go.Ab Go.Proofs
theorem good_mem {b : GBook} (hb : isBook b = true) {x : GPhrase} (hx : x ∈ b.1) : (isText x.1 && isSignals x.2.1) = true := by
  simp only [isBook, Bool.and_eq_true, List.all_eq_true] at hb
  obtain ⟨i, hi, rfl⟩ := List.getElem_of_mem hx
  have := hb.1 i (List.mem_range.2 hi)
  have e : b.1[i]? = some b.1[i] := by simp [hi]
  simp only [goodAt, e, Bool.and_eq_true] at this
  simp only [Bool.and_eq_true]
  exact this.1.1
def spIn (b : GBook) (s : Bytes) (i : Int) : (List Int) × (List Int) × Int × Int → Option (((List Int) × (List Int) × Int × Int) ⊕ (((List Int) × (List Int) × Int))) := fun st6 =>
  bif (decide (st6.2.2.2 < (b.1.length : Int))) then
    (idx b.1 st6.2.2.2).bind fun e7 =>
    (bif (decide (st6.2.2.1 < 0)) then
      (sub s i (s.length : Int)).bind fun l8 =>
      (s_spBegins l8 e7.1).bind fun r9 =>
      some r9
    else
      some false).bind fun c10 =>
    (bif c10 then
      bif decide (0 ≤ (w64 (i + (e7.1.length : Int)))) && decide ((w64 (i + (e7.1.length : Int))) < (st6.1.length : Int)) then
        (st6.1[(Int.toNat (w64 (i + (e7.1.length : Int))))]?).bind fun e11 =>
        some (decide (0 ≤ e11))
      else
        none
    else
      some false).bind fun c12 =>
    (bif c12 then
      bif decide (0 ≤ (w64 (i + (e7.1.length : Int)))) && decide ((w64 (i + (e7.1.length : Int))) < (st6.1.length : Int)) then
        (st6.1[(Int.toNat (w64 (i + (e7.1.length : Int))))]?).bind fun e13 =>
        bif decide (0 ≤ i) && decide (i < (st6.1.length : Int)) then
          (st6.1[(Int.toNat i)]?).bind fun e14 =>
          some (decide ((w64 ((e7.2.1.length : Int) + e13)) = e14))
        else
          none
      else
        none
    else
      some false).bind fun c15 =>
    bif c15 then
      some (.inl (st6.1, st6.2.1, st6.2.2.2, (w64 (st6.2.2.2 + 1))))
    else
      some (.inl (st6.1, st6.2.1, st6.2.2.1, (w64 (st6.2.2.2 + 1))))
  else
    some (.inr (st6.1, st6.2.1, st6.2.2.1))
noncomputable def spWalk (b : GBook) (s : Bytes) : (List Int) × (List Int) × Int → Option (((List Int) × (List Int) × Int) ⊕ List Int) := fun st4 =>
  bif (decide (st4.2.2 < (s.length : Int))) then
    (loopE (spIn b s st4.2.2) (st4.1, st4.2.1, (-1), 0)).bind fun o16 =>
    bif decide (List.length o16.2.1 + List.length [o16.2.2] ≤ lim) then
      (idx b.1 o16.2.2).bind fun e17 =>
      some (.inl (o16.1, (o16.2.1 ++ [o16.2.2]), (w64 (st4.2.2 + (e17.1.length : Int)))))
    else
      none
  else
    some (.inr st4.2.1)
theorem spell_def (b : GBook) (s : Bytes) : s_spSpell b s = (s_spTable b s).bind fun r1 =>
    bif decide (0 ≤ 0) && decide (0 < (r1.length : Int)) then
      (r1[(Int.toNat 0)]?).bind fun e2 =>
      bif (decide (e2 < 0)) then some ([], false) else (loopE (spWalk b s) (r1, [], 0)).bind fun o18 => some (o18, true)
    else none := rfl
theorem in_ok {b : GBook} {s : Bytes} {A acc : List Int} {i : Nat} {v : Int} (hs : s.length ≤ 1000) (hf : b.1.length ≤ maxLen) (hp : ∀ x ∈ b.1, 1 ≤ x.1.length ∧ x.2.1.length ≤ 3) (hA : TabOk s 0 A) (hi : i < s.length) (hv : A[i]? = some v) {J : Nat} {x : GPhrase} {u : Int}
    (hx : b.1[J]? = some x) (hh : hit s i x = true) (hu : A[i + x.1.length]? = some u) (h0 : 0 ≤ u) (he : v = (x.2.1.length : Int) + u) (hF : Fst s b.1 i A J v) :
    ∀ (d k : Nat), k + d = b.1.length → loopE (spIn b s (i : Int)) (A, acc, (if k ≤ J then -1 else (J : Int)), (k : Int)) = some (A, acc, (J : Int))
  | 0, k, hk => by
    have hJ : J < b.1.length := (List.getElem?_eq_some_iff.1 hx).1
    rw [if_neg (by omega)]
    refine loopE_done ?_
    unfold spIn
    rw [show decide ((k : Int) < (b.1.length : Int)) = false from decide_eq_false (by omega)]
    rfl
  | d + 1, k, hk => by
    have hJ : J < b.1.length := (List.getElem?_eq_some_iff.1 hx).1
    have hlt : k < b.1.length := by omega
    obtain ⟨y, hy⟩ : ∃ y, b.1[k]? = some y := ⟨_, List.getElem?_eq_getElem hlt⟩
    have hpy := hp y (List.mem_of_getElem? hy)
    have ih := in_ok (acc := acc) hs hf hp hA hi hv hx hh hu h0 he hF d (k + 1) (by omega)
    have hAl := hA.len
    have hk1 : w64 ((k : Int) + 1) = ((k + 1 : Nat) : Int) := by rw [up hf hlt]; omega
    have dlt : decide ((k : Int) < (b.1.length : Int)) = true := decide_eq_true (by omega)
    have di : (decide ((0 : Int) ≤ (i : Int)) && decide ((i : Int) < (A.length : Int))) = true := by simp; omega
    by_cases hkJ : k ≤ J
    · rw [if_pos hkJ]
      have key : spIn b s (i : Int) (A, acc, -1, (k : Int)) = some (.inl (A, acc, (if k + 1 ≤ J then -1 else (J : Int)), ((k + 1 : Nat) : Int))) := by
        unfold spIn
        simp only [dlt, cond_true, idx_get, hy, Option.bind_some, show decide ((-1 : Int) < 0) = true from rfl, sub_drop (Nat.le_of_lt hi), s_begins, hk1]
        by_cases hkk : k = J
        · subst hkk
          rw [hx] at hy
          cases hy
          have ht := hit_len hh (Nat.le_of_lt hi)
          have ew : w64 ((i : Int) + (x.1.length : Int)) = ((i + x.1.length : Nat) : Int) := by rw [w64_of (by omega) (by omega)]; omega
          have dn : (decide ((0 : Int) ≤ ((i + x.1.length : Nat) : Int)) && decide (((i + x.1.length : Nat) : Int) < (A.length : Int))) = true := by simp; omega
          obtain ⟨u', hu', _, hub⟩ := hA.val (i + x.1.length) (by omega) ht
          rw [hu] at hu'
          cases hu'
          rw [hh, ew, dn, di, Int.toNat_natCast, Int.toNat_natCast, hu, hv, if_neg (by omega)]
          simp only [cond_true, Option.bind_some, decide_eq_true h0]
          rw [w64_of (by omega) (by omega), decide_eq_true he.symm]
          rfl
        · have hkl : k < J := by omega
          rw [if_pos (by omega)]
          cases hhy : hit s i y with
          | false => rfl
          | true =>
            have ht := hit_len hhy (Nat.le_of_lt hi)
            have ew : w64 ((i : Int) + (y.1.length : Int)) = ((i + y.1.length : Nat) : Int) := by rw [w64_of (by omega) (by omega)]; omega
            have dn : (decide ((0 : Int) ≤ ((i + y.1.length : Nat) : Int)) && decide (((i + y.1.length : Nat) : Int) < (A.length : Int))) = true := by simp; omega
            obtain ⟨w, hw, _, hwb⟩ := hA.val (i + y.1.length) (by omega) ht
            rw [ew, dn, di, Int.toNat_natCast, Int.toNat_natCast, hw, hv]
            simp only [cond_true, Option.bind_some]
            by_cases hw0 : 0 ≤ w
            · have := hF k y w hkl hy hhy hw hw0
              rw [decide_eq_true hw0]
              simp only [cond_true, Option.bind_some]
              rw [w64_of (by omega) (by omega), decide_eq_false (by omega)]
              rfl
            · rw [decide_eq_false hw0]
              rfl
      rw [loopE_step key]
      exact ih
    · rw [if_neg hkJ]
      rw [if_neg (by omega)] at ih
      have key : spIn b s (i : Int) (A, acc, (J : Int), (k : Int)) = some (.inl (A, acc, (J : Int), ((k + 1 : Nat) : Int))) := by
        unfold spIn
        simp only [dlt, cond_true, idx_get, hy, Option.bind_some, show decide ((J : Int) < 0) = false from decide_eq_false (by omega), cond_false, hk1]
      rw [loopE_step key]
      exact ih
theorem walks {b : GBook} {s : Bytes} {A C : List Int} (hs : s.length ≤ 1000) (hf : b.1.length ≤ maxLen) (hp : ∀ x ∈ b.1, 1 ≤ x.1.length ∧ x.2.1.length ≤ 3) (hA : TabOk s 0 A) (hC : ChOk s b.1 0 A C) :
    ∀ (n i : Nat) (v : Int) (acc : List Int), s.length ≤ i + n → i ≤ s.length → A[i]? = some v → 0 ≤ v → acc.length ≤ i → loopE (spWalk b s) (A, acc, (i : Int)) = loopE (walk b s) (C, acc, (i : Int))
  | 0, i, v, acc, hn, hi, hv, h0, ha => by
    have e1 : spWalk b s (A, acc, (i : Int)) = some (.inr acc) := by
      unfold spWalk
      rw [show decide ((i : Int) < (s.length : Int)) = false from decide_eq_false (by omega)]
      rfl
    have e2 : walk b s (C, acc, (i : Int)) = some (.inr acc) := by
      unfold walk
      rw [show decide ((i : Int) < (s.length : Int)) = false from decide_eq_false (by omega)]
      rfl
    rw [loopE_done e1, loopE_done e2]
  | n + 1, i, v, acc, hn, hi, hv, h0, ha => by
    by_cases hlt : i < s.length
    · obtain ⟨j, x, u, q1, q2, q3, q4, q5, q6, q7⟩ := hC.2 i v (by omega) hlt hv h0
      have hx := hp x (List.mem_of_getElem? q2)
      have ht := hit_len q3 hi
      have ih := walks hs hf hp hA hC n (i + x.1.length) u (acc ++ [(j : Int)]) (by omega) ht q4 q5 (by simp; omega)
      have hlim : lim = 4294967296 := rfl
      have st : walk b s (C, acc, (i : Int)) = some (.inl (C, acc ++ [(j : Int)], ((i + x.1.length : Nat) : Int))) := by
        unfold walk
        have hcl := hC.1
        rw [show decide ((i : Int) < (s.length : Int)) = true from decide_eq_true (by omega), show (decide ((0 : Int) ≤ (i : Int)) && decide ((i : Int) < (C.length : Int))) = true by simp; omega, Int.toNat_natCast, q1]
        simp only [cond_true, Option.bind_some, idx_get, q2]
        rw [show decide (acc.length + [(j : Int)].length ≤ lim) = true from decide_eq_true (by simp only [List.length_cons, List.length_nil]; omega), cond_true, w64_of (by omega) (by omega)]
        rfl
      have st2 : spWalk b s (A, acc, (i : Int)) = some (.inl (A, acc ++ [(j : Int)], ((i + x.1.length : Nat) : Int))) := by
        have hin := in_ok (acc := acc) hs hf hp hA hlt hv q2 q3 q4 q5 q6 q7 b.1.length 0 (by omega)
        rw [if_pos (Nat.zero_le _)] at hin
        unfold spWalk
        rw [show decide ((i : Int) < (s.length : Int)) = true from decide_eq_true (by omega)]
        simp only [cond_true]
        rw [show ((0 : Nat) : Int) = 0 from rfl] at hin
        rw [hin]
        simp only [Option.bind_some, idx_get, q2]
        rw [show decide (acc.length + [(j : Int)].length ≤ lim) = true from decide_eq_true (by simp only [List.length_cons, List.length_nil]; omega), cond_true, w64_of (by omega) (by omega)]
        rfl
      rw [loopE_step st, loopE_step st2]
      exact ih
    · exact walks hs hf hp hA hC 0 i v acc (by omega) hi hv h0 ha
theorem spell_same {b : GBook} (hf : Fine b) (hb : isBook b = true) {s : Bytes} (hs : s.length ≤ 1000) :
    ∃ L ok v, i_spell b s = some (L, ok) ∧ s_spSpell b s = some (L, ok) ∧ (ok = false → L = []) ∧ Codes b.1 L v ∧ v ≤ 3000 ∧ L.length ≤ 1000 ∧ (ok = true → 0 < s.length → 1 ≤ v) := by
  obtain ⟨hn, hp⟩ := book_phrase hb
  obtain ⟨A, C, k1, k2, k3, k4⟩ := tables_same (ps := b.1) hs hp s.length (List.replicate (s.length + 1) 0) (List.replicate (s.length + 1) 0) (Nat.le_refl _)
    ⟨by simp, fun k h1 h2 => ⟨0, by rw [List.getElem?_replicate, if_pos (by omega)], by omega, by omega⟩⟩ ⟨by simp, fun k v h1 h2 => absurd h1 (by omega)⟩
  obtain ⟨v, hv, v1, v2⟩ := k3.val 0 (by omega) (by omega)
  have hAl := k3.len
  have e0 : (List.replicate (s.length + 1) (0 : Int)).map reach = List.replicate (s.length + 1) 0 := by rw [List.map_replicate]; rfl
  rw [e0] at k2
  have ht : (decide ((0 : Nat) ≤ 0) && decide ((0 : Int) < (A.length : Int))) = true := by simp; omega
  rw [i_table hf hs, k2, spell_def, s_table hf hs, k1]
  simp only [Option.bind_some, spelt, ht, cond_true, show Int.toNat 0 = 0 from rfl, hv]
  rw [show (A.map reach)[0]? = some (reach v) by rw [List.getElem?_map, hv]; rfl]
  simp only [Option.bind_some]
  by_cases h0 : v < 0
  · refine ⟨[], false, 0, ?_, ?_, fun _ => rfl, rfl, by omega, by simp, fun h => by cases h⟩
    · rw [show reach v = 1073741824 from if_pos h0]; rfl
    · rw [decide_eq_true h0]; rfl
  · obtain ⟨L, g1, g2, g3⟩ := walk_ok hs hp k3 k4 s.length 0 v [] (by omega) (by omega) hv (by omega) (by simp)
    have g4 := walks hs hf.len hp k3 k4 s.length 0 v [] (by omega) (by omega) hv (by omega) (by simp)
    rw [show ((0 : Nat) : Int) = 0 from rfl] at g1 g4
    refine ⟨L, true, v, ?_, ?_, (fun h => by cases h), g2, by omega, by omega, fun _ hpos => ?_⟩
    · rw [show reach v = v from if_neg h0, show decide ((1073741824 : Int) ≤ v) = false from decide_eq_false (by omega), cond_false, g1]
      rfl
    · rw [decide_eq_false h0, cond_false, g4, g1]
      rfl
    · obtain ⟨j, x, u, _, q2, _, _, q5, q6, _⟩ := k4.2 0 v (by omega) hpos hv (by omega)
      have := good_mem hb (List.mem_of_getElem? q2)
      simp only [isSignals, inB, Bool.and_eq_true, decide_eq_true_eq] at this
      omega
theorem gather_in {b : GBook} (hb : isBook b = true) {n : Nat} {st : (List Int) × (List Int) × Int} {out : List Int} (h : LoopTo (gather b n) st out) (hs : ∀ y ∈ st.1, 1 ≤ y ∧ y ≤ 60) : ∀ y ∈ out, 1 ≤ y ∧ y ≤ 60 := by
  induction h with
  | @done st out e =>
    unfold gather at e
    cases h1 : decide (st.2.2 < (n : Int)) with
    | false => rw [h1] at e; simp only [cond_false, Option.some.injEq, Sum.inr.injEq] at e; rw [← e]; exact hs
    | true =>
      rw [h1] at e
      simp only [cond_true] at e
      cases h2 : (decide (0 ≤ st.2.2) && decide (st.2.2 < (st.2.1.length : Int))) with
      | false => rw [h2] at e; cases e
      | true =>
        rw [h2] at e
        simp only [cond_true] at e
        cases h3 : st.2.1[(Int.toNat st.2.2)]? with
        | none => rw [h3] at e; cases e
        | some k =>
          rw [h3] at e
          simp only [Option.bind_some] at e
          cases h4 : idx b.1 k with
          | none => rw [h4] at e; cases e
          | some x =>
            rw [h4] at e
            simp only [Option.bind_some] at e
            cases h5 : decide (List.length st.1 + List.length x.2.1 ≤ lim) <;> rw [h5] at e <;> cases e
  | @step st st' out e _ ih =>
    refine ih ?_
    unfold gather at e
    cases h1 : decide (st.2.2 < (n : Int)) with
    | false => rw [h1] at e; cases e
    | true =>
      rw [h1] at e
      simp only [cond_true] at e
      cases h2 : (decide (0 ≤ st.2.2) && decide (st.2.2 < (st.2.1.length : Int))) with
      | false => rw [h2] at e; cases e
      | true =>
        rw [h2] at e
        simp only [cond_true] at e
        cases h3 : st.2.1[(Int.toNat st.2.2)]? with
        | none => rw [h3] at e; cases e
        | some k =>
          rw [h3] at e
          simp only [Option.bind_some] at e
          cases h4 : idx b.1 k with
          | none => rw [h4] at e; cases e
          | some x =>
            rw [h4] at e
            simp only [Option.bind_some] at e
            cases h5 : decide (List.length st.1 + List.length x.2.1 ≤ lim) with
            | false => rw [h5] at e; cases e
            | true =>
              rw [h5] at e
              simp only [cond_true, Option.some.injEq, Sum.inl.injEq] at e
              rw [← e]
              intro y hy
              rcases List.mem_append.1 hy with hy | hy
              · exact hs y hy
              · have hx : x ∈ b.1 := by
                  unfold idx at h4
                  split at h4
                  · cases h4
                  · exact List.mem_of_getElem? h4
                have := good_mem hb hx
                simp only [isSignals, inB, Bool.and_eq_true, decide_eq_true_eq, List.all_eq_true] at this
                exact this.2.2 y hy
theorem encode_same {b : GBook} (hf : Fine b) (hb : isBook b = true) {s : Bytes} (hs : s.length ≤ 1000) :
    ∃ r, i_EncodeMessage b s = some r ∧ s_EncodeMessage b s = some r ∧ r.1.length ≤ 3000 ∧ (∀ y ∈ r.1, 1 ≤ y ∧ y ≤ 60) ∧ (r.2 = true → 0 < s.length → r.1 ≠ []) := by
  have hsm : s.length ≤ maxLen := by unfold maxLen; omega
  have nil : (loopE (gather b 0) ([], [], 0)) = some [] := loopE_done rfl
  unfold i_EncodeMessage i_SpellMessage s_EncodeMessage s_spAsked
  simp only [i_good hf, s_good hf, hb, Option.bind_some, i_lets hsm, s_lets hsm, Bool.not_true, cond_false, cond_true]
  cases hl : (s.all low && decide ((s.length : Int) ≤ 40)) with
  | false =>
    refine ⟨([], false), ?_, rfl, by simp, by simp, fun h => by cases h⟩
    simp only [Bool.not_false, cond_true, Option.bind_some]
    show (loopE (gather b 0) ([], [], 0)).bind _ = _
    rw [nil]
    rfl
  | true =>
    obtain ⟨L, ok, v, h1, h2, h3, h4, h5, h6, h7⟩ := spell_same hf hb hs
    simp only [Bool.not_true, cond_false, Option.bind_some, h1]
    unfold s_spEncode
    simp only [h2, Option.bind_some]
    obtain ⟨out, g1, g2⟩ := gather_ok (b := b) (M := L) (by omega) L [] [] v rfl h4 (by simp; omega)
    rw [show (([] : List Int).length : Int) = 0 from rfl] at g1
    refine ⟨(out, ok), ?_, ?_, by have : (out.length : Int) ≤ 3000 := by simp at g2; omega
                                  show out.length ≤ 3000; omega, gather_in hb (loopE_to g1) (by simp), fun k1 k2 => by
                                  have := h7 k1 k2
                                  intro e
                                  rw [show out = [] from e] at g2
                                  simp at g2
                                  omega⟩
    · show (loopE (gather b L.length) ([], L, 0)).bind _ = _
      rw [g1]
      rfl
    · cases ok with
      | false =>
        obtain rfl := h3 rfl
        have : out = [] := by
          have e := g1
          rw [show loopE (gather b ([] : List Int).length) ([], [], 0) = some [] from nil] at e
          exact (Option.some.inj e).symm
        subst this
        rfl
      | true =>
        simp only [Bool.not_true, cond_false]
        show ((loopE (gather b L.length) ([], L, 0)).bind _).bind _ = _
        rw [g1]
        rfl
end Go.Proofs.YtkemmodgpafkmaaGreatDoor.Sh.Q
namespace Go.Ab
theorem while_loop {α σ β : Type} (l : List α) (t : α → Bool) (mk : Int → σ) (out : Int → β) {f : σ → Option (σ ⊕ β)}
    (hf : ∀ (i : Nat) (x : α), l[i]? = some x → i < l.length → f (mk i) = some (bif t x then .inl (mk ((i : Int) + 1)) else .inr (out i))) (hend : f (mk l.length) = some (.inr (out l.length))) :
    ∀ (m i : Nat), i + m = l.length → loopE f (mk i) = some (out ((i + ((l.drop i).takeWhile t).length : Nat) : Int))
  | 0, i, h => by
    obtain rfl : i = l.length := by omega
    rw [loopE_done hend, List.drop_length]
    rfl
  | m + 1, i, h => by
    have hlt : i < l.length := by omega
    have hx : l[i]? = some (l[i]'hlt) := by simp [hlt]
    have hs := hf i _ hx hlt
    rw [List.drop_eq_getElem_cons hlt, List.takeWhile_cons]
    cases hd : t (l[i]'hlt) with
    | true =>
      rw [hd] at hs
      rw [loopE_step hs]
      have ih := while_loop l t mk out hf hend m (i + 1) (by omega)
      rw [if_pos rfl, List.length_cons, show i + (((l.drop (i + 1)).takeWhile t).length + 1) = i + 1 + ((l.drop (i + 1)).takeWhile t).length by omega]
      exact ih
    | false =>
      rw [hd] at hs
      rw [loopE_done hs]
      rfl
theorem copy_res' {α β ρ : Type} (g : α → β) (fin : List β → ρ) : ∀ (r : List α) (pre suf : List β), suf.length = r.length →
    forRes (fun (out : List β) i x => if i < out.length then some (.inl (out.set i (g x))) else none) fin (pre ++ suf) pre.length r = some (fin (pre ++ r.map g))
  | [], pre, suf, h => by
    have : suf = [] := List.eq_nil_of_length_eq_zero h
    subst this
    simp [forRes]
  | x :: r, pre, suf, h => by
    cases suf with
    | nil => cases h
    | cons y suf =>
      have ih := copy_res' g fin r (pre ++ [g x]) suf (by simpa using h)
      simp only [forRes]
      rw [if_pos (by simp)]
      simp only [Option.bind_some]
      have e : (pre ++ y :: suf).set pre.length (g x) = pre ++ [g x] ++ suf := by simp
      rw [e]
      simpa using ih
theorem copy_loop_mk {α β τ ρ : Type} {l : List α} {z : β} (mk : List β → Int → τ) (fin : List β → ρ) (g : α → β) {f : τ → Option (τ ⊕ ρ)} (hl : l.length ≤ 1048576)
    (hf : ∀ (out : List β) (i : Nat) x, l[i]? = some x → i < l.length → f (mk out (i : Int)) = bif decide (0 ≤ (i : Int)) && decide ((i : Int) < (out.length : Int)) then some (.inl (mk (out.set (Int.toNat (i : Int)) (g x)) (w64 ((i : Int) + 1)))) else none)
    (hend : ∀ out, f (mk out (l.length : Int)) = some (.inr (fin out))) : loopE f (mk (List.replicate (Int.toNat (l.length : Int)) z) 0) = some (fin (l.map g)) := by
  rw [for_loop (a := l) mk (fun (out : List β) i x => if i < out.length then some (.inl (out.set i (g x))) else none) fin (List.replicate l.length z) ?_ ?_ ?_]
  · have := copy_res' g fin l [] (List.replicate l.length z) (by simp)
    simpa using this
  · rfl
  · intro out i x hi hx
    rw [hf out i x hx hi, w64_of (by omega) (by omega)]
    by_cases h2 : i < out.length
    · rw [if_pos h2, show (decide (0 ≤ (i : Int)) && decide ((i : Int) < (out.length : Int))) = true by simp; omega]
      rfl
    · rw [if_neg h2, show (decide (0 ≤ (i : Int)) && decide ((i : Int) < (out.length : Int))) = false by simp; omega]
      rfl
  · intro out; exact hend out
theorem foldl_snoc {α : Type} : ∀ (l acc : List α), l.foldl (fun a y => a ++ [y]) acc = acc ++ l
  | [], acc => by simp
  | x :: l, acc => by rw [List.foldl_cons, foldl_snoc l]; simp
def putW {α : Type} (t : α → Bool) (l : List α) (x : α) : List α := l.take (l.takeWhile t).length ++ x :: l.drop (l.takeWhile t).length
theorem takeWhile_le {α : Type} (t : α → Bool) (l : List α) : (l.takeWhile t).length ≤ l.length := (List.takeWhile_prefix t).length_le
theorem putW_len {α : Type} (t : α → Bool) (l : List α) (x : α) : (putW t l x).length = l.length + 1 := by
  have := takeWhile_le t l
  simp [putW]; omega
theorem mem_putW {α : Type} {t : α → Bool} {l : List α} {x y : α} (h : y ∈ putW t l x) : y = x ∨ y ∈ l := by
  unfold putW at h
  simp only [List.mem_append, List.mem_cons] at h
  rcases h with h | h | h
  · exact .inr (List.mem_of_mem_take h)
  · exact .inl h
  · exact .inr (List.mem_of_mem_drop h)
theorem putW_mem {α : Type} (t : α → Bool) (l : List α) (x : α) : x ∈ putW t l x := by simp [putW]
end Go.Ab
namespace Go.Proofs.YtkemmodgpafkmaaGreatDoor.Sh.Q
open Go Go.Ab Go.Proofs
theorem book_len {b : GBook} (hb : isBook b = true) : b.1.length ≤ 40 := (book_phrase hb).1
theorem bkOwn {l : List GPhrase} (h : l.length ≤ 1048576) (hs : ∀ x ∈ l, x.2.1.length ≤ 1048576) : s_bkOwn l = some l := by
  unfold s_bkOwn
  rw [(fold_loop (l := l) Prod.mk (fun a y => a ++ [y]) (fun s => s) (fun i s => s.length = i) [] rfl ?_ ?_).1]
  · rw [foldl_snoc]; simp
  · intro s i x hx hi hI
    have hx2 := hs x (List.mem_of_getElem? hx)
    refine ⟨?_, by simp [hI]⟩
    simp only [idx_get, hx, Option.bind_some, at_lt hi, up (by unfold maxLen; omega : l.length ≤ maxLen) hi, cond_true, s_l1Own]
    rw [lim_ok (by omega), cond_true, Option.bind_some, lim_ok (by simp; omega)]
    rfl
  · intro s _; simp
theorem cloneBook {b : GBook} (h : b.1.length ≤ 1048576) (hs : ∀ x ∈ b.1, x.2.1.length ≤ 1048576) : i_cloneBook b = some b := by
  unfold i_cloneBook
  rw [copy_guard h, cond_true, copy_loop_mk (l := b.1) (z := (([], ([], ())) : GPhrase)) (fun out i => (([] : List GPhrase), out, i)) (fun out => (([] : List GPhrase), out)) (fun x => x) h ?_ ?_]
  · simp
  · intro out i x hx hi
    simp only [idx_get, hx, Option.bind_some, at_lt hi, cond_true, cloneInt (hs x (List.mem_of_getElem? hx))]
  · intro out; simp
def addN (b : GBook) (x : GPhrase) : GBook := (putW (fun y : GPhrase => Op.bytesLess y.1 x.1) b.1 x, ())
def addB (b : GBook) (x : GPhrase) : GBook × Bool := bif isBook (addN b x) then (addN b x, true) else (([], ()), false)
theorem addB_bad {b : GBook} {x : GPhrase} (h : (isText x.1 && isSignals x.2.1) = false) : addB b x = (([], ()), false) := by
  unfold addB
  cases hb : isBook (addN b x) with
  | false => rfl
  | true => rw [good_mem hb (putW_mem _ _ _)] at h; cases h
theorem fine_addN {b : GBook} (hb : isBook b = true) (hf : Fine b) {x : GPhrase} (h1 : x.1.length ≤ maxLen) (h2 : x.2.1.length ≤ maxLen) : Fine (addN b x) := by
  have hl := book_len hb
  refine ⟨?_, fun y hy => ?_, fun y hy => ?_⟩
  · show (putW _ _ _).length ≤ _
    rw [putW_len]
    unfold maxLen
    omega
  · rcases mem_putW hy with rfl | h
    · exact h1
    · exact hf.text y h
  · rcases mem_putW hy with rfl | h
    · exact h2
    · exact hf.sig y h
theorem i_add {b : GBook} (hb : isBook b = true) (hf : Fine b) {x : GPhrase} (h1 : x.1.length ≤ maxLen) (h2 : x.2.1.length ≤ 1048576) : i_AddPhrase b x = some (addB b x) := by
  have hl := book_len hb
  have h2' : x.2.1.length ≤ maxLen := by unfold maxLen; omega
  unfold i_AddPhrase
  simp only [i_good hf, hb, Option.bind_some, Bool.not_true, cond_false, i_phrase h1 h2']
  cases hp : (isText x.1 && isSignals x.2.1) with
  | false => rw [addB_bad hp]; rfl
  | true =>
    simp only [Bool.not_true, cond_false, cloneBook (b := b) (by omega) (fun y hy => by have := (book_phrase hb).2 y hy; omega), Option.bind_some]
    have hw := while_loop b.1 (fun y : GPhrase => Op.bytesLess y.1 x.1) (fun i => (x.1, x.2.1, ([] : List GPhrase), b.1, i)) (fun i => (x.1, x.2.1, ([] : List GPhrase), b.1, i)) (f := (fun (st6 : Bytes × (List Int) × (List GPhrase) × (List GPhrase) × Int) => (
 (bif (decide (st6.2.2.2.2 < (st6.2.2.2.1.length : Int))) then
 bif decide (0 ≤ st6.2.2.2.2) && decide (st6.2.2.2.2 < (st6.2.2.2.1.length : Int)) then
 (st6.2.2.2.1[(Int.toNat st6.2.2.2.2)]?).bind fun e7 =>
 some (Op.bytesLess e7.1 st6.1)
 else
 none
 else
 some false).bind fun c8 =>
 bif c8 then
 some (.inl (st6.1, st6.2.1, st6.2.2.1, st6.2.2.2.1, (w64 (st6.2.2.2.2 + 1))))
 else
 some (.inr (st6.1, st6.2.1, st6.2.2.1, st6.2.2.2.1, st6.2.2.2.2)) : Option ((Bytes × (List Int) × (List GPhrase) × (List GPhrase) × Int) ⊕ ((Bytes × (List Int) × (List GPhrase) × (List GPhrase) × Int))))))
      (fun i y hy hi => by
        have hm : b.1.length ≤ maxLen := by unfold maxLen; omega
        simp only [at_lt hi, cond_true, show decide ((0 : Int) ≤ (i : Int)) = true from decide_eq_true (by omega), Bool.and_self, Int.toNat_natCast, hy, Option.bind_some, up hm hi]
        cases Op.bytesLess y.1 x.1 <;> rfl) (by simp) b.1.length 0 (by omega)
    rw [show ((0 : Nat) : Int) = 0 from rfl] at hw
    refine bind_eq hw ?_
    have hle := takeWhile_le (fun y : GPhrase => Op.bytesLess y.1 x.1) b.1
    simp only [List.drop_zero, Nat.zero_add, cloneInt h2, Option.bind_some]
    rw [show (decide ((0 : Int) ≤ (((b.1.takeWhile fun y : GPhrase => Op.bytesLess y.1 x.1).length : Nat) : Int)) && decide ((((b.1.takeWhile fun y : GPhrase => Op.bytesLess y.1 x.1).length : Nat) : Int) ≤ (b.1.length : Int)) && decide (b.1.length ≤ 999999)) = true by simp; omega]
    have e : (insV b.1 (((b.1.takeWhile fun y : GPhrase => Op.bytesLess y.1 x.1).length : Nat) : Int) (x.1, x.2.1, ()), ()) = addN b x := by unfold insV addN putW; rw [Int.toNat_natCast]
    rw [e, i_good (fine_addN hb hf h1 h2')]
    unfold addB
    cases hN : isBook (addN b x) with
    | false => rfl
    | true => simp only [cond_true, Option.bind_some, Bool.not_true, cond_false]
theorem s_add {b : GBook} (hb : isBook b = true) (hf : Fine b) {x : GPhrase} (h1 : x.1.length ≤ maxLen) (h2 : x.2.1.length ≤ 1048576) : s_AddPhrase b x = some (addB b x) := by
  have hl := book_len hb
  have hm : b.1.length ≤ maxLen := by unfold maxLen; omega
  have h2' : x.2.1.length ≤ maxLen := by unfold maxLen; omega
  have hsg : ∀ y ∈ b.1, y.2.1.length ≤ 1048576 := fun y hy => by have := (book_phrase hb).2 y hy; omega
  unfold s_AddPhrase
  simp only [s_good hf, hb, Option.bind_some, Bool.not_true, cond_false]
  have hw := while_loop b.1 (fun y : GPhrase => Op.bytesLess y.1 x.1) (fun i => (([] : List GPhrase), i)) (fun i => (([] : List GPhrase), i)) (f := (fun (st3 : (List GPhrase) × Int) => (
 (bif (decide (st3.2 < (b.1.length : Int))) then
 (idx b.1 st3.2).bind fun e4 =>
 some (Op.bytesLess e4.1 x.1)
 else
 some false).bind fun c5 =>
 bif c5 then
 some (.inl (st3.1, (w64 (st3.2 + 1))))
 else
 some (.inr (st3.1, st3.2)) : Option (((List GPhrase) × Int) ⊕ (((List GPhrase) × Int))))))
      (fun i y hy hi => by
        simp only [at_lt hi, cond_true, idx_get, hy, Option.bind_some, up hm hi]
        cases Op.bytesLess y.1 x.1 <;> rfl) (by simp) b.1.length 0 (by omega)
  rw [show ((0 : Nat) : Int) = 0 from rfl] at hw
  refine bind_eq hw ?_
  have hle := takeWhile_le (fun y : GPhrase => Op.bytesLess y.1 x.1) b.1
  simp only [List.drop_zero, Nat.zero_add]
  rw [Sh.sub_take hle, Sh.sub_drop hle]
  generalize hp : (b.1.takeWhile fun y : GPhrase => Op.bytesLess y.1 x.1).length = p at *
  simp only [Option.bind_some, bothSame_self]
  rw [bkOwn (by simp; omega) (fun y hy => hsg y (List.mem_of_mem_take hy)), Option.bind_some, lim_ok (by simp; omega), cond_true, lim_ok (by simp; omega), cond_true]
  have e : (b.1.take p ++ [x]) ++ b.1.drop p = (addN b x).1 := by unfold addN putW; rw [hp]; simp
  have hfN := fine_addN hb hf h1 h2'
  rw [e]
  unfold s_bkIf
  rw [bkOwn (by show (putW _ _ _).length ≤ _; rw [putW_len]; omega) (fun y hy => by
    rcases mem_putW hy with rfl | h
    · exact h2
    · exact hsg y h)]
  simp only [Option.bind_some]
  rw [show (((addN b x).1, ()) : GBook) = addN b x from rfl, s_good hfN]
  unfold addB
  cases hN : isBook (addN b x) <;> rfl
end Go.Proofs.YtkemmodgpafkmaaGreatDoor.Sh.Q
namespace Go.Proofs.YtkemmodgpafkmaaGreatDoor.Sh
open Go Go.Ab Go.Proofs
def addL (n : GNet) (x : GTower) : GNet := (n.1, putW (fun y => before y x) n.2.1 x, ())
def addLB (n : GNet) (x : GTower) : GNet × Bool := bif isNet (addL n x) then (addL n x, true) else (([], [], ()), false)
theorem net_small {n : GNet} (h : isNet n = true) : SmallN n := by
  have := net_sz h
  exact ⟨by omega, by omega⟩
theorem fine_addL {n : GNet} (h : isNet n = true) (x : GTower) : FineN (addL n x) := by
  have := net_sz h
  refine ⟨?_, ?_⟩
  · show n.1.length ≤ _
    unfold maxLen; omega
  · show (putW _ _ _).length ≤ _
    rw [putW_len]
    unfold maxLen; omega
theorem i_addLink {n : GNet} (h : isNet n = true) (x : GTower) : i_AddLink n x = some (addLB n x) := by
  have hs := net_small h
  have hz := net_sz h
  unfold i_AddLink
  simp only [i_isNet hs.fine, h, Option.bind_some, Bool.not_true, cond_false, cloneNet hs]
  have hw := while_loop n.2.1 (fun y : GTower => before y x) (fun i => (([] : List GTower), ([] : List GTower), n.1, n.2.1, i)) (fun i => (([] : List GTower), ([] : List GTower), n.1, n.2.1, i)) (f := (fun (st4 : (List GTower) × (List GTower) × (List GTower) × (List GTower) × Int) => (
 (bif (decide (st4.2.2.2.2 < (st4.2.2.2.1.length : Int))) then
 bif decide (0 ≤ st4.2.2.2.2) && decide (st4.2.2.2.2 < (st4.2.2.2.1.length : Int)) then
 (st4.2.2.2.1[(Int.toNat st4.2.2.2.2)]?).bind fun e5 =>
 (i_compareLinks e5 x).bind fun r6 =>
 some (decide (r6 < 0))
 else
 none
 else
 some false).bind fun c7 =>
 bif c7 then
 some (.inl (st4.1, st4.2.1, st4.2.2.1, st4.2.2.2.1, (w64 (st4.2.2.2.2 + 1))))
 else
 some (.inr (st4.1, st4.2.1, st4.2.2.1, st4.2.2.2.1, st4.2.2.2.2)) : Option (((List GTower) × (List GTower) × (List GTower) × (List GTower) × Int) ⊕ (((List GTower) × (List GTower) × (List GTower) × (List GTower) × Int))))))
      (fun i y hy hi => by
        obtain ⟨r, hr, hd⟩ := cmpLinks y x
        have hd2 : decide (r < 0) = before y x := by
          rw [show decide (r < 0) = !decide (0 ≤ r) from not_lt r 0, hd]; simp
        simp only [at_lt hi, cond_true, show decide ((0 : Int) ≤ (i : Int)) = true from decide_eq_true (by omega), Bool.and_self, Int.toNat_natCast, hy, Option.bind_some, hr, hd2, up (big hs.l) hi]
        cases before y x <;> rfl) (by simp) n.2.1.length 0 (by omega)
  rw [show ((0 : Nat) : Int) = 0 from rfl] at hw
  refine bind_eq hw ?_
  have hle := takeWhile_le (fun y : GTower => before y x) n.2.1
  simp only [List.drop_zero, Nat.zero_add]
  rw [show (decide ((0 : Int) ≤ (((n.2.1.takeWhile fun y : GTower => before y x).length : Nat) : Int)) && decide ((((n.2.1.takeWhile fun y : GTower => before y x).length : Nat) : Int) ≤ (n.2.1.length : Int)) && decide (n.2.1.length ≤ 999999)) = true by simp; omega]
  have e : (n.1, insV n.2.1 (((n.2.1.takeWhile fun y : GTower => before y x).length : Nat) : Int) x, ()) = addL n x := by unfold insV addL putW; rw [Int.toNat_natCast]
  rw [e, i_isNet (fine_addL h x)]
  unfold addLB
  cases hN : isNet (addL n x) with
  | false => rfl
  | true => simp only [cond_true, Option.bind_some, Bool.not_true, cond_false]
theorem s_addLink {n : GNet} (h : isNet n = true) (x : GTower) : s_AddLink n x = some (addLB n x) := by
  have hs := net_small h
  have hz := net_sz h
  unfold s_AddLink s_neOwn
  simp only [s_isNet hs.fine, h, Option.bind_some, Bool.not_true, cond_false]
  rw [lim_ok (n := n.1.length) (by omega), lim_ok (n := n.2.1.length) (by omega)]
  simp only [cond_true, Option.bind_some]
  have hw := while_loop n.2.1 (fun y : GTower => before y x) (fun i => (([] : List GTower), ([] : List GTower), n.1, n.2.1, i)) (fun i => (([] : List GTower), ([] : List GTower), n.1, n.2.1, i)) (f := (fun (st4 : (List GTower) × (List GTower) × (List GTower) × (List GTower) × Int) => (
 (bif (decide (st4.2.2.2.2 < (n.2.1.length : Int))) then
 (idx n.2.1 st4.2.2.2.2).bind fun e5 =>
 (s_neBefore e5 x).bind fun r6 =>
 some r6
 else
 some false).bind fun c7 =>
 bif c7 then
 some (.inl (st4.1, st4.2.1, st4.2.2.1, st4.2.2.2.1, (w64 (st4.2.2.2.2 + 1))))
 else
 some (.inr (st4.1, st4.2.1, st4.2.2.1, st4.2.2.2.1, st4.2.2.2.2)) : Option (((List GTower) × (List GTower) × (List GTower) × (List GTower) × Int) ⊕ (((List GTower) × (List GTower) × (List GTower) × (List GTower) × Int))))))
      (fun i y hy hi => by
        simp only [at_lt hi, cond_true, idx_get, hy, Option.bind_some, s_before, up (big hs.l) hi]
        cases before y x <;> rfl) (by simp) n.2.1.length 0 (by omega)
  rw [show ((0 : Nat) : Int) = 0 from rfl] at hw
  refine bind_eq hw ?_
  have hle := takeWhile_le (fun y : GTower => before y x) n.2.1
  simp only [List.drop_zero, Nat.zero_add]
  rw [sub_take hle, sub_drop hle]
  generalize hp : (n.2.1.takeWhile fun y : GTower => before y x).length = p at *
  simp only [Option.bind_some, bothSame_self]
  rw [lim_ok (by simp; omega), cond_true, lim_ok (by simp; omega), cond_true, lim_ok (by simp; omega), cond_true]
  have e : (n.1, (n.2.1.take p ++ [x]) ++ n.2.1.drop p, ()) = addL n x := by unfold addL putW; rw [hp]; simp
  have e1 : (n.2.1.take p ++ [x]) ++ n.2.1.drop p = (addL n x).2.1 := congrArg (fun z : GNet => z.2.1) e
  rw [e1, show ((n.1, (addL n x).2.1, ()) : GNet) = addL n x from rfl, s_isNet (fine_addL h x)]
  unfold addLB
  cases hN : isNet (addL n x) <;> rfl
end Go.Proofs.YtkemmodgpafkmaaGreatDoor.Sh
namespace Go.Ab
theorem strict_eq {α : Type} {lt : α → α → Prop} : ∀ {l : List α}, l.Pairwise lt → ∀ {a b : α}, a ∈ l → b ∈ l → ¬ lt a b → ¬ lt b a → a = b
  | [], _, _, _, h, _, _, _ => by cases h
  | x :: l, hp, a, b, ha, hb, h1, h2 => by
    rw [List.pairwise_cons] at hp
    rcases List.mem_cons.1 ha with ea | ha
    · rcases List.mem_cons.1 hb with eb | hb
      · exact ea.trans eb.symm
      · exact absurd (ea ▸ hp.1 b hb) h1
    · rcases List.mem_cons.1 hb with eb | hb
      · exact absurd (eb ▸ hp.1 a ha) h2
      · exact strict_eq hp.2 ha hb h1 h2
theorem sorted_is {α : Type} {lt : α → α → Prop} (irr : ∀ a b, lt a b → ¬ lt b a) {A B : List α} (hp : A.Perm B) (hA : A.Pairwise fun a b => ¬ lt b a) (hB : B.Pairwise lt) : A = B :=
  List.Perm.eq_of_pairwise (le := fun a b => ¬ lt b a) (fun _ _ ha hb h1 h2 => strict_eq hB (hp.mem_iff.1 ha) hb h2 h1) hA (hB.imp fun h => irr _ _ h) hp
end Go.Ab
namespace Go.Proofs.YtkemmodgpafkmaaGreatDoor.Sh
open Go Go.Ab Go.Proofs Go.Shelf Go.RowKit Go.Sort
abbrev ltF (a b : GTower) : Prop := lex a.1 a.2.1 b.1 b.2.1
theorem ltF_irr (a b : GTower) (h : ltF a b) : ¬ ltF b a := by unfold ltF lex at *; omega
theorem pdq_pair {cf : G3 → G3 → Int} (hO : SWO (ltOf cf)) (l : List G3) : (pdqL cf l).Pairwise fun a b => ltOf cf b a = false := by
  have hs := (pdqL_sorts hO l).2
  have hl : (pdqL cf l).length = l.length := (pdqL_perm hO l).length_eq
  rw [List.pairwise_iff_getElem]
  intro i j hi hj hij
  have := hs i j (Nat.zero_le _) hij (by omega)
  simpa [hi, hj] using this
theorem sort_fog {A B : List GTower} (hp : A.Perm B) (hB : B.Pairwise ltF) (hl : A.length < 4611686018427387904) : sortFogF A = some B := by
  unfold sortFogF sortL
  rw [if_pos hl]
  congr 1
  refine sorted_is ltF_irr ((pdqL_perm swoF A).trans hp) ?_ hB
  refine (pdq_pair swoF A).imp fun h => ?_
  unfold ltOf cmpF at h
  rw [decide_eq_false_iff_not, lt_or] at h
  exact h
structure FS (n : Nat) (k : Int) (f u : Int) (K : List GTower) (p : Nat) (rest : List GTower) : Prop where
  fu : 0 ≤ f ∧ f < u ∧ u ≤ 10000
  ple : p ≤ K.length
  lo : ∀ y ∈ K.take p, y.1 < k ∨ (y.1 = k ∧ y.2.2.1 < f)
  hi : ∀ y ∈ K.drop p, k < y.1 ∨ (y.1 = k ∧ u < y.2.1)
  pair : K.Pairwise fun a b => apart a b = true
  ok : ∀ y ∈ K, okFog n y = true
  next : ∀ y ∈ K, ∀ z ∈ rest, apart y z = true
theorem apart_iff {a b : GTower} : apart a b = true ↔ a.1 < b.1 ∨ (a.1 = b.1 ∧ a.2.2.1 < b.2.1) := by
  unfold apart; simp
theorem okFog_iff {n : Nat} {x : GTower} : okFog n x = true ↔ 0 ≤ x.1 ∧ x.1 < (n : Int) ∧ 0 ≤ x.2.1 ∧ x.2.1 < x.2.2.1 ∧ x.2.2.1 ≤ 10000 := by
  unfold okFog; simp
def meets (k f u : Int) (y : GTower) : Bool := decide (y.1 = k) && (decide (y.2.1 ≤ u) && decide (f ≤ y.2.2.1))
def ahead (k f : Int) (y : GTower) : Bool := decide (y.1 < k) || (decide (y.1 = k) && decide (y.2.1 < f))
theorem FS.none_hi {n : Nat} {k f u : Int} {K : List GTower} {p : Nat} {z : GTower} {rest : List GTower} (h : FS n k f u K p (z :: rest)) (hz : meets k f u z = true ∨ ahead k f z = true) : p = K.length := by
  apply Classical.byContradiction
  intro hp
  have hlt : p < K.length := by have := h.ple; omega
  have hm : K[p] ∈ K.drop p := by rw [List.drop_eq_getElem_cons hlt]; exact List.mem_cons_self
  have h1 := h.hi _ hm
  have h2 := apart_iff.1 (h.next _ (List.getElem_mem hlt) z (by simp))
  have h3 := okFog_iff.1 (h.ok _ (List.getElem_mem hlt))
  have h4 := h.fu
  unfold meets ahead at hz
  simp only [Bool.and_eq_true, Bool.or_eq_true, decide_eq_true_eq] at hz
  omega
theorem FS.merge {n : Nat} {k f u : Int} {K : List GTower} {p : Nat} {z : GTower} {rest : List GTower} (h : FS n k f u K p (z :: rest)) (hz : okFog n z = true) (hm : meets k f u z = true) : FS n k (min f z.2.1) (max u z.2.2.1) K p rest := by
  have hp := h.none_hi (.inl hm)
  have hz := okFog_iff.1 hz
  have hfu := h.fu
  unfold meets at hm
  simp only [Bool.and_eq_true, decide_eq_true_eq] at hm
  refine ⟨by omega, h.ple, fun y hy => ?_, fun y hy => ?_, h.pair, h.ok, fun y hy w hw => h.next y hy w (List.mem_cons_of_mem _ hw)⟩
  · have h1 := h.lo y hy
    have h2 := apart_iff.1 (h.next y (List.mem_of_mem_take hy) z (by simp))
    omega
  · rw [hp, List.drop_length] at hy
    cases hy
theorem FS.keep {n : Nat} {k f u : Int} {K : List GTower} {p : Nat} {z : GTower} {rest : List GTower} (h : FS n k f u K p (z :: rest)) (hz : okFog n z = true) (hr : ∀ w ∈ rest, apart z w = true) (hm : meets k f u z = false) : FS n k f u (K ++ [z]) (bif ahead k f z then (K ++ [z]).length else p) rest := by
  have hz' := okFog_iff.1 hz
  have hfu := h.fu
  have base : ∀ q, q ≤ (K ++ [z]).length → (∀ y ∈ (K ++ [z]).take q, y.1 < k ∨ (y.1 = k ∧ y.2.2.1 < f)) → (∀ y ∈ (K ++ [z]).drop q, k < y.1 ∨ (y.1 = k ∧ u < y.2.1)) → FS n k f u (K ++ [z]) q rest := fun q g1 g2 g3 =>
    ⟨hfu, g1, g2, g3, by
      rw [List.pairwise_append]
      exact ⟨h.pair, List.pairwise_singleton _ _, fun a ha b hb => by rw [List.mem_singleton] at hb; subst hb; exact h.next a ha b (by simp)⟩, fun y hy => by
      rcases List.mem_append.1 hy with hy | hy
      · exact h.ok y hy
      · rw [List.mem_singleton] at hy; subst hy; exact hz, fun y hy w hw => by
      rcases List.mem_append.1 hy with hy | hy
      · exact h.next y hy w (List.mem_cons_of_mem _ hw)
      · rw [List.mem_singleton] at hy; subst hy; exact hr w hw⟩
  unfold meets at hm
  simp only [Bool.and_eq_false_iff, decide_eq_false_iff_not] at hm
  cases ha : ahead k f z with
  | true =>
    have hp := h.none_hi (.inr ha)
    unfold ahead at ha
    simp only [Bool.or_eq_true, Bool.and_eq_true, decide_eq_true_eq] at ha
    rw [cond_true]
    refine base _ (Nat.le_refl _) (fun y hy => ?_) (fun y hy => by rw [List.drop_length] at hy; cases hy)
    rw [List.take_length] at hy
    rcases List.mem_append.1 hy with hy | hy
    · exact h.lo y (by rw [hp, List.take_length]; exact hy)
    · rw [List.mem_singleton] at hy
      subst hy
      omega
  | false =>
    unfold ahead at ha
    simp only [Bool.or_eq_false_iff, Bool.and_eq_false_iff, decide_eq_false_iff_not] at ha
    rw [cond_false]
    refine base p (by have := h.ple; simp; omega) (fun y hy => ?_) (fun y hy => ?_)
    · rw [List.take_append_of_le_length h.ple] at hy
      exact h.lo y hy
    · rw [List.drop_append_of_le_length h.ple] at hy
      rcases List.mem_append.1 hy with hy | hy
      · exact h.hi y hy
      · rw [List.mem_singleton] at hy
        subst hy
        omega
theorem fogs_iff {n : Nat} {l : List GTower} : areFogs n l = true ↔ (∀ y ∈ l, okFog n y = true) ∧ l.Pairwise (fun a b => apart a b = true) ∧ l.length ≤ 60 := by
  unfold areFogs
  simp only [Bool.and_eq_true, List.all_eq_true, List.mem_range, decide_eq_true_eq]
  constructor
  · rintro ⟨h, hl⟩
    have ok : ∀ (i : Nat) (hi : i < l.length), okFog n l[i] = true := fun i hi => by have := (h i hi).1; rwa [eachAt_eq hi] at this
    have st : ∀ (i : Nat) (hi : i + 1 < l.length), apart (l[i]'(by omega)) l[i + 1] = true := fun i hi => by
      have := (h (i + 1) hi).2
      rw [stepAt_eq hi] at this
      simpa using this
    have far : ∀ (d i : Nat) (hi : i + d + 1 < l.length), apart (l[i]'(by omega)) (l[i + d + 1]'hi) = true := by
      intro d
      induction d with
      | zero => intro i hi; exact st i hi
      | succ d ih =>
        intro i hi
        have h1 := apart_iff.1 (ih i (by omega))
        have h2 := apart_iff.1 (st (i + d + 1) (by omega))
        have h3 := okFog_iff.1 (ok (i + d + 1) (by omega))
        have e : l[i + (d + 1) + 1]'hi = l[i + d + 1 + 1]'(by omega) := rfl
        rw [apart_iff, e]
        omega
    refine ⟨fun y hy => ?_, ?_, by omega⟩
    · obtain ⟨i, hi, rfl⟩ := List.getElem_of_mem hy
      exact ok i hi
    · rw [List.pairwise_iff_getElem]
      intro i j hi hj hij
      have := far (j - i - 1) i (by omega)
      have e : i + (j - i - 1) + 1 = j := by omega
      simpa only [e] using this
  · rintro ⟨h1, h2, h3⟩
    refine ⟨fun i hi => ?_, by omega⟩
    rw [eachAt_eq hi, stepAt_eq hi]
    refine ⟨h1 _ (List.getElem_mem hi), ?_⟩
    by_cases h0 : i = 0
    · simp [h0]
    · have := List.pairwise_iff_getElem.1 h2 (i - 1) i (by omega) hi (by omega)
      simp [this]
abbrev F5 : Type := Int × Int × Int × List GTower × Nat
def gFog (s : F5) (z : GTower) : F5 :=
  bif meets s.1 s.2.1 s.2.2.1 z then (s.1, min s.2.1 z.2.1, max s.2.2.1 z.2.2.1, s.2.2.2.1, s.2.2.2.2)
  else (s.1, s.2.1, s.2.2.1, s.2.2.2.1 ++ [z], bif ahead s.1 s.2.1 z then (s.2.2.2.1 ++ [z]).length else s.2.2.2.2)
def IFog (n : Nat) (l : List GTower) (i : Nat) (s : F5) : Prop := FS n s.1 s.2.1 s.2.2.1 s.2.2.2.1 s.2.2.2.2 (l.drop i) ∧ s.2.2.2.1.length ≤ i
theorem gFog_step {n : Nat} {l : List GTower} (hl : areFogs n l = true) {i : Nat} {z : GTower} (hz : l[i]? = some z) {s : F5} (h : IFog n l i s) : IFog n l (i + 1) (gFog s z) := by
  obtain ⟨h1, h2, _⟩ := fogs_iff.1 hl
  obtain ⟨hi, hz'⟩ := List.getElem?_eq_some_iff.1 hz
  obtain ⟨hF, hlen⟩ := h
  have hd : l.drop i = z :: l.drop (i + 1) := by rw [List.drop_eq_getElem_cons hi, hz']
  rw [hd] at hF
  have hok := h1 z (List.mem_of_getElem? hz)
  have hr : ∀ w ∈ l.drop (i + 1), apart z w = true := by
    have := h2.sublist (List.drop_sublist i l)
    rw [hd, List.pairwise_cons] at this
    exact this.1
  unfold gFog IFog
  cases hm : meets s.1 s.2.1 s.2.2.1 z with
  | true => exact ⟨hF.merge hok hm, by show s.2.2.2.1.length ≤ _; omega⟩
  | false => exact ⟨hF.keep hok hr hm, by simp; omega⟩
theorem min_eq (a b : Int) : (bif decide (b < a) then b else a) = min a b := by
  by_cases h : b < a
  · rw [decide_eq_true h]; simp only [cond_true]; omega
  · rw [decide_eq_false h]; simp only [cond_false]; omega
theorem max_eq (a b : Int) : (bif decide (a < b) then b else a) = max a b := by
  by_cases h : a < b
  · rw [decide_eq_true h]; simp only [cond_true]; omega
  · rw [decide_eq_false h]; simp only [cond_false]; omega
theorem least_eq (a b : Int) : s_l1Least a b = some (min a b) := by
  unfold s_l1Least
  by_cases h : a < b
  · rw [decide_eq_true h]; simp only [cond_true]; congr 1; omega
  · rw [decide_eq_false h]; simp only [cond_false]; congr 1; omega
theorem most_eq (a b : Int) : s_l1Most a b = some (max a b) := by
  unfold s_l1Most
  by_cases h : b < a
  · rw [decide_eq_true h]; simp only [cond_true]; congr 1; omega
  · rw [decide_eq_false h]; simp only [cond_false]; congr 1; omega
def endFog (l : List GTower) (x : GTower) : F5 := l.foldl gFog (x.1, x.2.1, x.2.2.1, [], 0)
def midFog (s : F5) : GTower := (s.1, s.2.1, s.2.2.1, ())
def allFog (s : F5) : List GTower := s.2.2.2.1.take s.2.2.2.2 ++ midFog s :: s.2.2.2.1.drop s.2.2.2.2
theorem FS.start {n : Nat} {x : GTower} (hx : okFog n x = true) (l : List GTower) : IFog n l 0 (x.1, x.2.1, x.2.2.1, [], 0) := by
  have := okFog_iff.1 hx
  exact ⟨⟨by show 0 ≤ x.2.1 ∧ x.2.1 < x.2.2.1 ∧ x.2.2.1 ≤ 10000; omega, by simp, fun y hy => by simp at hy, fun y hy => by simp at hy, List.Pairwise.nil, fun y hy => by simp at hy, fun y hy => by simp at hy⟩, by simp⟩
theorem all_fogs {n : Nat} {x : GTower} (hx : okFog n x = true) {s : F5} (hk : s.1 = x.1) {l : List GTower} (h : FS n s.1 s.2.1 s.2.2.1 s.2.2.2.1 s.2.2.2.2 l) :
    (∀ y ∈ allFog s, okFog n y = true) ∧ (allFog s).Pairwise (fun a b => apart a b = true) ∧ (s.2.2.2.1 ++ [midFog s]).Perm (allFog s) := by
  obtain ⟨k, f, u, K, p⟩ := s
  simp only [allFog, midFog] at *
  have hx := okFog_iff.1 hx
  have hfu := h.fu
  have hK : K.take p ++ K.drop p = K := List.take_append_drop p K
  have hm : okFog n (k, f, u, ()) = true := okFog_iff.2 ⟨by simp only []; omega, by simp only []; omega, hfu.1, hfu.2.1, hfu.2.2⟩
  refine ⟨fun y hy => ?_, ?_, ?_⟩
  · simp only [List.mem_append, List.mem_cons] at hy
    rcases hy with hy | rfl | hy
    · exact h.ok y (List.mem_of_mem_take hy)
    · exact hm
    · exact h.ok y (List.mem_of_mem_drop hy)
  · have hp := h.pair
    rw [← hK, List.pairwise_append] at hp
    rw [List.pairwise_append, List.pairwise_cons]
    refine ⟨hp.1, ⟨fun b hb => apart_iff.2 ?_, hp.2.1⟩, fun a ha b hb => ?_⟩
    · have := h.hi b hb
      simp only []
      omega
    · rcases List.mem_cons.1 hb with rfl | hb
      · have := h.lo a ha
        rw [apart_iff]
        exact this
      · exact hp.2.2 a ha b hb
  · conv => lhs; rw [← hK]
    rw [List.append_assoc]
    exact (List.perm_append_comm (l₁ := K.drop p) (l₂ := [(k, f, u, ())])).append_left _
def addF (n : Nat) (l : List GTower) (x : GTower) : List GTower × Bool :=
  bif okFog n x then bif decide ((allFog (endFog l x)).length ≤ 60) then (allFog (endFog l x), true) else ([], false) else ([], false)
theorem end_fog {n : Nat} {l : List GTower} (hl : areFogs n l = true) {x : GTower} (hx : okFog n x = true) :
    IFog n l l.length (endFog l x) ∧ (endFog l x).1 = x.1 := by
  have h := (fold_loop (l := l) (f := fun (s : F5 × Int) => if h : 0 ≤ s.2 ∧ s.2.toNat < l.length then some (.inl (gFog s.1 (l[s.2.toNat]'h.2), s.2 + 1)) else some (.inr s.1)) Prod.mk gFog (fun s => s) (fun i s => IFog n l i s ∧ s.1 = x.1) (x.1, x.2.1, x.2.2.1, [], 0) ⟨FS.start hx l, rfl⟩ ?_ ?_).2
  · exact h
  · rintro s i z hz hi ⟨h1, h2⟩
    obtain ⟨hi', rfl⟩ := List.getElem?_eq_some_iff.1 hz
    refine ⟨?_, gFog_step hl hz h1, ?_⟩
    · have : (0 : Int) ≤ (i : Int) ∧ ((i : Int)).toNat < l.length := ⟨by omega, by simpa using hi⟩
      exact (dif_pos this).trans (by simp)
    · unfold gFog
      cases meets s.1 s.2.1 s.2.2.1 l[i] <;> exact h2
  · rintro s _
    have : ¬ ((0 : Int) ≤ (l.length : Int) ∧ ((l.length : Int)).toNat < l.length) := by simp
    simp only [this, dif_neg, not_false_eq_true]
theorem i_addFog {n : GNet} (hn : isNet n = true) {l : List GTower} (hl : areFogs n.2.1.length l = true) (x : GTower) : i_AddFog n l x = some (addF n.2.1.length l x) := by
  have hs := (net_small hn).fine
  obtain ⟨f1, f2, f3⟩ := fogs_iff.1 hl
  have hlm : l.length ≤ maxLen := by unfold maxLen; omega
  unfold i_AddFog addF
  simp only [i_isNet hs, hn, Option.bind_some, Bool.not_true, cond_false, i_areFogsX hs hlm, hl, i_fog hs x]
  cases hx : okFog n.2.1.length x with
  | false => rfl
  | true =>
    simp only [Bool.not_true, cond_false, cond_true]
    obtain ⟨⟨hF, hlen⟩, hk⟩ := end_fog hl hx
    obtain ⟨a1, a2, a3⟩ := all_fogs hx hk hF
    have hloop := (fold_loop (l := l) (f := (fun (st7 : Int × Int × Int × (List GTower) × Int) => (
 bif (decide (st7.2.2.2.2 < (l.length : Int))) then
 (idx l st7.2.2.2.2).bind fun e8 =>
 (bif (decide (e8.1 = st7.1)) then
 some (decide (e8.2.1 ≤ st7.2.2.1))
 else
 some false).bind fun c9 =>
 (bif c9 then
 some (decide (st7.2.1 ≤ e8.2.2.1))
 else
 some false).bind fun c10 =>
 bif c10 then
 some (.inl (st7.1, (bif decide (e8.2.1 < st7.2.1) then e8.2.1 else st7.2.1), (bif decide (st7.2.2.1 < e8.2.2.1) then e8.2.2.1 else st7.2.2.1), st7.2.2.2.1, (w64 (st7.2.2.2.2 + 1))))
 else
 bif decide (List.length st7.2.2.2.1 + List.length [e8] ≤ lim) then
 some (.inl (st7.1, st7.2.1, st7.2.2.1, (st7.2.2.2.1 ++ [e8]), (w64 (st7.2.2.2.2 + 1))))
 else
 none
 else
 some (.inr (st7.1, st7.2.1, st7.2.2.1, st7.2.2.2.1)) : Option ((Int × Int × Int × (List GTower) × Int) ⊕ ((Int × Int × Int × (List GTower)))))))
      (fun (s : F5) (i : Int) => (s.1, s.2.1, s.2.2.1, s.2.2.2.1, i)) gFog (fun (s : F5) => (s.1, s.2.1, s.2.2.1, s.2.2.2.1)) (fun i s => s.2.2.2.1.length ≤ i) (x.1, x.2.1, x.2.2.1, [], 0) (by simp) (fun s i z hz hi hI => by
        refine ⟨?_, ?_⟩
        · simp only [at_lt hi, cond_true, idx_get, hz, Option.bind_some, up hlm hi, min_eq, max_eq]
          have hm2 : ((bif decide (z.1 = s.1) then some (decide (z.2.1 ≤ s.2.2.1)) else some false).bind fun c9 => (bif c9 then some (decide (s.2.1 ≤ z.2.2.1)) else some false)) = some (meets s.1 s.2.1 s.2.2.1 z) := by
            unfold meets
            cases decide (z.1 = s.1) <;> cases decide (z.2.1 ≤ s.2.2.1) <;> rfl
          rw [← Option.bind_assoc, hm2, Option.bind_some]
          unfold gFog
          cases meets s.1 s.2.1 s.2.2.1 z with
          | true => rfl
          | false =>
            rw [lim_ok (by simp; omega)]
            rfl
        · unfold gFog
          cases meets s.1 s.2.1 s.2.2.1 z
          · simp; omega
          · show s.2.2.2.1.length ≤ _; omega) (fun s _ => by simp)).1
    refine bind_eq hloop ?_
    show (bif decide ((endFog l x).2.2.2.1.length + 1 ≤ lim) then (sortFogF ((endFog l x).2.2.2.1 ++ [midFog (endFog l x)])).bind _ else none) = _
    have hl1 : (endFog l x).2.2.2.1.length ≤ 60 := by omega
    have hal : (allFog (endFog l x)).length = (endFog l x).2.2.2.1.length + 1 := by have := a3.length_eq; simp only [List.length_append, List.length_singleton] at this; omega
    rw [lim_ok (by omega), cond_true, sort_fog a3 (a2.imp_of_mem fun ha hb h => by
      have h1 := apart_iff.1 h
      have h2 := okFog_iff.1 (a1 _ ha)
      unfold ltF lex
      omega) (by simp; omega)]
    simp only [Option.bind_some]
    by_cases h60 : (allFog (endFog l x)).length ≤ 60
    · rw [decide_eq_true h60, decide_eq_false (by omega)]; rfl
    · rw [decide_eq_false h60, decide_eq_true (by omega)]; rfl
theorem s_fgAdd_eq {n : Nat} {l : List GTower} (hl : areFogs n l = true) {x : GTower} (hx : okFog n x = true) : s_fgAdd l x = some (allFog (endFog l x)) := by
  obtain ⟨f1, f2, f3⟩ := fogs_iff.1 hl
  have hlm : l.length ≤ maxLen := by unfold maxLen; omega
  obtain ⟨⟨hF, hlen⟩, hk⟩ := end_fog hl hx
  have hple := hF.ple
  unfold s_fgAdd
  have hloop := (fold_loop (l := l) (f := (fun (st2 : Int × Int × Int × (List GTower) × Int × Int) => (
 bif (decide (st2.2.2.2.2.2 < (l.length : Int))) then
 (idx l st2.2.2.2.2.2).bind fun e3 =>
 (bif (decide (e3.1 = st2.1)) then
 some (decide (e3.2.1 ≤ st2.2.2.1))
 else
 some false).bind fun c4 =>
 (bif c4 then
 some (decide (st2.2.1 ≤ e3.2.2.1))
 else
 some false).bind fun c5 =>
 bif c5 then
 (s_l1Least st2.2.1 e3.2.1).bind fun r6 =>
 (s_l1Most st2.2.2.1 e3.2.2.1).bind fun r7 =>
 some (.inl (st2.1, r6, r7, st2.2.2.2.1, st2.2.2.2.2.1, (w64 (st2.2.2.2.2.2 + 1))))
 else
 bif decide (List.length st2.2.2.2.1 + List.length [e3] ≤ lim) then
 (bif (decide (e3.1 < st2.1)) then
 some true
 else
 (bif (decide (e3.1 = st2.1)) then
 some (decide (e3.2.1 < st2.2.1))
 else
 some false).bind fun c8 =>
 some c8).bind fun c9 =>
 bif c9 then
 some (.inl (st2.1, st2.2.1, st2.2.2.1, (st2.2.2.2.1 ++ [e3]), ((st2.2.2.2.1 ++ [e3]).length : Int), (w64 (st2.2.2.2.2.2 + 1))))
 else
 some (.inl (st2.1, st2.2.1, st2.2.2.1, (st2.2.2.2.1 ++ [e3]), st2.2.2.2.2.1, (w64 (st2.2.2.2.2.2 + 1))))
 else
 none
 else
 some (.inr (st2.1, st2.2.1, st2.2.2.1, st2.2.2.2.1, st2.2.2.2.2.1)) : Option ((Int × Int × Int × (List GTower) × Int × Int) ⊕ ((Int × Int × Int × (List GTower) × Int))))))
      (fun (s : F5) (i : Int) => (s.1, s.2.1, s.2.2.1, s.2.2.2.1, (s.2.2.2.2 : Int), i)) gFog (fun (s : F5) => (s.1, s.2.1, s.2.2.1, s.2.2.2.1, (s.2.2.2.2 : Int))) (fun i s => s.2.2.2.1.length ≤ i) (x.1, x.2.1, x.2.2.1, [], 0) (by simp) (fun s i z hz hi hI => by
        refine ⟨?_, ?_⟩
        · simp only [at_lt hi, cond_true, idx_get, hz, Option.bind_some, up hlm hi, least_eq, most_eq]
          have hm2 : ((bif decide (z.1 = s.1) then some (decide (z.2.1 ≤ s.2.2.1)) else some false).bind fun c9 => (bif c9 then some (decide (s.2.1 ≤ z.2.2.1)) else some false)) = some (meets s.1 s.2.1 s.2.2.1 z) := by
            unfold meets
            cases decide (z.1 = s.1) <;> cases decide (z.2.1 ≤ s.2.2.1) <;> rfl
          rw [← Option.bind_assoc, hm2, Option.bind_some]
          have ha : ((bif decide (z.1 < s.1) then some true else (bif decide (z.1 = s.1) then some (decide (z.2.1 < s.2.1)) else some false).bind fun c8 => some c8) : Option Bool) = some (ahead s.1 s.2.1 z) := by
            unfold ahead
            cases decide (z.1 < s.1) <;> cases decide (z.1 = s.1) <;> rfl
          rw [ha, Option.bind_some]
          unfold gFog
          cases meets s.1 s.2.1 s.2.2.1 z with
          | true => rfl
          | false =>
            rw [lim_ok (by simp; omega)]
            cases ahead s.1 s.2.1 z <;> rfl
        · unfold gFog
          cases meets s.1 s.2.1 s.2.2.1 z
          · simp; omega
          · show s.2.2.2.1.length ≤ _; omega) (fun s _ => by simp)).1
  refine bind_eq hloop ?_
  show (sub (endFog l x).2.2.2.1 0 ((endFog l x).2.2.2.2 : Int)).bind _ = _
  rw [sub_take hple, Option.bind_some]
  show (sub (endFog l x).2.2.2.1 ((endFog l x).2.2.2.2 : Int) ((endFog l x).2.2.2.1.length : Int)).bind _ = _
  rw [sub_drop hple, Option.bind_some]
  simp only [bothSame_self]
  rw [lim_ok (by simp; omega), cond_true, lim_ok (by simp; omega), cond_true, lim_ok (by simp; omega), cond_true]
  show some ((List.take (endFog l x).2.2.2.2 (endFog l x).2.2.2.1 ++ [midFog (endFog l x)]) ++ List.drop (endFog l x).2.2.2.2 (endFog l x).2.2.2.1) = some (allFog (endFog l x))
  unfold allFog
  rw [List.append_assoc]
  rfl
theorem s_addFog {n : GNet} (hn : isNet n = true) {l : List GTower} (hl : areFogs n.2.1.length l = true) (x : GTower) : s_AddFog n l x = some (addF n.2.1.length l x) := by
  have hs := (net_small hn).fine
  obtain ⟨f1, f2, f3⟩ := fogs_iff.1 hl
  have hlm : l.length ≤ maxLen := by unfold maxLen; omega
  unfold s_AddFog addF
  simp only [s_isNet hs, hn, Option.bind_some, Bool.not_true, cond_false, s_areFogs hs hlm, hl, s_fog hs x]
  cases hx : okFog n.2.1.length x with
  | false => rfl
  | true =>
    obtain ⟨⟨hF, hlen⟩, hk⟩ := end_fog hl hx
    obtain ⟨a1, a2, a3⟩ := all_fogs hx hk hF
    have hal : (allFog (endFog l x)).length = (endFog l x).2.2.2.1.length + 1 := by have := a3.length_eq; simp only [List.length_append, List.length_singleton] at this; omega
    have hag : areFogs n.2.1.length (allFog (endFog l x)) = decide ((allFog (endFog l x)).length ≤ 60) := by
      by_cases h : (allFog (endFog l x)).length ≤ 60
      · rw [decide_eq_true h]
        exact fogs_iff.2 ⟨a1, a2, h⟩
      · rw [decide_eq_false h]
        cases hf : areFogs n.2.1.length (allFog (endFog l x)) with
        | false => rfl
        | true => exact absurd (fogs_iff.1 hf).2.2 h
    simp only [Bool.not_true, cond_false, cond_true, s_fgAdd_eq hl hx, Option.bind_some]
    rw [s_areFogs hs (by unfold maxLen; omega), hag]
    simp only [Option.bind_some]
    cases decide ((allFog (endFog l x)).length ≤ 60) <;> rfl
theorem addF_ok {n : Nat} {l : List GTower} (hl : areFogs n l = true) {x : GTower} (h : (addF n l x).2 = true) : areFogs n (addF n l x).1 = true := by
  unfold addF at *
  cases hx : okFog n x with
  | false => rw [hx] at h; cases h
  | true =>
    obtain ⟨⟨hF, hlen⟩, hk⟩ := end_fog hl hx
    obtain ⟨a1, a2, a3⟩ := all_fogs hx hk hF
    rw [hx] at h
    by_cases h60 : (allFog (endFog l x)).length ≤ 60
    · rw [decide_eq_true h60]
      exact fogs_iff.2 ⟨a1, a2, h60⟩
    · rw [decide_eq_false h60] at h
      cases h
end Go.Proofs.YtkemmodgpafkmaaGreatDoor.Sh
namespace Go.Proofs.YtkemmodgpafkmaaGreatDoor.Sh
open Go Go.Ab Go.Proofs Go.Shelf Go.RowKit Go.Sort
def okS (x : GTower) : Bool := inB x.1 1 30 && (inB x.2.1 0 167 && inB x.2.2.1 (x.2.1 + 1) 168)
def befS (a b : GTower) : Bool := decide (a.2.1 < b.2.1) || (decide (a.2.1 = b.2.1) && decide (a.1 < b.1))
def clash (x y : GTower) : Bool := decide (y.1 = x.1) && decide (x.2.1 < y.2.2.1)
def freeS (l : List GTower) (i : Nat) : Bool := match l[i]? with
  | some x => (l.take i).all fun y => !clash x y
  | none => false
theorem freeS_eq {l : List GTower} {i : Nat} (hi : i < l.length) : freeS l i = (l.take i).all fun y => !clash l[i] y := by
  unfold freeS
  rw [List.getElem?_eq_getElem hi]
def shAt (l : List GTower) (i : Nat) : Bool := eachAt okS l i && (stepAt befS l i && freeS l i)
def areSh (l : List GTower) : Bool := (List.range l.length).all (shAt l) && decide ((l.length : Int) ≤ 60)
theorem s_befS (a b : GTower) : s_shBefore a b = some (befS a b) := by
  unfold s_shBefore befS
  cases decide (a.2.1 < b.2.1) <;> cases decide (a.2.1 = b.2.1) <;> rfl
theorem cmpShifts (a b : GTower) : ∃ r, i_compareShifts a b = some r ∧ decide (0 ≤ r) = !befS a b := by
  obtain ⟨r, h1, h2⟩ := cmpLinks (a.2.1, a.1, a.2.2) (b.2.1, b.1, b.2.2)
  exact ⟨r, h1, h2⟩
theorem contains_sh (l : List GTower) (hl : l.length ≤ maxLen) (x : GTower) : slices_ContainsFunc_Shift_284 l (x, ()) = some (!l.all fun y => !clash x y) := by
  unfold slices_ContainsFunc_Shift_284 slices_IndexFunc_Shift_284
  rw [find_loop (l := l) (clash x) ?_ ?_]
  · have hany : ∀ (l : List GTower) (k : Nat), (!l.all fun y => !clash x y) = (firstAt (clash x) l k).isSome := by
      intro l
      induction l with
      | nil => intro k; rfl
      | cons y l ih =>
        intro k
        simp only [List.all_cons, firstAt]
        rw [Bool.not_and, ih (k + 1)]
        cases clash x y <;> rfl
    rw [hany l 0]
    cases firstAt (clash x) l 0 with
    | none => rfl
    | some i => simp
  · intro i y hy hi
    simp only [idx_get, hy, Option.bind_some, at_lt hi, up hl hi, i_AreShifts_1, clash]
    cases decide (y.1 = x.1) <;> cases decide (x.2.1 < y.2.2.1) <;> rfl
  · simp
theorem i_okS (x : GTower) {β : Type} (k : Bool → Option β) : ((bif (!inB x.1 1 30) then some true else some (decide (x.2.1 < 0))).bind fun c5 => (bif c5 then some true else some (decide (x.2.2.1 ≤ x.2.1))).bind fun c6 => (bif c6 then some true else some (decide (168 < x.2.2.1))).bind k) = k (!okS x) := by
  unfold okS
  cases inB x.1 1 30 with
  | false => rfl
  | true =>
    simp only [Bool.not_true, cond_false, Bool.true_and, Option.bind_some]
    by_cases h1 : x.2.1 < 0
    · rw [decide_eq_true h1, show inB x.2.1 0 167 = false by unfold inB; simp; omega]; rfl
    · rw [decide_eq_false h1]
      simp only [cond_false, Option.bind_some]
      by_cases h2 : x.2.2.1 ≤ x.2.1
      · rw [decide_eq_true h2, show inB x.2.2.1 (x.2.1 + 1) 168 = false by unfold inB; simp; omega, Bool.and_false]; rfl
      · rw [decide_eq_false h2]
        simp only [cond_false, Option.bind_some]
        by_cases h3 : 168 < x.2.2.1
        · rw [decide_eq_true h3, show inB x.2.2.1 (x.2.1 + 1) 168 = false by unfold inB; simp; omega, Bool.and_false]; rfl
        · rw [decide_eq_false h3, show inB x.2.2.1 (x.2.1 + 1) 168 = true by unfold inB; simp; omega, show inB x.2.1 0 167 = true by unfold inB; simp; omega]; rfl
theorem i_areSh {l : List GTower} (hl : l.length ≤ maxLen) : i_AreShifts l = some (areSh l) := by
  unfold i_AreShifts areSh
  rw [not_lt 60]
  cases decide ((l.length : Int) ≤ 60) with
  | false => simp
  | true =>
  simp only [Bool.not_true, cond_false, Bool.and_true]
  rw [all_loop_at (n := l.length) (shAt l) false ?_ ?_]
  · cases (List.range l.length).all (shAt l) <;> rfl
  · intro i hi
    have hx : l[i]? = some l[i] := by simp [hi]
    simp only [idx_get, hx, Option.bind_some, at_lt hi, up hl hi, cond_true, within_eq, shAt, eachAt_eq hi, stepAt_eq hi, freeS_eq hi]
    rw [i_okS l[i]]
    cases okS l[i] with
    | false => rfl
    | true =>
      simp only [Bool.not_true, cond_false, Bool.true_and, sub_take (Nat.le_of_lt hi), contains_sh (l.take i) (by simp; omega) l[i], Option.bind_some]
      by_cases h0 : 0 < i
      · rw [show decide ((0 : Int) < (i : Int)) = true from decide_eq_true (by omega), prevI hl hi h0, show decide (i = 0) = false from decide_eq_false (by omega)]
        obtain ⟨r, h1, h2⟩ := cmpShifts (l[i - 1]'(by omega)) l[i]
        simp only [cond_true, Option.bind_some, h1, h2, Bool.false_or]
        cases befS (l[i - 1]'(by omega)) l[i] <;> cases (l.take i).all fun y => !clash l[i] y <;> rfl
      · rw [show decide ((0 : Int) < (i : Int)) = false from decide_eq_false (by omega), show decide (i = 0) = true from decide_eq_true (by omega)]
        simp only [cond_false, Option.bind_some, Bool.true_or, Bool.true_and]
        cases (l.take i).all fun y => !clash l[i] y <;> rfl
  · simp
theorem range_each (t : GTower → Bool) (l : List GTower) : (List.range l.length).all (eachAt t l) = l.all t := by
  rw [Bool.eq_iff_iff]
  simp only [List.all_eq_true, List.mem_range]
  constructor
  · intro h y hy
    obtain ⟨i, hi, rfl⟩ := List.getElem_of_mem hy
    have := h i hi
    rwa [eachAt_eq hi] at this
  · intro h i hi
    rw [eachAt_eq hi]
    exact h _ (List.getElem_mem hi)
theorem s_okS (x : GTower) {β : Type} (k : Bool → Option β) : ((bif (!inB x.1 1 30) then some true else some (!inB x.2.1 0 167)).bind fun c6 => (bif c6 then some true else some (!inB x.2.2.1 (w64 (x.2.1 + 1)) 168)).bind k) = k (!okS x) := by
  unfold okS
  cases inB x.1 1 30 with
  | false => rfl
  | true =>
    cases h : inB x.2.1 0 167 with
    | false => rfl
    | true =>
      unfold inB at h
      simp only [Bool.and_eq_true, decide_eq_true_eq] at h
      rw [w64_of (by omega) (by omega)]
      cases inB x.2.2.1 (x.2.1 + 1) 168 <;> rfl
theorem s_areSh {l : List GTower} (hl : l.length ≤ maxLen) : s_shGood l = some (areSh l) := by
  unfold s_shGood areSh
  rw [all_loop_at (n := l.length) (shAt l) false ?_ ?_]
  · cases (List.range l.length).all (shAt l) <;> rfl
  · intro i hi
    have hx : l[i]? = some l[i] := by simp [hi]
    simp only [idx_get, hx, Option.bind_some, at_lt hi, up hl hi, cond_true, l1In_eq, shAt, eachAt_eq hi, stepAt_eq hi, freeS_eq hi, s_shOperator, s_shHour]
    rw [s_okS l[i]]
    cases okS l[i] with
    | false => rfl
    | true =>
      have hin := all_loop_mk (n := (l.take i).length) (f := (fun (st15 : Int × Int × Int × Int) => (
 bif (decide (st15.2.2.2 < ((l.take i).length : Int))) then
 (idx (l.take i) st15.2.2.2).bind fun e16 =>
 (bif (decide (e16.1 = st15.1)) then
 some (decide (st15.2.1 < e16.2.2.1))
 else
 some false).bind fun c17 =>
 bif c17 then
 some (.inr (.inr false))
 else
 some (.inl (st15.1, st15.2.1, st15.2.2.1, (w64 (st15.2.2.2 + 1))))
 else
 some (.inr (.inl ())) : Option ((Int × Int × Int × Int) ⊕ (Unit ⊕ Bool))))) (fun j => (l[i].1, l[i].2.1, l[i].2.2.1, j)) (eachAt (fun y => !clash l[i] y) (l.take i)) (.inr false) (.inl ()) (fun j hj => by
          have hy : (l.take i)[j]? = some (l.take i)[j] := by rw [List.getElem?_eq_getElem hj]
          have hm : (l.take i).length ≤ maxLen := by simp; omega
          simp only [at_lt hj, cond_true, idx_get, hy, Option.bind_some, eachAt_eq hj, up hm hj, clash]
          cases decide ((l.take i)[j].1 = l[i].1) <;> cases decide (l[i].2.1 < (l.take i)[j].2.2.1) <;> rfl) (by simp)
      rw [range_each] at hin
      simp only [Bool.not_true, cond_false, Bool.true_and, sub_take (Nat.le_of_lt hi), Option.bind_some]
      by_cases h0 : 0 < i
      · rw [show decide ((0 : Int) < (i : Int)) = true from decide_eq_true (by omega), prevI hl hi h0, show decide (i = 0) = false from decide_eq_false (by omega)]
        simp only [cond_true, Option.bind_some, s_befS, Bool.false_or]
        cases befS (l[i - 1]'(by omega)) l[i] with
        | false => rfl
        | true =>
          simp only [Bool.not_true, cond_false, Bool.true_and]
          rw [hin]
          cases (l.take i).all fun y => !clash l[i] y <;> rfl
      · rw [show decide ((0 : Int) < (i : Int)) = false from decide_eq_false (by omega), show decide (i = 0) = true from decide_eq_true (by omega)]
        simp only [cond_false, Option.bind_some, Bool.true_or, Bool.true_and]
        rw [hin]
        cases (l.take i).all fun y => !clash l[i] y <;> rfl
  · simp
abbrev ltS (a b : GTower) : Prop := lex a.2.1 a.1 b.2.1 b.1
theorem befS_iff {a b : GTower} : befS a b = true ↔ ltS a b := by unfold befS ltS lex; simp
theorem ltS_irr (a b : GTower) (h : ltS a b) : ¬ ltS b a := by unfold ltS lex at *; omega
theorem areSh_pair {l : List GTower} (h : areSh l = true) : l.Pairwise ltS := by
  unfold areSh at h
  simp only [Bool.and_eq_true, List.all_eq_true, List.mem_range, decide_eq_true_eq] at h
  have st : ∀ (i : Nat) (hi : i + 1 < l.length), ltS (l[i]'(by omega)) l[i + 1] := fun i hi => by
    have := (h.1 (i + 1) hi)
    unfold shAt at this
    rw [stepAt_eq hi] at this
    simp only [Bool.and_eq_true] at this
    have := this.2.1
    simp at this
    exact befS_iff.1 this
  have far : ∀ (d i : Nat) (hi : i + d + 1 < l.length), ltS (l[i]'(by omega)) (l[i + d + 1]'hi) := by
    intro d
    induction d with
    | zero => intro i hi; exact st i hi
    | succ d ih =>
      intro i hi
      have h1 := ih i (by omega)
      have h2 := st (i + d + 1) (by omega)
      have e : l[i + (d + 1) + 1]'hi = l[i + d + 1 + 1]'(by omega) := rfl
      rw [e]
      unfold ltS lex at *
      omega
  rw [List.pairwise_iff_getElem]
  intro i j hi hj hij
  have := far (j - i - 1) i (by omega)
  have e : i + (j - i - 1) + 1 = j := by omega
  simpa only [e] using this
def downP (x : GTower) (L : List GTower) : Nat → Nat
  | 0 => 0
  | k + 1 => match L[k]? with
    | some y => bif befS x y then downP x L k else k + 1
    | none => k + 1
theorem downP_le (x : GTower) (L : List GTower) : ∀ k, downP x L k ≤ k
  | 0 => Nat.le_refl _
  | k + 1 => by
    unfold downP
    split
    · cases befS x _
      · exact Nat.le_refl _
      · exact Nat.le_succ_of_le (downP_le x L k)
    · exact Nat.le_refl _
theorem downP_hi (x : GTower) (L : List GTower) : ∀ (k : Nat), k ≤ L.length → ∀ (j : Nat) (hj : j < L.length), downP x L k ≤ j → j < k → befS x L[j] = true
  | 0, _, _, _, _, h => absurd h (Nat.not_lt_zero _)
  | k + 1, hk, j, hj, h1, h2 => by
    unfold downP at h1
    rw [List.getElem?_eq_getElem (by omega : k < L.length)] at h1
    simp only [] at h1
    cases hb : befS x (L[k]'(by omega)) with
    | false => rw [hb, cond_false] at h1; omega
    | true =>
      rw [hb, cond_true] at h1
      by_cases e : j = k
      · subst e; exact hb
      · exact downP_hi x L k (by omega) j hj h1 (by omega)
theorem downP_lo (x : GTower) (L : List GTower) : ∀ (k : Nat), k ≤ L.length → 0 < downP x L k → ∀ (hl : downP x L k - 1 < L.length), befS x (L[downP x L k - 1]'hl) = false
  | 0, _, h0, _ => absurd h0 (Nat.lt_irrefl _)
  | k + 1, hk, h0, hl => by
    have hlt : k < L.length := by omega
    cases hb : befS x (L[k]'hlt) with
    | true =>
      have e : downP x L (k + 1) = downP x L k := by
        show (match L[k]? with | some y => bif befS x y then downP x L k else k + 1 | none => k + 1) = _
        rw [List.getElem?_eq_getElem hlt]
        simp only [hb, cond_true]
      simp only [e] at h0 hl ⊢
      exact downP_lo x L k (by omega) h0 hl
    | false =>
      have e : downP x L (k + 1) = k + 1 := by
        show (match L[k]? with | some y => bif befS x y then downP x L k else k + 1 | none => k + 1) = _
        rw [List.getElem?_eq_getElem hlt]
        simp only [hb, cond_false]
      simp only [e, Nat.add_sub_cancel]
      exact hb
def insS (L : List GTower) (x : GTower) : List GTower := L.take (downP x L L.length) ++ x :: L.drop (downP x L L.length)
theorem insS_perm (L : List GTower) (x : GTower) : (insS L x).Perm (L ++ [x]) := by
  unfold insS
  have e := List.take_append_drop (downP x L L.length) L
  conv => rhs; rw [← e]
  rw [List.append_assoc]
  exact (List.perm_append_comm (l₁ := [x]) (l₂ := L.drop (downP x L L.length))).append_left _
theorem insS_pair {L : List GTower} (h : L.Pairwise fun a b => ¬ ltS b a) (x : GTower) : (insS L x).Pairwise fun a b => ¬ ltS b a := by
  unfold insS
  have hp := downP_le x L L.length
  have e := List.take_append_drop (downP x L L.length) L
  have h' := h
  rw [← e, List.pairwise_append] at h'
  rw [List.pairwise_append, List.pairwise_cons]
  refine ⟨h'.1, ⟨fun b hb => ?_, h'.2.1⟩, fun a ha b hb => ?_⟩
  · obtain ⟨j, hj, rfl⟩ := List.getElem_of_mem hb
    rw [List.length_drop] at hj
    rw [List.getElem_drop]
    exact ltS_irr _ _ (befS_iff.1 (downP_hi x L L.length (Nat.le_refl _) _ (by omega) (by omega) (by omega)))
  · rcases List.mem_cons.1 hb with rfl | hb
    · obtain ⟨j, hj, rfl⟩ := List.getElem_of_mem ha
      rw [List.length_take] at hj
      rw [List.getElem_take]
      have h0 : 0 < downP b L L.length := by omega
      have h1 : downP b L L.length - 1 < L.length := by omega
      have hlo := downP_lo b L L.length (Nat.le_refl _) h0 h1
      have hlo : ¬ ltS b (L[downP b L L.length - 1]'h1) := fun hx => by rw [befS_iff.2 hx] at hlo; cases hlo
      by_cases e1 : j = downP b L L.length - 1
      · subst e1; exact hlo
      · have hw := List.pairwise_iff_getElem.1 h j (downP b L L.length - 1) (by omega) h1 (by omega)
        intro hx
        unfold ltS lex at *
        omega
    · exact h'.2.2 a ha b hb
theorem ins_fold : ∀ (l acc : List GTower), acc.Pairwise (fun a b => ¬ ltS b a) → (l.foldl insS acc).Perm (acc ++ l) ∧ (l.foldl insS acc).Pairwise fun a b => ¬ ltS b a
  | [], acc, h => ⟨by simp, h⟩
  | x :: l, acc, h => by
    obtain ⟨h1, h2⟩ := ins_fold l (insS acc x) (insS_pair h x)
    refine ⟨h1.trans ?_, h2⟩
    have := (insS_perm acc x).append_right l
    simpa using this
theorem pdq_pairS (l : List GTower) : (pdqL cmpS l).Pairwise fun a b => ¬ ltS b a :=
  (pdq_pair swoS l).imp fun h => by
    unfold ltOf cmpS at h
    rw [decide_eq_false_iff_not, lt_or] at h
    exact h
def sortS (l : List GTower) : List GTower × Bool := bif areSh (l.foldl insS []) then (l.foldl insS [], true) else ([], false)
theorem sorts_same (l : List GTower) : (areSh (pdqL cmpS l) = areSh (l.foldl insS [])) ∧ (areSh (pdqL cmpS l) = true → pdqL cmpS l = l.foldl insS []) := by
  obtain ⟨p1, q1⟩ := ins_fold l [] List.Pairwise.nil
  have p2 := pdqL_perm swoS l
  have q2 := pdq_pairS l
  have hp : (pdqL cmpS l).Perm (l.foldl insS []) := p2.trans (by simpa using p1.symm)
  have one : areSh (pdqL cmpS l) = true → pdqL cmpS l = l.foldl insS [] := fun h => (sorted_is ltS_irr hp.symm q1 (areSh_pair h)).symm
  refine ⟨?_, one⟩
  cases h : areSh (pdqL cmpS l) with
  | true => rw [← one h, h]
  | false =>
    cases h2 : areSh (l.foldl insS []) with
    | false => rfl
    | true => rw [sorted_is ltS_irr hp q2 (areSh_pair h2), h2] at h; cases h
theorem i_sortS {l : List GTower} (hl : l.length ≤ 1048576) : sortedF l = some (sortS l) := by
  unfold sortedF sortS
  have hlen : (pdqL cmpS l).length = l.length := (pdqL_perm swoS l).length_eq
  rw [decide_eq_true (by omega), cond_true, i_areSh (by unfold maxLen; omega)]
  obtain ⟨h1, h2⟩ := sorts_same l
  rw [← h1]
  cases h : areSh (pdqL cmpS l) with
  | true => rw [← h2 h]; rfl
  | false => rfl
theorem s_down {L : List GTower} (hL : L.length ≤ 1048576) (x : GTower) {f : (List GTower) × Int × Int × Int × Int → Option (((List GTower) × Int × Int × Int × Int) ⊕ (((List GTower) × Int × Int × Int × Int)))}
    (hf : ∀ k : Nat, k < L.length → f (L, x.1, x.2.1, x.2.2.1, ((k + 1 : Nat) : Int)) = (match L[k]? with | some y => some (bif befS x y then .inl (L, x.1, x.2.1, x.2.2.1, (k : Int)) else .inr (L, x.1, x.2.1, x.2.2.1, ((k + 1 : Nat) : Int))) | none => none)) (h0 : f (L, x.1, x.2.1, x.2.2.1, 0) = some (.inr (L, x.1, x.2.1, x.2.2.1, 0))) :
    ∀ k : Nat, k ≤ L.length → loopE f (L, x.1, x.2.1, x.2.2.1, (k : Int)) = some (L, x.1, x.2.1, x.2.2.1, (downP x L k : Int))
  | 0, _ => loopE_done h0
  | k + 1, hk => by
    have hlt : k < L.length := by omega
    have h := hf k hlt
    rw [List.getElem?_eq_getElem hlt] at h
    simp only [] at h
    unfold downP
    rw [List.getElem?_eq_getElem hlt]
    simp only []
    cases hb : befS x (L[k]'hlt) with
    | true =>
      rw [hb] at h
      rw [loopE_step h, cond_true]
      exact s_down hL x hf h0 k (by omega)
    | false =>
      rw [hb] at h
      rw [loopE_done h, cond_false]
theorem s_sortS {l : List GTower} (hl : l.length ≤ 1048576) : s_shSort l = some (sortS l) := by
  have hlm : l.length ≤ maxLen := by unfold maxLen; omega
  unfold s_shSort
  have hloop := fold_loop (l := l) (f := (fun (st2 : (List GTower) × Int) => (
 bif (decide (st2.2 < (l.length : Int))) then
 (idx l st2.2).bind fun e3 =>
 (loopE (fun (st5 : (List GTower) × Int × Int × Int × Int) => (
 (bif (decide (0 < st5.2.2.2.2)) then
 bif decide (0 ≤ (w64 (st5.2.2.2.2 - 1))) && decide ((w64 (st5.2.2.2.2 - 1)) < (st5.1.length : Int)) then
 (st5.1[(Int.toNat (w64 (st5.2.2.2.2 - 1)))]?).bind fun e6 =>
 (s_shBefore (st5.2.1, st5.2.2.1, st5.2.2.2.1, ()) e6).bind fun r7 =>
 some r7
 else
 none
 else
 some false).bind fun c8 =>
 bif c8 then
 some (.inl (st5.1, st5.2.1, st5.2.2.1, st5.2.2.2.1, (w64 (st5.2.2.2.2 - 1))))
 else
 some (.inr (st5.1, st5.2.1, st5.2.2.1, st5.2.2.2.1, st5.2.2.2.2)) : Option (((List GTower) × Int × Int × Int × Int) ⊕ (((List GTower) × Int × Int × Int × Int))))) (st2.1, e3.1, e3.2.1, e3.2.2.1, (st2.1.length : Int))).bind fun o9 =>
 (sub o9.1 0 o9.2.2.2.2).bind fun l10 =>
 (sub o9.1 o9.2.2.2.2 (o9.1.length : Int)).bind fun l11 =>
 bif decide (List.length l10 ≤ lim) then
 bif decide (List.length l10 + List.length [((o9.2.1, o9.2.2.1, o9.2.2.2.1, ()) : GTower)] ≤ lim) then
 bif decide (List.length (l10 ++ [((o9.2.1, o9.2.2.1, o9.2.2.2.1, ()) : GTower)]) + List.length l11 ≤ lim) then
 some (.inl (((l10 ++ [((o9.2.1, o9.2.2.1, o9.2.2.2.1, ()) : GTower)]) ++ l11), (w64 (st2.2 + 1))))
 else
 none
 else
 none
 else
 none
 else
 some (.inr st2.1) : Option (((List GTower) × Int) ⊕ ((List GTower)))))) Prod.mk insS (fun s => s) (fun i s => s.length = i) [] rfl (fun s i x hx hi hI => by
      refine ⟨?_, by have := (insS_perm s x).length_eq; simp at this; omega⟩
      have hs : s.length ≤ 1048576 := by omega
      simp only [at_lt hi, cond_true, idx_get, hx, Option.bind_some, up hlm hi]
      have hle := downP_le x s s.length
      refine bind_eq (s_down hs x (fun k hk => ?_) ?_ s.length (Nat.le_refl _)) ?_
      · have e1 : w64 (((k + 1 : Nat) : Int) - 1) = (k : Int) := by rw [w64_of (by omega) (by omega)]; omega
        simp only [show decide ((0 : Int) < ((k + 1 : Nat) : Int)) = true from decide_eq_true (by omega), cond_true, e1, at_lt hk, show decide ((0 : Int) ≤ (k : Int)) = true from decide_eq_true (by omega), Bool.and_self, Int.toNat_natCast, List.getElem?_eq_getElem hk, Option.bind_some, s_befS]
        cases befS x s[k] <;> rfl
      · simp
      · simp only [sub_take hle, sub_drop hle, Option.bind_some]
        rw [lim_ok (by simp; omega), cond_true, lim_ok (by simp; omega), cond_true, lim_ok (by simp; omega), cond_true]
        unfold insS
        rw [List.append_assoc]
        rfl) (fun s _ => by simp)
  simp only [bothSame_self]
  refine bind_eq hloop.1 ?_
  have hlen : (l.foldl insS []).length = l.length := by have := (ins_fold l [] List.Pairwise.nil).1.length_eq; simpa using this
  rw [s_areSh (by omega)]
  unfold sortS
  cases areSh (l.foldl insS []) <;> rfl
end Go.Proofs.YtkemmodgpafkmaaGreatDoor.Sh
