/-
  ReadMessage, both ways the same.
-/
import Derived.Test.YtkemmodgpafkmaaGreatDoorSPY
namespace Go.Proofs.YtkemmodgpafkmaaGreatDoor.Sh.Q
open Go Go.Ab Go.Proofs
noncomputable def waysF (b : GBook) (s : List Int) (i : Int) : (List Int) × Int → Option (((List Int) × Int) ⊕ List Int) := fun st4 =>
 bif (decide (st4.2 < (b.1.length : Int))) then
 (idx b.1 st4.2).bind fun e5 =>
 (sub s i (s.length : Int)).bind fun l6 =>
 (s_bkBegins e5.2.1 l6).bind fun r7 =>
 bif r7 then
 bif decide (0 ≤ i) && decide (i < (st4.1.length : Int)) then
 (st4.1[(Int.toNat i)]?).bind fun e8 =>
 bif decide (0 ≤ (w64 (i + (e5.2.1.length : Int)))) && decide ((w64 (i + (e5.2.1.length : Int))) < (st4.1.length : Int)) then
 (st4.1[(Int.toNat (w64 (i + (e5.2.1.length : Int))))]?).bind fun e9 =>
 bif decide (0 ≤ i) && decide (i < (st4.1.length : Int)) then
 some (.inl ((st4.1.set (Int.toNat i) (w64 (e8 + e9))), (w64 (st4.2 + 1))))
 else
 none
 else
 none
 else
 none
 else
 some (.inl (st4.1, (w64 (st4.2 + 1))))
 else
 some (.inr st4.1)
noncomputable def waysG (b : GBook) (s : List Int) : (List Int) × Int → Option (((List Int) × Int) ⊕ List Int) := fun st2 =>
 bif (decide (0 ≤ st2.2)) then
 (loopE (waysF b s st2.2) (st2.1, 0)).bind fun o10 =>
 some (.inl (o10, (w64 (st2.2 - 1))))
 else
 some (.inr st2.1)
theorem ways_def (b : GBook) (s : List Int) : s_spWays b s = bif decide (0 ≤ (w64 ((s.length : Int) + 1))) && decide ((w64 ((s.length : Int) + 1)) ≤ (w64 ((s.length : Int) + 1))) && decide ((w64 ((s.length : Int) + 1)) ≤ lim) then
 bif decide (0 ≤ (s.length : Int)) && decide ((s.length : Int) < ((List.replicate (Int.toNat (w64 ((s.length : Int) + 1))) (0 : Int)).length : Int)) then
 (loopE (waysG b s) (((List.replicate (Int.toNat (w64 ((s.length : Int) + 1))) (0 : Int)).set (Int.toNat (s.length : Int)) 1), (w64 ((s.length : Int) - 1)))).bind fun o11 =>
 some o11
 else
 none
 else
 none := rfl
structure WOk (b : GBook) (s : List Int) (i : Nat) (W : List Int) : Prop where
  len : W.length = s.length + 1
  val : ∀ k, i ≤ k → k ≤ s.length → ∃ v, W[k]? = some v ∧ 0 ≤ v ∧ v ≤ ((3 ^ (s.length - k) : Nat) : Int) ∧ (0 < v → k < s.length → ∃ x ∈ b.1, beg x.2.1 (s.drop k) = true ∧ ∃ u, W[k + x.2.1.length]? = some u ∧ 0 < u)
theorem pow_le {k : Nat} (h : k ≤ 20) : 3 ^ k ≤ 3486784401 := Nat.le_trans (Nat.pow_le_pow_right (by omega) h) (by decide)
theorem ways_in {b : GBook} (hb : isBook b = true) {s : List Int} (hs : s.length ≤ 20) {i : Nat} (hi : i < s.length) {W : List Int} (hW : WOk b s (i + 1) W) :
    ∀ (r pre : List GPhrase) (v : Int), b.1 = pre ++ r → 0 ≤ v → v ≤ ((3 ^ (s.length - (i + 1)) : Nat) : Int) * (pre.countP (fun x => beg x.2.1 (s.drop i)) : Nat) →
      (0 < v → ∃ x ∈ b.1, beg x.2.1 (s.drop i) = true ∧ ∃ u, W[i + x.2.1.length]? = some u ∧ 0 < u) →
      ∃ v', loopE (waysF b s (i : Int)) (W.set i v, (pre.length : Int)) = some (W.set i v') ∧ 0 ≤ v' ∧ v' ≤ ((3 ^ (s.length - (i + 1)) : Nat) : Int) * (b.1.countP (fun x => beg x.2.1 (s.drop i)) : Nat) ∧
        (0 < v' → ∃ x ∈ b.1, beg x.2.1 (s.drop i) = true ∧ ∃ u, W[i + x.2.1.length]? = some u ∧ 0 < u)
  | [], pre, v, e, h0, h1, h2 => by
    rw [List.append_nil] at e
    subst e
    refine ⟨v, loopE_done ?_, h0, h1, h2⟩
    unfold waysF
    rw [decide_eq_false (by show ¬ ((b.1.length : Int) < (b.1.length : Int)); omega)]
    rfl
  | x :: r, pre, v, e, h0, h1, h2 => by
    have hB := pow_le (k := s.length - (i + 1)) (by omega)
    have hl := book_len hb
    have hp : pre.length < b.1.length := by rw [e]; simp
    have hlm : b.1.length ≤ maxLen := by unfold maxLen; omega
    have hx : b.1[pre.length]? = some x := by rw [e]; simp
    have hxm : x ∈ b.1 := List.mem_of_getElem? hx
    have hxs := sigs_in hb x hxm
    have hxl : x.2.1.length ≤ maxLen := by unfold maxLen; omega
    have hWl := hW.len
    have hsub : sub s (i : Int) (s.length : Int) = some (s.drop i) := sub_all (Nat.le_of_lt hi)
    have hcle : pre.countP (fun x => beg x.2.1 (s.drop i)) ≤ 3 := by
      have h3 := hits_le hb (s.drop i)
      rw [e, List.countP_append] at h3
      omega
    have hv : v ≤ 10460353203 := by
      generalize 3 ^ (s.length - (i + 1)) = B at *
      generalize pre.countP (fun x => beg x.2.1 (s.drop i)) = c at *
      have : (B : Int) * (c : Int) ≤ 3486784401 * 3 := Int.mul_le_mul (by omega) (by omega) (by omega) (by omega)
      omega
    have ih := fun v' => ways_in hb hs hi hW r (pre ++ [x]) v' (by rw [e]; simp)
    have hlen1 : ((pre ++ [x]).length : Int) = (pre.length : Int) + 1 := by simp
    simp only [hlen1, List.countP_append, List.countP_cons, List.countP_nil] at ih
    have g1 : (decide ((0 : Int) ≤ (i : Int)) && decide ((i : Int) < ((W.set i v).length : Int))) = true := by simp; omega
    have g2 : (W.set i v)[i]? = some v := by rw [List.getElem?_set_self (by omega)]
    cases hh : beg x.2.1 (s.drop i) with
    | false =>
      rw [hh] at ih
      rw [loopE_step (a' := (W.set i v, (pre.length : Int) + 1)) ?_]
      · exact ih v h0 (by simpa using h1) h2
      · unfold waysF
        simp only [at_lt hp, cond_true, idx_get, hx, Option.bind_some, hsub, s_beg hxl, hh, cond_false, up hlm hp]
    | true =>
      rw [hh] at ih
      have hbl := beg_len hh
      rw [List.length_drop] at hbl
      obtain ⟨u, q1, q2, q3, q4⟩ := hW.val (i + x.2.1.length) (by omega) (by omega)
      have hpw : 3 ^ (s.length - (i + x.2.1.length)) ≤ 3 ^ (s.length - (i + 1)) := Nat.pow_le_pow_right (by omega) (by omega)
      have ew : w64 ((i : Int) + (x.2.1.length : Int)) = ((i + x.2.1.length : Nat) : Int) := by rw [w64_of (by omega) (by omega)]; omega
      have g3 : (decide ((0 : Int) ≤ ((i + x.2.1.length : Nat) : Int)) && decide (((i + x.2.1.length : Nat) : Int) < ((W.set i v).length : Int))) = true := by simp; omega
      have g4 : (W.set i v)[i + x.2.1.length]? = some u := by rw [List.getElem?_set_ne (by omega)]; exact q1
      rw [loopE_step (a' := (W.set i (v + u), (pre.length : Int) + 1)) ?_]
      · refine ih (v + u) (by omega) ?_ fun hpos => ?_
        · generalize 3 ^ (s.length - (i + 1)) = B at *
          generalize pre.countP (fun x => beg x.2.1 (s.drop i)) = c at *
          have : (B : Int) * ((c + (0 + if true = true then 1 else 0) : Nat) : Int) = (B : Int) * (c : Int) + B := by
            simp only [if_true, Nat.zero_add, Int.natCast_add, Int.mul_add]
            omega
          rw [this]
          omega
        · by_cases hv0 : 0 < v
          · exact h2 hv0
          · exact ⟨x, hxm, hh, u, q1, by omega⟩
      · unfold waysF
        simp only [at_lt hp, cond_true, idx_get, hx, Option.bind_some, hsub, s_beg hxl, hh, ew, g1, g3, Int.toNat_natCast, g2, g4, up hlm hp, List.set_set]
        rw [w64_of (by omega) (by omega)]
theorem ways_out {b : GBook} (hb : isBook b = true) {s : List Int} (hs : s.length ≤ 20) : ∀ (i : Nat) (W : List Int), i ≤ s.length → WOk b s i W → (∀ k, k < i → W[k]? = some 0) → ∃ W', loopE (waysG b s) (W, (i : Int) - 1) = some W' ∧ WOk b s 0 W'
  | 0, W, _, hW, _ => ⟨W, loopE_done rfl, hW⟩
  | i + 1, W, hi, hW, hz => by
    have h0 := hz i (by omega)
    have hWl := hW.len
    have e0 : W.set i 0 = W := by
      refine List.ext_getElem? fun k => ?_
      rw [List.getElem?_set]
      by_cases e : i = k
      · subst e; rw [if_pos rfl, if_pos (by omega), h0]
      · rw [if_neg e]
    obtain ⟨v', k1, k2, k3, k4⟩ := ways_in hb hs hi hW b.1 [] 0 rfl (Int.le_refl _) (by simp) (fun h => absurd h (by omega))
    rw [e0] at k1
    have hc := hits_le hb (s.drop i)
    have hW' : WOk b s i (W.set i v') := by
      refine ⟨by rw [List.length_set]; exact hWl, fun k hk1 hk2 => ?_⟩
      by_cases e : i = k
      · subst e
        refine ⟨v', by rw [List.getElem?_set_self (by omega)], k2, ?_, fun hp _ => ?_⟩
        · have e3 : s.length - i = (s.length - (i + 1)) + 1 := by omega
          rw [e3, Nat.pow_succ]
          generalize 3 ^ (s.length - (i + 1)) = B at *
          generalize b.1.countP (fun x => beg x.2.1 (s.drop i)) = c at *
          have : (B : Int) * (c : Int) ≤ (B : Int) * 3 := Int.mul_le_mul_of_nonneg_left (by omega) (by omega)
          rw [Int.natCast_mul]
          omega
        · obtain ⟨x, x1, x2, u, x3, x4⟩ := k4 hp
          have := sigs_in hb x x1
          exact ⟨x, x1, x2, u, by rw [List.getElem?_set_ne (by omega)]; exact x3, x4⟩
      · obtain ⟨v, q1, q2, q3, q4⟩ := hW.val k (by omega) hk2
        refine ⟨v, by rw [List.getElem?_set_ne e]; exact q1, q2, q3, fun hp hk => ?_⟩
        obtain ⟨x, x1, x2, u, x3, x4⟩ := q4 hp hk
        exact ⟨x, x1, x2, u, by rw [List.getElem?_set_ne (by omega)]; exact x3, x4⟩
    obtain ⟨W', m1, m2⟩ := ways_out hb hs i (W.set i v') (by omega) hW' (fun k hk => by rw [List.getElem?_set_ne (by omega)]; exact hz k (by omega))
    refine ⟨W', ?_, m2⟩
    rw [show ((i + 1 : Nat) : Int) - 1 = (i : Int) by omega, loopE_step (a' := (W.set i v', (i : Int) - 1)) ?_]
    · exact m1
    · unfold waysG
      rw [show (([] : List GPhrase).length : Int) = 0 from rfl] at k1
      simp only [decide_eq_true (show (0 : Int) ≤ (i : Int) by omega), cond_true, k1, Option.bind_some]
      rw [w64_of (by omega) (by omega)]
theorem ways_ok {b : GBook} (hb : isBook b = true) {s : List Int} (hs : s.length ≤ 20) : ∃ W, s_spWays b s = some W ∧ WOk b s 0 W := by
  have hlim : (lim : Int) = 4294967296 := rfl
  obtain ⟨W', m1, m2⟩ := ways_out hb hs s.length ((List.replicate (s.length + 1) 0).set s.length 1) (Nat.le_refl _) ⟨by simp, fun k h1 h2 => by
    obtain rfl : k = s.length := by omega
    refine ⟨1, by rw [List.getElem?_set_self (by simp)], by omega, by simp, fun _ h => absurd h (by omega)⟩⟩ (fun k hk => by rw [List.getElem?_set_ne (by omega), List.getElem?_replicate, if_pos (by omega)])
  refine ⟨W', ?_, m2⟩
  rw [ways_def, w64_of (x := (s.length : Int) + 1) (by omega) (by omega), show Int.toNat ((s.length : Int) + 1) = s.length + 1 by omega]
  rw [show (decide (0 ≤ (s.length : Int) + 1) && decide ((s.length : Int) + 1 ≤ (s.length : Int) + 1) && decide ((s.length : Int) + 1 ≤ lim)) = true by simp; omega, cond_true]
  rw [show (decide (0 ≤ (s.length : Int)) && decide ((s.length : Int) < ((List.replicate (s.length + 1) (0 : Int)).length : Int))) = true by simp; omega, cond_true, Int.toNat_natCast, w64_of (by omega) (by omega), m1]
  rfl
def goesOn (s W : List Int) (i : Nat) (x : GPhrase) : Bool := beg x.2.1 (s.drop i) && decide (0 < W.getD (i + x.2.1.length) 0)
theorem getD_of {W : List Int} {k : Nat} {v : Int} (h : W[k]? = some v) : W.getD k 0 = v := by rw [List.getD_eq_getElem?_getD, h]; rfl
theorem goes_first {b : GBook} {s W : List Int} (hW : WOk b s 0 W) {i : Nat} {v : Int} (hi : i < s.length) (hv : W[i]? = some v) (h0 : 0 < v) :
    ∃ (j : Nat) (x : GPhrase) (u : Int), firstAt (goesOn s W i) b.1 0 = some j ∧ b.1[j]? = some x ∧ i + x.2.1.length ≤ s.length ∧ W[i + x.2.1.length]? = some u ∧ 0 < u := by
  obtain ⟨v', q1, _, _, q4⟩ := hW.val i (by omega) (by omega)
  rw [hv] at q1
  cases q1
  obtain ⟨x, x1, x2, u, x3, x4⟩ := q4 h0 hi
  have hg : goesOn s W i x = true := by unfold goesOn; rw [x2, getD_of x3, decide_eq_true x4]; rfl
  obtain ⟨j, hj⟩ := firstAt_some (t := goesOn s W i) 0 x1 hg
  obtain ⟨y, y1, _, y3⟩ := firstAt_get _ _ _ hj
  rw [Nat.sub_zero] at y1
  unfold goesOn at y3
  simp only [Bool.and_eq_true, decide_eq_true_eq] at y3
  have hbl := beg_len y3.1
  rw [List.length_drop] at hbl
  obtain ⟨z, z1, _, _, _⟩ := hW.val (i + y.2.1.length) (by omega) (by omega)
  have := y3.2
  rw [getD_of z1] at this
  exact ⟨j, y, z, hj, y1, by omega, z1, this⟩
theorem index_i {b : GBook} (hb : isBook b = true) {s W : List Int} (hs : s.length ≤ 20) (hW : WOk b s 0 W) {i : Nat} (hi : i < s.length) :
    slices_IndexFunc_Phrase_264 b.1 (s, (i : Int), W, ()) = some (match firstAt (goesOn s W i) b.1 0 with | some j => (j : Int) | none => -1) := by
  have hl := book_len hb
  have hWl := hW.len
  unfold slices_IndexFunc_Phrase_264
  rw [find_loop (l := b.1) (goesOn s W i) ?_ ?_]
  · cases firstAt (goesOn s W i) b.1 0 <;> rfl
  · intro j x hx hj
    have hxs := sigs_in hb x (List.mem_of_getElem? hx)
    have hxl : x.2.1.length ≤ maxLen := by unfold maxLen; omega
    have hsub : sub s (i : Int) (s.length : Int) = some (s.drop i) := sub_all (Nat.le_of_lt hi)
    simp only [idx_get, hx, Option.bind_some, at_lt hj, up (show b.1.length ≤ maxLen by unfold maxLen; omega) hj, cond_true, i_firstReading_1, hsub, begins_same hxl, s_beg hxl]
    unfold goesOn
    cases hh : beg x.2.1 (s.drop i) with
    | false => rfl
    | true =>
      have hbl := beg_len hh
      rw [List.length_drop] at hbl
      obtain ⟨u, q1, _, _, _⟩ := hW.val (i + x.2.1.length) (by omega) (by omega)
      rw [getD_of q1]
      have ew : w64 ((i : Int) + (x.2.1.length : Int)) = ((i + x.2.1.length : Nat) : Int) := by rw [w64_of (by omega) (by omega)]; omega
      rw [ew]
      simp only [cond_true, idx_get, q1, Option.bind_some, Bool.true_and]
      cases decide (0 < u) <;> rfl
  · simp
noncomputable def decF (b : GBook) (s : List Int) (i : Int) : (List Int) × (List Int) × Int × Int → Option (((List Int) × (List Int) × Int × Int) ⊕ (((List Int) × (List Int) × Int))) := fun st6 =>
 bif (decide (st6.2.2.2 < (b.1.length : Int))) then
 (idx b.1 st6.2.2.2).bind fun e7 =>
 (bif (decide (st6.2.2.1 < 0)) then
 (sub s i (s.length : Int)).bind fun l8 =>
 (s_bkBegins e7.2.1 l8).bind fun r9 =>
 some r9
 else
 some false).bind fun c10 =>
 (bif c10 then
 bif decide (0 ≤ (w64 (i + (e7.2.1.length : Int)))) && decide ((w64 (i + (e7.2.1.length : Int))) < (st6.1.length : Int)) then
 (st6.1[(Int.toNat (w64 (i + (e7.2.1.length : Int))))]?).bind fun e11 =>
 some (decide (0 < e11))
 else
 none
 else
 some false).bind fun c12 =>
 bif c12 then
 some (.inl (st6.1, st6.2.1, st6.2.2.2, (w64 (st6.2.2.2 + 1))))
 else
 some (.inl (st6.1, st6.2.1, st6.2.2.1, (w64 (st6.2.2.2 + 1))))
 else
 some (.inr (st6.1, st6.2.1, st6.2.2.1))
theorem index_s {b : GBook} (hb : isBook b = true) {s W acc : List Int} (hs : s.length ≤ 20) (hW : WOk b s 0 W) {i : Nat} (hi : i < s.length) {J : Nat} (hJ : firstAt (goesOn s W i) b.1 0 = some J) :
    ∀ (d k : Nat), k + d = b.1.length → loopE (decF b s (i : Int)) (W, acc, (if k ≤ J then -1 else (J : Int)), (k : Int)) = some (W, acc, (J : Int))
  | 0, k, hk => by
    have := firstAt_lt _ _ _ _ hJ
    rw [if_neg (by omega)]
    refine loopE_done ?_
    unfold decF
    rw [decide_eq_false (by show ¬ ((k : Int) < (b.1.length : Int)); omega)]
    rfl
  | d + 1, k, hk => by
    have hl := book_len hb
    have hlt : k < b.1.length := by omega
    obtain ⟨y, hy⟩ : ∃ y, b.1[k]? = some y := ⟨_, List.getElem?_eq_getElem hlt⟩
    have hys := sigs_in hb y (List.mem_of_getElem? hy)
    have hyl : y.2.1.length ≤ maxLen := by unfold maxLen; omega
    have ih := index_s (acc := acc) hb hs hW hi hJ d (k + 1) (by omega)
    have hsub : sub s (i : Int) (s.length : Int) = some (s.drop i) := sub_all (Nat.le_of_lt hi)
    have hk1 : w64 ((k : Int) + 1) = ((k + 1 : Nat) : Int) := by rw [up (show b.1.length ≤ maxLen by unfold maxLen; omega) hlt]; omega
    have hWl := hW.len
    have hat : (k = J → goesOn s W i y = true) ∧ (k < J → goesOn s W i y = false) := by
      refine ⟨fun e => ?_, fun h => ?_⟩
      · subst e
        obtain ⟨z, z1, _, z3⟩ := firstAt_get _ _ _ hJ
        rw [Nat.sub_zero, hy] at z1
        cases z1
        exact z3
      · obtain ⟨z, z1, _, z3⟩ := firstAt_get _ _ _ hJ
        rw [Nat.sub_zero] at z1
        have hn := (firstAt_take (goesOn s W i) b.1 J 0 z z1 z3).1 (by rw [Nat.zero_add]; exact hJ)
        exact firstAt_no hn y (by
          refine List.mem_of_getElem? (i := k) ?_
          rw [List.getElem?_take_of_lt h]
          exact hy)
    rw [loopE_step (a' := (W, acc, (if k + 1 ≤ J then -1 else (J : Int)), ((k + 1 : Nat) : Int))) ?_]
    · exact ih
    · unfold decF
      simp only [decide_eq_true (show (k : Int) < (b.1.length : Int) by omega), cond_true, idx_get, hy, Option.bind_some, hk1]
      by_cases hkJ : k ≤ J
      · rw [if_pos hkJ]
        simp only [show decide ((-1 : Int) < 0) = true from rfl, cond_true, hsub, s_beg hyl, Option.bind_some]
        have hgd : goesOn s W i y = decide (k = J) := by
          by_cases e : k = J
          · rw [decide_eq_true e]; exact hat.1 e
          · rw [decide_eq_false e]; exact hat.2 (by omega)
        unfold goesOn at hgd
        cases hh : beg y.2.1 (s.drop i) with
        | false =>
          rw [hh] at hgd
          simp only [Bool.false_and] at hgd
          have : ¬ k = J := of_decide_eq_false hgd.symm
          rw [if_pos (by omega)]
          rfl
        | true =>
          have hbl := beg_len hh
          rw [List.length_drop] at hbl
          obtain ⟨u, q1, _, _, _⟩ := hW.val (i + y.2.1.length) (by omega) (by omega)
          rw [hh, getD_of q1, Bool.true_and] at hgd
          have ew : w64 ((i : Int) + (y.2.1.length : Int)) = ((i + y.2.1.length : Nat) : Int) := by rw [w64_of (by omega) (by omega)]; omega
          have g3 : (decide ((0 : Int) ≤ ((i + y.2.1.length : Nat) : Int)) && decide (((i + y.2.1.length : Nat) : Int) < (W.length : Int))) = true := by simp; omega
          simp only [cond_true, ew, g3, Int.toNat_natCast, q1, Option.bind_some, hgd]
          by_cases e : k = J
          · rw [decide_eq_true e, if_neg (by omega), e]
            rfl
          · rw [decide_eq_false e, if_pos (by omega)]
            rfl
      · rw [if_neg hkJ, if_neg (by omega)]
        simp only [show decide ((J : Int) < 0) = false from decide_eq_false (by omega), cond_false, Option.bind_some]
end Go.Proofs.YtkemmodgpafkmaaGreatDoor.Sh.Q
namespace Go.Proofs.YtkemmodgpafkmaaGreatDoor.Sh.Q
open Go Go.Ab Go.Proofs
noncomputable def firF (b : GBook) (s W : List Int) : (List Int) × Int → Option (((List Int) × Int) ⊕ List Int) := fun st4 =>
 bif (decide (st4.2 < (s.length : Int))) then
 (slices_IndexFunc_Phrase_264 b.1 (s, st4.2, W, ())).bind fun r5 =>
 bif decide (List.length st4.1 + List.length [r5] ≤ lim) then
 (idx b.1 r5).bind fun e6 =>
 some (.inl ((st4.1 ++ [r5]), (w64 (st4.2 + (e6.2.1.length : Int)))))
 else
 none
 else
 some (.inr st4.1)
noncomputable def decG (b : GBook) (s : List Int) : (List Int) × (List Int) × Int → Option (((List Int) × (List Int) × Int) ⊕ List Int) := fun st4 =>
 bif (decide (st4.2.2 < (s.length : Int))) then
 (loopE (decF b s st4.2.2) (st4.1, st4.2.1, (-1), 0)).bind fun o13 =>
 bif decide (List.length o13.2.1 + List.length [o13.2.2] ≤ lim) then
 (idx b.1 o13.2.2).bind fun e14 =>
 some (.inl (o13.1, (o13.2.1 ++ [o13.2.2]), (w64 (st4.2.2 + (e14.2.1.length : Int)))))
 else
 none
 else
 some (.inr st4.2.1)
theorem decode_def (b : GBook) (s : List Int) : s_spDecode b s = (s_spWays b s).bind fun r1 =>
 bif decide (0 ≤ 0) && decide (0 < (r1.length : Int)) then
 (r1[(Int.toNat 0)]?).bind fun e2 =>
 bif (decide (e2 = 0)) then
 some ([], false)
 else
 (loopE (decG b s) (r1, [], 0)).bind fun o15 =>
 some (o15, true)
 else
 none := rfl
theorem first_def (b : GBook) (s : List Int) : i_firstReading b s = (i_readings b s).bind fun r1 =>
 bif decide (0 ≤ 0) && decide (0 < (r1.length : Int)) then
 (r1[(Int.toNat 0)]?).bind fun e2 =>
 bif (decide (e2 = 0)) then
 some ([], false)
 else
 (loopE (firF b s r1) ([], 0)).bind fun o7 =>
 some (o7, true)
 else
 none := rfl
theorem lists_same {b : GBook} (hb : isBook b = true) {s W : List Int} (hs : s.length ≤ 20) (hW : WOk b s 0 W) : ∀ (d i : Nat) (v : Int) (acc : List Int), s.length ≤ i + d → i ≤ s.length → W[i]? = some v → 0 < v → acc.length ≤ i →
    ∃ L, loopE (firF b s W) (acc, (i : Int)) = some (acc ++ L) ∧ loopE (decG b s) (W, acc, (i : Int)) = some (acc ++ L) ∧ (∀ j ∈ L, 0 ≤ j ∧ j < (b.1.length : Int)) ∧ L.length + i ≤ s.length
  | 0, i, v, acc, hd, hi, hv, h0, ha => by
    have dn : decide ((i : Int) < (s.length : Int)) = false := decide_eq_false (by omega)
    refine ⟨[], loopE_done ?_, loopE_done ?_, fun _ h => (nomatch h), by simp; omega⟩
    · unfold firF
      rw [dn, List.append_nil]
      rfl
    · unfold decG
      rw [dn, List.append_nil]
      rfl
  | d + 1, i, v, acc, hd, hi, hv, h0, ha => by
    by_cases hlt : i < s.length
    · obtain ⟨j, x, u, q1, q2, q3, q4, q5⟩ := goes_first hW hlt hv h0
      have hxs := sigs_in hb x (List.mem_of_getElem? q2)
      have hj := (List.getElem?_eq_some_iff.1 q2).1
      obtain ⟨L, k1, k2, k3, k4⟩ := lists_same hb hs hW d (i + x.2.1.length) u (acc ++ [(j : Int)]) (by omega) q3 q4 q5 (by simp; omega)
      have dn : decide ((i : Int) < (s.length : Int)) = true := decide_eq_true (by omega)
      have ew : w64 ((i : Int) + (x.2.1.length : Int)) = ((i + x.2.1.length : Nat) : Int) := by rw [w64_of (by omega) (by omega)]; omega
      refine ⟨(j : Int) :: L, ?_, ?_, fun z hz => ?_, by simp; omega⟩
      · rw [loopE_step (a' := (acc ++ [(j : Int)], ((i + x.2.1.length : Nat) : Int))) ?_, k1]
        · simp
        · unfold firF
          simp only [dn, cond_true, index_i hb hs hW hlt, q1, Option.bind_some, idx_get, q2, ew]
          rw [lim_ok (by simp; omega)]
          rfl
      · rw [loopE_step (a' := (W, acc ++ [(j : Int)], ((i + x.2.1.length : Nat) : Int))) ?_, k2]
        · simp
        · have hin := index_s (acc := acc) hb hs hW hlt q1 b.1.length 0 (by omega)
          rw [if_pos (Nat.zero_le _), show ((0 : Nat) : Int) = 0 from rfl] at hin
          unfold decG
          simp only [dn, cond_true, hin, Option.bind_some, idx_get, q2, ew]
          rw [lim_ok (by simp; omega)]
          rfl
      · rcases List.mem_cons.1 hz with rfl | hz
        · omega
        · exact k3 z hz
    · exact lists_same hb hs hW 0 i v acc (by omega) hi hv h0 ha
theorem text_le {b : GBook} (hb : isBook b = true) : ∀ x ∈ b.1, x.1.length ≤ 12 := fun x hx => by
  have := good_mem hb hx
  simp only [isText, Bool.and_eq_true, decide_eq_true_eq] at this
  omega
theorem phr_at {ps : List GPhrase} {k : Nat} {x : GPhrase} (h : ps[k]? = some x) : phr ps (k : Int) = x.1 := by
  unfold phr
  rw [Int.toNat_natCast, h]
  rfl
theorem textV_len {b : GBook} (hb : isBook b = true) : ∀ L : List Int, (textV b.1 L).length ≤ 12 * L.length
  | [] => Nat.le_refl _
  | j :: L => by
    have ih := textV_len hb L
    have : (phr b.1 j).length ≤ 12 := by
      unfold phr
      cases h : b.1[j.toNat]? with
      | none => simp
      | some x => exact text_le hb x (List.mem_of_getElem? h)
    show (List.flatMap (phr b.1) (j :: L)).length ≤ _
    rw [List.flatMap_cons, List.length_append, List.length_cons]
    have e : (List.flatMap (phr b.1) L).length = (textV b.1 L).length := rfl
    omega
theorem s_textV {b : GBook} (hb : isBook b = true) {L : List Int} (hL : L.length ≤ 1000) (hin : ∀ j ∈ L, 0 ≤ j ∧ j < (b.1.length : Int)) : s_spText b L = some (textV b.1 L) := by
  unfold s_spText
  have main : ∀ (r pre : List Int), L = pre ++ r → loopE (fun (st2 : Bytes × Int) => (
 bif (decide (st2.2 < (L.length : Int))) then
 (idx L st2.2).bind fun e3 =>
 (idx b.1 e3).bind fun e4 =>
 bif decide (List.length st2.1 + List.length e4.1 ≤ lim) then
 some (.inl ((st2.1 ++ e4.1), (w64 (st2.2 + 1))))
 else
 none
 else
 some (.inr st2.1) : Option ((Bytes × Int) ⊕ (Bytes)))) (textV b.1 pre, (pre.length : Int)) = some (textV b.1 L) := by
    intro r
    induction r with
    | nil =>
      intro pre e
      rw [List.append_nil] at e
      subst e
      exact loopE_done (by simp)
    | cons j r ih =>
      intro pre e
      have hp : pre.length < L.length := by rw [e]; simp
      have hj : L[pre.length]? = some j := by rw [e]; simp
      have hb2 := hin j (List.mem_of_getElem? hj)
      obtain ⟨k, rfl⟩ : ∃ k : Nat, j = (k : Int) := ⟨j.toNat, by omega⟩
      obtain ⟨x, hx⟩ : ∃ x, b.1[k]? = some x := ⟨_, List.getElem?_eq_getElem (show k < b.1.length by omega)⟩
      have hl := textV_len hb pre
      have hl2 := text_le hb x (List.mem_of_getElem? hx)
      have ih' := ih (pre ++ [(k : Int)]) (by rw [e]; simp)
      have ev : textV b.1 (pre ++ [(k : Int)]) = textV b.1 pre ++ x.1 := by
        show List.flatMap (phr b.1) (pre ++ [(k : Int)]) = _
        rw [List.flatMap_append]
        simp only [List.flatMap_cons, List.flatMap_nil, List.append_nil, phr_at hx]
        rfl
      rw [ev, show ((pre ++ [(k : Int)]).length : Int) = (pre.length : Int) + 1 by simp] at ih'
      rw [loopE_step (a' := (textV b.1 pre ++ x.1, (pre.length : Int) + 1)) ?_]
      · exact ih'
      · simp only [at_lt hp, cond_true, idx_get, hj, Option.bind_some, hx, up (show L.length ≤ maxLen by unfold maxLen; omega) hp]
        rw [lim_ok (by omega)]
        rfl
  exact bind_eq (main L [] rfl) rfl
theorem i_textV {b : GBook} (hb : isBook b = true) {L : List Int} (hL : L.length ≤ 1000) (hin : ∀ j ∈ L, 0 ≤ j ∧ j < (b.1.length : Int)) : textF b L = some (textV b.1 L) := by
  have h1 := textV_len hb L
  have h2 := book_len hb
  unfold textF
  rw [if_pos ⟨by omega, by omega, hin, by omega⟩]
theorem readMsg_same {b : GBook} (hf : Fine b) (hb : isBook b = true) {s : List Int} (hs : s.length ≤ 20) : ∃ r, i_ReadMessage b s = some r ∧ s_ReadMessage b s = some r ∧ r.1.length ≤ 1000 := by
  have hsm : s.length ≤ maxLen := by unfold maxLen; omega
  have d60 : decide ((s.length : Int) ≤ 60) = true := decide_eq_true (by omega)
  unfold i_ReadMessage s_ReadMessage s_spSignals i_areRead
  simp only [i_good hf, s_good hf, hb, Option.bind_some, Bool.not_true, cond_false, cond_true, d60, i_all hsm, s_all hsm, ways_same]
  cases (s.all fun x => inB x 1 60) with
  | false => exact ⟨([], false), rfl, rfl, by simp⟩
  | true =>
    obtain ⟨W, w1, w2⟩ := ways_ok hb hs
    obtain ⟨v, v1, v2, _, _⟩ := w2.val 0 (by omega) (by omega)
    have hWl := w2.len
    have g : (decide ((0 : Nat) ≤ 0) && decide ((0 : Int) < (W.length : Int))) = true := by simp; omega
    simp only [w1, Option.bind_some, Bool.not_true, cond_false, g, cond_true, show Int.toNat 0 = 0 from rfl, v1]
    by_cases h1 : v = 1
    · obtain ⟨L, k1, k2, k3, k4⟩ := lists_same hb hs w2 s.length 0 v [] (by omega) (by omega) v1 (by omega) (by simp)
      rw [show ((0 : Nat) : Int) = 0 from rfl] at k1 k2
      rw [decide_eq_true h1, decode_def, first_def, ways_same, w1]
      simp only [Bool.not_true, cond_false, Option.bind_some, g, cond_true, show Int.toNat 0 = 0 from rfl, v1, decide_eq_false (show ¬ v = 0 by omega), k1, k2]
      rw [List.nil_append, s_textV hb (by omega) k3, i_textV hb (by omega) k3]
      have := textV_len hb L
      exact ⟨_, rfl, rfl, by show (textV b.1 L).length ≤ 1000; omega⟩
    · rw [decide_eq_false h1]
      exact ⟨([], false), rfl, rfl, by simp⟩
end Go.Proofs.YtkemmodgpafkmaaGreatDoor.Sh.Q
