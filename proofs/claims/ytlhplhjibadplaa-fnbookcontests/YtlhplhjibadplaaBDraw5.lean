/-
  The draw of a book.
-/
import Derived.Test.YtlhplhjibadplaaBDraw4
namespace Go.Proofs.Ytlhplhjibadplaa.Sh
open Go Go.Ab
set_option maxRecDepth 100000

/-- nine tries for signals that no other phrase has -/
theorem try_loop {c0 : Gl1Cur} (hc : Ok c0) {m : Int} (hm : 0 < m) {e4 : Bytes} (ht : e4.length ≤ 100) {f : (List Int) × Int × Int × (List GPhrase) × (List GPhrase) × Int × (List Bytes) → Option (((List Int) × Int × Int × (List GPhrase) × (List GPhrase) × Int × (List Bytes)) ⊕ ((List Int) × Int × Int × (List GPhrase) × (List GPhrase) × (List Bytes)))}
    (hf : f = fun st9 => bif (decide (st9.2.2.2.2.2.1 < 9)) then
                  (s_l1Cur_among (st9.1, st9.2.1, st9.2.2.1, ()) [1, 1, 2, 2, 3]).bind fun r10 =>
                  (loopE (fun (st12 : (List Int) × Int × Int × (List GPhrase) × (List GPhrase) × Bytes × (List Int) × Int × (List Bytes)) => (
                      bif (decide (0 < st12.2.2.2.2.2.2.2.1)) then
                        (s_l1Cur_pick (st12.1, st12.2.1, st12.2.2.1, ()) m).bind fun r13 =>
                        bif decide (List.length st12.2.2.2.2.2.2.1 + List.length [(w64 (1 + r13.2))] ≤ lim) then
                          some (.inl (r13.1.1, r13.1.2.1, r13.1.2.2.1, st12.2.2.2.1, st12.2.2.2.2.1, st12.2.2.2.2.2.1, (st12.2.2.2.2.2.2.1 ++ [(w64 (1 + r13.2))]), (w64 (st12.2.2.2.2.2.2.2.1 - 1)), st12.2.2.2.2.2.2.2.2))
                        else
                          none
                      else
                        some (.inr (st12.1, st12.2.1, st12.2.2.1, st12.2.2.2.1, st12.2.2.2.2.1, st12.2.2.2.2.2.1, st12.2.2.2.2.2.2.1, st12.2.2.2.2.2.2.2.2)) : Option (((List Int) × Int × Int × (List GPhrase) × (List GPhrase) × Bytes × (List Int) × Int × (List Bytes)) ⊕ (((List Int) × Int × Int × (List GPhrase) × (List GPhrase) × Bytes × (List Int) × (List Bytes)))))) (r10.1.1, r10.1.2.1, r10.1.2.2.1, st9.2.2.2.1, st9.2.2.2.2.1, e4, [], r10.2, st9.2.2.2.2.2.2)).bind fun o14 =>
                  (s_bkOf (o14.2.2.2.2.1, ()) o14.2.2.2.2.2.2.1).bind fun r15 =>
                  bif (decide (r15 < 0)) then
                    bif decide (List.length o14.2.2.2.2.1 + List.length [(o14.2.2.2.2.2.1, o14.2.2.2.2.2.2.1, ())] ≤ lim) then
                      some (.inr (o14.1, o14.2.1, o14.2.2.1, o14.2.2.2.1, (o14.2.2.2.2.1 ++ [(o14.2.2.2.2.2.1, o14.2.2.2.2.2.2.1, ())]), o14.2.2.2.2.2.2.2))
                    else
                      none
                  else
                    some (.inl (o14.1, o14.2.1, o14.2.2.1, o14.2.2.2.1, o14.2.2.2.2.1, (w64 (st9.2.2.2.2.2.1 + 1)), o14.2.2.2.2.2.2.2))
                else
                  some (.inr (st9.1, st9.2.1, st9.2.2.1, st9.2.2.2.1, st9.2.2.2.2.1, st9.2.2.2.2.2.2)))
    (hb : c0.2.1 + 100 ≤ 2305843009213693952) (a b : List GPhrase) (T : List Bytes) {nb : Nat} (hbk : BkOk b nb) (hnb : nb ≤ 900) :
    ∃ d b', loopE f (c0.1, c0.2.1, c0.2.2.1, a, b, 0, T) = some (d.1, d.2.1, d.2.2.1, a, b', T) ∧ On c0 72 d ∧ BkOk b' (nb + 1) ∧ b' ≠ [] := by
  obtain ⟨r, h1, d, b', h2, h3⟩ := meas_loop (f := f) (fun k st => ∃ (t : Nat) (d : Gl1Cur), st = (d.1, d.2.1, d.2.2.1, a, b, (t : Int), T) ∧ k + t = 9 ∧ (t = 0 ∨ b ≠ []) ∧ On c0 (8 * t) d) (fun r => ∃ (d : Gl1Cur) (b' : List GPhrase), r = (d.1, d.2.1, d.2.2.1, a, b', T) ∧ On c0 72 d ∧ BkOk b' (nb + 1) ∧ b' ≠ []) (fun k st ⟨t, d, e, hk, hne, hd⟩ => by
    subst e
    rw [hf]
    cases k with
    | zero =>
      left
      have : t = 9 := by omega
      subst this
      refine ⟨(d.1, d.2.1, d.2.2.1, a, b, T), rfl, d, b, rfl, hd, ⟨by have := hbk.len; omega, hbk.all⟩, hne.resolve_left (by omega)⟩
    | succ k =>
      have od := hd.ok hc (by omega)
      have ob := hd.at_
      obtain ⟨d2, v, e2, h2, h3⟩ := dr_among (l := [1, 1, 2, 2, 3]) od (by omega) (by simp)
      have e3 : s_l1Cur_among (d.1, d.2.1, d.2.2.1, ()) [1, 1, 2, 2, 3] = some (d2, v) := e2
      have o2 : Ok d2 := (hd.trans h2).ok hc (by omega)
      have b2 := (hd.trans h2).at_
      obtain ⟨n, rfl, hn0, hn1⟩ : ∃ n : Nat, v = (n : Int) ∧ 1 ≤ n ∧ n ≤ 3 := by
        simp only [List.mem_cons, List.not_mem_nil, or_false] at h3
        refine ⟨v.toNat, ?_, ?_, ?_⟩ <;> omega
      obtain ⟨d3, l, e4', h4, h5⟩ := sig_loop o2 hm rfl (n := n) (by omega) (by omega) a b e4 T
      have o3 := (hd.trans (h2.trans h4))
      simp only [dec_t (by omega : (t : Int) < 9), cond_true, e3, Option.bind_some]
      rw [e4']
      simp only [Option.bind_some]
      rw [Q.s_of (b := (b, ())) (hbk.fine (by omega)) l]
      simp only [Option.bind_some]
      have hph : PhOk (e4, l, ()) := ⟨ht, by show 1 ≤ l.length; omega, by show l.length ≤ 100; omega⟩
      cases hfa : firstAt (fun x : GPhrase => decide (x.2.1 = l)) b 0 with
      | none =>
        left
        simp only [dec_t (by omega : (-1 : Int) < 0), cond_true, limA (l := b) (x := (e4, l, ())) (by have := hbk.len; omega)]
        exact ⟨_, rfl, d3, b ++ [(e4, l, ())], rfl, o3.mono (by omega), hbk.add hph, by simp⟩
      | some i =>
        right
        simp only [dec_f (by omega : ¬ (i : Int) < 0), cond_false]
        refine ⟨k, _, by omega, rfl, t + 1, d3, ?_, by omega, .inr fun hb0 => ?_, o3.mono (by omega)⟩
        · rw [w64_of (by omega) (by omega)]; simp
        · rw [hb0] at hfa; cases hfa) 9 _ ⟨0, c0, rfl, rfl, .inl rfl, On.refl c0⟩
  exact ⟨d, b', by rw [h2] at h1; exact h1, h3⟩

theorem texts : ∃ T : List Bytes, s_phraseTexts = some T ∧ T.length = 26 ∧ ∀ x ∈ T, x.length ≤ 100 := ⟨_, rfl, rfl, by decide⟩

theorem dr_book {c : Gl1Cur} (hc : Ok c) (hb : c.2.1 + 4000 ≤ 2305843009213693952) : Dr (s_l1Cur_book c) c 2200 (fun b => BkOk b.1 26 ∧ b.1 ≠ []) := by
  unfold s_l1Cur_book
  obtain ⟨T, hT, hT1, hT2⟩ := texts
  rw [hT]
  simp only [Option.bind_some]
  refine (?_ : ∃ d v, _)
  obtain ⟨d, b, e1, h1, h2, h3⟩ : ∃ (d : Gl1Cur) (b : List GPhrase), loopE _ (c.1, c.2.1, c.2.2.1, ([] : List GPhrase), ([] : List GPhrase), T, (0 : Int)) = some (d.1, d.2.1, d.2.2.1, ([] : List GPhrase), b) ∧ On c 2080 d ∧ BkOk b 26 ∧ b ≠ [] := by
    obtain ⟨r, h1, d, b, h2, h3⟩ := meas_loop (f := (fun (st3 : (List Int) × Int × Int × (List GPhrase) × (List GPhrase) × (List Bytes) × Int) => (
      bif (decide (st3.2.2.2.2.2.2 < (T.length : Int))) then
        bif decide (0 ≤ st3.2.2.2.2.2.2) && decide (st3.2.2.2.2.2.2 < (st3.2.2.2.2.2.1.length : Int)) then
          (st3.2.2.2.2.2.1[(Int.toNat st3.2.2.2.2.2.2)]?).bind fun e4 =>
          (s_l1Cur_one (st3.1, st3.2.1, st3.2.2.1, ()) 2).bind fun r5 =>
          (bif (!r5.2) then
              some (decide (0 < (st3.2.2.2.2.1.length : Int)))
            else
              some false).bind fun c6 =>
          bif c6 then
            some (.inl (r5.1.1, r5.1.2.1, r5.1.2.2.1, st3.2.2.2.1, st3.2.2.2.2.1, st3.2.2.2.2.2.1, (w64 (st3.2.2.2.2.2.2 + 1))))
          else
            (s_l1Cur_among r5.1 [2, 4, 60]).bind fun r7 =>
            (loopE (fun (st9 : (List Int) × Int × Int × (List GPhrase) × (List GPhrase) × Int × (List Bytes)) => (
                bif (decide (st9.2.2.2.2.2.1 < 9)) then
                  (s_l1Cur_among (st9.1, st9.2.1, st9.2.2.1, ()) [1, 1, 2, 2, 3]).bind fun r10 =>
                  (loopE (fun (st12 : (List Int) × Int × Int × (List GPhrase) × (List GPhrase) × Bytes × (List Int) × Int × (List Bytes)) => (
                      bif (decide (0 < st12.2.2.2.2.2.2.2.1)) then
                        (s_l1Cur_pick (st12.1, st12.2.1, st12.2.2.1, ()) r7.2).bind fun r13 =>
                        bif decide (List.length st12.2.2.2.2.2.2.1 + List.length [(w64 (1 + r13.2))] ≤ lim) then
                          some (.inl (r13.1.1, r13.1.2.1, r13.1.2.2.1, st12.2.2.2.1, st12.2.2.2.2.1, st12.2.2.2.2.2.1, (st12.2.2.2.2.2.2.1 ++ [(w64 (1 + r13.2))]), (w64 (st12.2.2.2.2.2.2.2.1 - 1)), st12.2.2.2.2.2.2.2.2))
                        else
                          none
                      else
                        some (.inr (st12.1, st12.2.1, st12.2.2.1, st12.2.2.2.1, st12.2.2.2.2.1, st12.2.2.2.2.2.1, st12.2.2.2.2.2.2.1, st12.2.2.2.2.2.2.2.2)) : Option (((List Int) × Int × Int × (List GPhrase) × (List GPhrase) × Bytes × (List Int) × Int × (List Bytes)) ⊕ (((List Int) × Int × Int × (List GPhrase) × (List GPhrase) × Bytes × (List Int) × (List Bytes)))))) (r10.1.1, r10.1.2.1, r10.1.2.2.1, st9.2.2.2.1, st9.2.2.2.2.1, e4, [], r10.2, st9.2.2.2.2.2.2)).bind fun o14 =>
                  (s_bkOf (o14.2.2.2.2.1, ()) o14.2.2.2.2.2.2.1).bind fun r15 =>
                  bif (decide (r15 < 0)) then
                    bif decide (List.length o14.2.2.2.2.1 + List.length [(o14.2.2.2.2.2.1, o14.2.2.2.2.2.2.1, ())] ≤ lim) then
                      some (.inr (o14.1, o14.2.1, o14.2.2.1, o14.2.2.2.1, (o14.2.2.2.2.1 ++ [(o14.2.2.2.2.2.1, o14.2.2.2.2.2.2.1, ())]), o14.2.2.2.2.2.2.2))
                    else
                      none
                  else
                    some (.inl (o14.1, o14.2.1, o14.2.2.1, o14.2.2.2.1, o14.2.2.2.2.1, (w64 (st9.2.2.2.2.2.1 + 1)), o14.2.2.2.2.2.2.2))
                else
                  some (.inr (st9.1, st9.2.1, st9.2.2.1, st9.2.2.2.1, st9.2.2.2.2.1, st9.2.2.2.2.2.2)) : Option (((List Int) × Int × Int × (List GPhrase) × (List GPhrase) × Int × (List Bytes)) ⊕ (((List Int) × Int × Int × (List GPhrase) × (List GPhrase) × (List Bytes)))))) (r7.1.1, r7.1.2.1, r7.1.2.2.1, st3.2.2.2.1, st3.2.2.2.2.1, 0, st3.2.2.2.2.2.1)).bind fun o16 =>
            some (.inl (o16.1, o16.2.1, o16.2.2.1, o16.2.2.2.1, o16.2.2.2.2.1, o16.2.2.2.2.2, (w64 (st3.2.2.2.2.2.2 + 1))))
        else
          none
      else
        some (.inr (st3.1, st3.2.1, st3.2.2.1, st3.2.2.2.1, st3.2.2.2.2.1)) : Option (((List Int) × Int × Int × (List GPhrase) × (List GPhrase) × (List Bytes) × Int) ⊕ (((List Int) × Int × Int × (List GPhrase) × (List GPhrase)))))))
      (fun k st => ∃ (i : Nat) (d : Gl1Cur) (b : List GPhrase), st = (d.1, d.2.1, d.2.2.1, [], b, T, (i : Int)) ∧ k + i = 26 ∧ On c (80 * i) d ∧ BkOk b i ∧ (i = 0 ∨ b ≠ [])) (fun r => ∃ (d : Gl1Cur) (b : List GPhrase), r = (d.1, d.2.1, d.2.2.1, [], b) ∧ On c 2080 d ∧ BkOk b 26 ∧ b ≠ []) (fun k st ⟨i, d, b, e, hk, hd, hbk, hne⟩ => by
      subst e
      cases k with
      | zero =>
        left
        have : i = 26 := by omega
        subst this
        exact ⟨(d.1, d.2.1, d.2.2.1, [], b), by simp only [hT1, dec_f (by omega : ¬ ((26 : Nat) : Int) < ((26 : Nat) : Int)), cond_false], d, b, rfl, hd, hbk, hne.resolve_left (by omega)⟩
      | succ k =>
        right
        have hi : i < T.length := by omega
        have od := hd.ok hc (by omega)
        have ob := hd.at_
        obtain ⟨d2, v, e2, h2, _⟩ := dr_one (n := 2) od (by omega) (by omega)
        have e3 : s_l1Cur_one (d.1, d.2.1, d.2.2.1, ()) 2 = some (d2, v) := e2
        have o2 : Ok d2 := (hd.trans h2).ok hc (by omega)
        have b2 := (hd.trans h2).at_
        have hx : T[i]? = some (T[i]'hi) := by simp [hi]
        have hu : w64 ((i : Int) + 1) = ((i + 1 : Nat) : Int) := by rw [w64_of (by omega) (by omega)]; simp
        simp only [dec_t (by omega : (i : Int) < (T.length : Int)), dec_t (by omega : (0 : Int) ≤ (i : Int)), Bool.and_self, cond_true, Int.toNat_natCast, hx, Option.bind_some, e3, hu]
        have go : ∃ m s', m < k + 1 ∧ ((s_l1Cur_among d2 [2, 4, 60]).bind fun r7 => (loopE (fun (st9 : (List Int) × Int × Int × (List GPhrase) × (List GPhrase) × Int × (List Bytes)) => (
                bif (decide (st9.2.2.2.2.2.1 < 9)) then
                  (s_l1Cur_among (st9.1, st9.2.1, st9.2.2.1, ()) [1, 1, 2, 2, 3]).bind fun r10 =>
                  (loopE (fun (st12 : (List Int) × Int × Int × (List GPhrase) × (List GPhrase) × Bytes × (List Int) × Int × (List Bytes)) => (
                      bif (decide (0 < st12.2.2.2.2.2.2.2.1)) then
                        (s_l1Cur_pick (st12.1, st12.2.1, st12.2.2.1, ()) r7.2).bind fun r13 =>
                        bif decide (List.length st12.2.2.2.2.2.2.1 + List.length [(w64 (1 + r13.2))] ≤ lim) then
                          some (.inl (r13.1.1, r13.1.2.1, r13.1.2.2.1, st12.2.2.2.1, st12.2.2.2.2.1, st12.2.2.2.2.2.1, (st12.2.2.2.2.2.2.1 ++ [(w64 (1 + r13.2))]), (w64 (st12.2.2.2.2.2.2.2.1 - 1)), st12.2.2.2.2.2.2.2.2))
                        else
                          none
                      else
                        some (.inr (st12.1, st12.2.1, st12.2.2.1, st12.2.2.2.1, st12.2.2.2.2.1, st12.2.2.2.2.2.1, st12.2.2.2.2.2.2.1, st12.2.2.2.2.2.2.2.2)) : Option (((List Int) × Int × Int × (List GPhrase) × (List GPhrase) × Bytes × (List Int) × Int × (List Bytes)) ⊕ (((List Int) × Int × Int × (List GPhrase) × (List GPhrase) × Bytes × (List Int) × (List Bytes)))))) (r10.1.1, r10.1.2.1, r10.1.2.2.1, st9.2.2.2.1, st9.2.2.2.2.1, (T[i]'hi), [], r10.2, st9.2.2.2.2.2.2)).bind fun o14 =>
                  (s_bkOf (o14.2.2.2.2.1, ()) o14.2.2.2.2.2.2.1).bind fun r15 =>
                  bif (decide (r15 < 0)) then
                    bif decide (List.length o14.2.2.2.2.1 + List.length [(o14.2.2.2.2.2.1, o14.2.2.2.2.2.2.1, ())] ≤ lim) then
                      some (.inr (o14.1, o14.2.1, o14.2.2.1, o14.2.2.2.1, (o14.2.2.2.2.1 ++ [(o14.2.2.2.2.2.1, o14.2.2.2.2.2.2.1, ())]), o14.2.2.2.2.2.2.2))
                    else
                      none
                  else
                    some (.inl (o14.1, o14.2.1, o14.2.2.1, o14.2.2.2.1, o14.2.2.2.2.1, (w64 (st9.2.2.2.2.2.1 + 1)), o14.2.2.2.2.2.2.2))
                else
                  some (.inr (st9.1, st9.2.1, st9.2.2.1, st9.2.2.2.1, st9.2.2.2.2.1, st9.2.2.2.2.2.2)) : Option (((List Int) × Int × Int × (List GPhrase) × (List GPhrase) × Int × (List Bytes)) ⊕ (((List Int) × Int × Int × (List GPhrase) × (List GPhrase) × (List Bytes)))))) (r7.1.1, r7.1.2.1, r7.1.2.2.1, [], b, 0, T)).bind fun o16 =>
            some (.inl (o16.1, o16.2.1, o16.2.2.1, o16.2.2.2.1, o16.2.2.2.2.1, o16.2.2.2.2.2, ((i + 1 : Nat) : Int)))) = (some (.inl s') : Option (((List Int) × Int × Int × (List GPhrase) × (List GPhrase) × (List Bytes) × Int) ⊕ ((List Int) × Int × Int × (List GPhrase) × (List GPhrase)))) ∧ ∃ (i : Nat) (d : Gl1Cur) (b : List GPhrase), s' = (d.1, d.2.1, d.2.2.1, [], b, T, (i : Int)) ∧ m + i = 26 ∧ On c (80 * i) d ∧ BkOk b i ∧ (i = 0 ∨ b ≠ []) := by
          obtain ⟨d3, m, e4, h4, h5⟩ := dr_among (l := [2, 4, 60]) o2 (by omega) (by simp)
          have o3 : Ok d3 := ((hd.trans h2).trans h4).ok hc (by omega)
          have b3 := ((hd.trans h2).trans h4).at_
          have hm : 0 < m := by simp only [List.mem_cons, List.not_mem_nil, or_false] at h5; omega
          obtain ⟨d4, b', e5, h6, h7, h8⟩ := try_loop o3 hm (hT2 _ (List.getElem_mem hi)) rfl (by omega) [] b T hbk (by omega)
          rw [e4]
          simp only [Option.bind_some]
          rw [e5]
          exact ⟨k, _, by omega, rfl, i + 1, d4, b', rfl, by omega, (((hd.trans h2).trans h4).trans h6).mono (by omega), h7, .inr h8⟩
        cases v with
        | true => simpa using go
        | false =>
          simp only [Bool.not_false, cond_true, Option.bind_some]
          by_cases hl : 0 < (b.length : Int)
          · rw [dec_t hl]
            exact ⟨k, _, by omega, rfl, i + 1, d2, b, rfl, by omega, (hd.trans h2).mono (by omega), ⟨by have := hbk.len; omega, hbk.all⟩, .inr fun e => by rw [e] at hl; simp at hl⟩
          · rw [dec_f hl]
            simpa using go) 26 _ ⟨0, c, [], rfl, rfl, On.refl c, ⟨Nat.le_refl _, fun x hx => by cases hx⟩, .inl rfl⟩
    exact ⟨d, b, by rw [h2] at h1; exact h1, h3⟩
  rw [e1]
  simp only [Option.bind_some]
  have od := h1.ok hc (by omega)
  have ob := h1.at_
  obtain ⟨d2, v, e2, g2, _⟩ := dr_one (n := 2) od (by omega) (by omega)
  have e3 : s_l1Cur_one (d.1, d.2.1, d.2.2.1, ()) 2 = some (d2, v) := e2
  rw [e3]
  simp only [Option.bind_some]
  cases v with
  | false => exact ⟨d2, (b, ()), rfl, (h1.trans g2).mono (by omega), h2, h3⟩
  | true =>
    simp only [cond_true]
    obtain ⟨r, k1, b', k2, k3, k4⟩ := meas_loop (f := (fun (st20 : (List Int) × Int × Int × (List GPhrase) × (List GPhrase) × Int) => (
        bif (decide (st20.2.2.2.2.2 < (b.length : Int))) then
          bif decide (0 ≤ st20.2.2.2.2.2) && decide (st20.2.2.2.2.2 < (st20.2.2.2.2.1.length : Int)) then
            (st20.2.2.2.2.1[(Int.toNat st20.2.2.2.2.2)]?).bind fun e21 =>
            some (.inl (st20.1, st20.2.1, st20.2.2.1, st20.2.2.2.1, (st20.2.2.2.2.1.set (Int.toNat st20.2.2.2.2.2) (e21.1, [(w64 (1 + st20.2.2.2.2.2))], ())), (w64 (st20.2.2.2.2.2 + 1))))
          else
            none
        else
          some (.inr (st20.1, st20.2.1, st20.2.2.1, st20.2.2.2.1, st20.2.2.2.2.1)) : Option (((List Int) × Int × Int × (List GPhrase) × (List GPhrase) × Int) ⊕ (((List Int) × Int × Int × (List GPhrase) × (List GPhrase)))))))
      (fun k st => ∃ (i : Nat) (b' : List GPhrase), st = (d2.1, d2.2.1, d2.2.2.1, [], b', (i : Int)) ∧ k + i = b.length ∧ BkOk b' 26 ∧ b'.length = b.length) (fun r => ∃ (b' : List GPhrase), r = (d2.1, d2.2.1, d2.2.2.1, [], b') ∧ BkOk b' 26 ∧ b'.length = b.length) (fun k st ⟨i, b', e, hk, hbk, hl⟩ => by
      subst e
      have hb26 := h2.len
      cases k with
      | zero =>
        left
        have : i = b.length := by omega
        subst this
        exact ⟨_, by simp only [dec_f (by omega : ¬ (b.length : Int) < (b.length : Int)), cond_false], b', rfl, hbk, hl⟩
      | succ k =>
        right
        have hi : i < b'.length := by omega
        have hx : b'[i]? = some (b'[i]'hi) := by simp [hi]
        simp only [dec_t (by omega : (i : Int) < (b.length : Int)), dec_t (by omega : (i : Int) < (b'.length : Int)), dec_t (by omega : (0 : Int) ≤ (i : Int)), Bool.and_self, cond_true, Int.toNat_natCast, hx, Option.bind_some]
        refine ⟨k, _, by omega, rfl, i + 1, _, ?_, by omega, hbk.set (i := i) (x := ((b'[i]'hi).1, [w64 (1 + (i : Int))], ())) ⟨(hbk.all _ (List.getElem_mem hi)).1, by simp, by simp⟩, by simp; exact hl⟩
        rw [w64_of (x := (i : Int) + 1) (by omega) (by omega)]
        simp) b.length _ ⟨0, b, rfl, by omega, h2, rfl⟩
    subst k2
    refine ⟨d2, (b', ()), ?_, (h1.trans g2).mono (by omega), k3, fun e => ?_⟩
    · exact bind_eq k1 rfl
    · have : b'.length = 0 := by rw [show b' = [] from e]; rfl
      exact h3 (List.eq_nil_of_length_eq_zero (by omega))
end Go.Proofs.Ytlhplhjibadplaa.Sh
