/-
  The draws of any book, of letters, and of what FnPrices wants.
-/
import Derived.Test.YtlhplhjibadplaaBDraw5
namespace Go.Proofs.Ytlhplhjibadplaa.Sh
open Go Go.Ab
set_option maxRecDepth 100000

structure AnyOk (b : GBook) : Prop where
  len : b.1.length ≤ 100
  all : ∀ x ∈ b.1, x.1.length ≤ 100 ∧ x.2.1.length ≤ 100
theorem AnyOk.fine {b : GBook} (h : AnyOk b) : Q.Fine b := ⟨by have := h.len; unfold maxLen; omega, fun x hx => by have := (h.all x hx).1; unfold maxLen; omega, fun x hx => by have := (h.all x hx).2; unfold maxLen; omega⟩
theorem BkOk.any {l : List GPhrase} {n : Nat} (h : BkOk l n) (hn : n ≤ 100) : AnyOk (l, ()) := ⟨by have := h.len; show l.length ≤ 100; omega, fun x hx => ⟨(h.all x hx).1, (h.all x hx).2.2⟩⟩
theorem AnyOk.set {b : GBook} (h : AnyOk b) {i : Nat} {x : GPhrase} (hx : x.1.length ≤ 100 ∧ x.2.1.length ≤ 100) : AnyOk (b.1.set i x, ()) := ⟨by simp; exact h.len, fun y hy => by
  rcases List.mem_or_eq_of_mem_set hy with hy | hy
  · exact h.all y hy
  · rw [hy]; exact hx⟩

theorem many {n : Int} (hn : n ≤ 41) : ∃ b, s_manyPhrases n = some b ∧ AnyOk b := by
  unfold s_manyPhrases
  obtain ⟨r, h1, b, h2, h3, h4⟩ := meas_loop (f := (fun (st2 : (List GPhrase) × (List GPhrase) × Int) => (
      bif (decide (st2.2.2 < n)) then
        bif decide (List.length st2.2.1 + List.length [((toStr [(IntKind.u8.wrap (w64 (97 + (w64 (Int.tdiv st2.2.2 20))))), (IntKind.u8.wrap (w64 (97 + (Int.tmod st2.2.2 20))))]), [(w64 (1 + (Int.tmod st2.2.2 30))), (w64 (1 + (w64 (Int.tdiv st2.2.2 30))))], ())] ≤ lim) then
          some (.inl (st2.1, (st2.2.1 ++ [((toStr [(IntKind.u8.wrap (w64 (97 + (w64 (Int.tdiv st2.2.2 20))))), (IntKind.u8.wrap (w64 (97 + (Int.tmod st2.2.2 20))))]), [(w64 (1 + (Int.tmod st2.2.2 30))), (w64 (1 + (w64 (Int.tdiv st2.2.2 30))))], ())]), (w64 (st2.2.2 + 1))))
        else
          none
      else
        some (.inr (st2.1, st2.2.1)) : Option (((List GPhrase) × (List GPhrase) × Int) ⊕ (((List GPhrase) × (List GPhrase)))))))
    (fun k st => ∃ (i : Nat) (b : List GPhrase), st = ([], b, (i : Int)) ∧ k + i = 41 ∧ b.length ≤ i ∧ ∀ x ∈ b, x.1.length ≤ 100 ∧ x.2.1.length ≤ 100) (fun r => ∃ b, r = ([], b) ∧ b.length ≤ 100 ∧ ∀ x ∈ b, x.1.length ≤ 100 ∧ x.2.1.length ≤ 100) (fun k st ⟨i, b, e, hk, hl, hb⟩ => by
      subst e
      by_cases hlt : (i : Int) < n
      · right
        obtain ⟨k, rfl⟩ : ∃ k', k = k' + 1 := ⟨k - 1, by omega⟩
        simp only [dec_t hlt, cond_true]
        rw [limA (by omega)]
        refine ⟨k, _, by omega, rfl, i + 1, b ++ [((toStr [(IntKind.u8.wrap (w64 (97 + (w64 (Int.tdiv (i : Int) 20))))), (IntKind.u8.wrap (w64 (97 + (Int.tmod (i : Int) 20))))]), [(w64 (1 + (Int.tmod (i : Int) 30))), (w64 (1 + (w64 (Int.tdiv (i : Int) 30))))], ())], ?_, by omega, ?_, ?_⟩
        · rw [w64_of (x := (i : Int) + 1) (by omega) (by omega)]; simp
        · simp; omega
        · intro x hx
          rcases List.mem_append.1 hx with hx | hx
          · exact hb x hx
          · rw [List.mem_singleton.1 hx]
            exact ⟨by simp [toStr], by simp⟩
      · left
        exact ⟨([], b), by simp only [dec_f hlt, cond_false], b, rfl, by omega, hb⟩) 41 _ ⟨0, [], rfl, rfl, Nat.le_refl _, fun x hx => by cases hx⟩
  subst h2
  exact ⟨(b, ()), bind_eq h1 rfl, h3, h4⟩

theorem dr_anyBook {c : Gl1Cur} (hc : Ok c) (hb : c.2.1 + 4000 ≤ 2305843009213693952) : Dr (s_l1Cur_anyBook c) c 2210 AnyOk := by
  unfold s_l1Cur_anyBook
  obtain ⟨d, b, e1, h1, h2, h3⟩ := dr_book hc hb
  rw [e1]
  simp only [Option.bind_some]
  have hlen := h2.len
  have hpos : 0 < b.1.length := List.length_pos_iff.2 h3
  have o1 := h1.ok hc (by omega)
  have b1 := h1.at_
  obtain ⟨d2, i, e2, g2, i0, i1⟩ := dr_pick (n := (b.1.length : Int)) o1 (by omega) (by omega)
  rw [e2]
  have o2 := (h1.trans g2).ok hc (by omega)
  have b2 := (h1.trans g2).at_
  obtain ⟨d3, v, e3, g3, _, _⟩ := dr_pick (n := 30) o2 (by omega) (by omega)
  have o3 := ((h1.trans g2).trans g3).ok hc (by omega)
  have b3 := ((h1.trans g2).trans g3).at_
  have a3 := (h1.trans g2).trans g3
  have hi : i.toNat < b.1.length := by omega
  have hx : b.1[i.toNat]? = some (b.1[i.toNat]'hi) := by simp [hi]
  have hxo := h2.all _ (List.getElem_mem hi)
  have any : AnyOk b := h2.any (by omega)
  simp only [Option.bind_some, dec_t i0, dec_t i1, Bool.and_self, cond_true, e3]
  have fin : ∀ {x : GBook}, AnyOk x → Dr (some (d3, x)) c 2210 AnyOk := fun {x} hx => ⟨d3, x, rfl, a3.mono (by omega), hx⟩
  cases decide (v = 0) with
  | true =>
    obtain ⟨d4, t, e4, g4, ht⟩ := dr_of (l := ([[], ([65] : Bytes), ([97, 98, 99, 100, 101, 102, 103, 104, 105, 106, 107, 108] : Bytes), ([97, 98, 99, 100, 101, 102, 103, 104, 105, 106, 107, 108, 109] : Bytes), ([122] : Bytes), ([97, 32, 98] : Bytes)] : List Bytes)) o3 (by omega) (by simp)
    have : t.length ≤ 100 := by
      simp only [List.mem_cons, List.not_mem_nil, or_false] at ht
      rcases ht with rfl | rfl | rfl | rfl | rfl | rfl <;> decide
    simp only [cond_true, e4, Option.bind_some, hx]
    exact ⟨d4, _, rfl, (a3.trans g4).mono (by omega), any.set ⟨this, hxo.2.2⟩⟩
  | false =>
  simp only [cond_false]
  cases decide (v = 1) with
  | true =>
    obtain ⟨d4, t, e4, g4, ht⟩ := dr_among (l := [(-1), 0, 60, 61]) o3 (by omega) (by simp)
    have hp : decide ((0 : Int) < (List.length (b.1[i.toNat]'hi).2.1 : Int)) = true := dec_t (by have := hxo.2.1; omega)
    have h0 : decide ((0 : Int) ≤ 0) = true := rfl
    simp only [cond_true, e4, Option.bind_some, hx, hp, h0, Bool.and_self]
    exact ⟨d4, _, rfl, (a3.trans g4).mono (by omega), any.set ⟨hxo.1, by simp; exact hxo.2.2⟩⟩
  | false =>
  simp only [cond_false]
  cases decide (v = 2) with
  | true =>
    simp only [cond_true, Option.bind_some, hx]
    exact fin (any.set ⟨hxo.1, by simp⟩)
  | false =>
  simp only [cond_false]
  cases decide (v = 3) with
  | true =>
    simp only [cond_true, Option.bind_some, hx]
    exact fin (any.set ⟨hxo.1, by simp⟩)
  | false =>
  simp only [cond_false]
  cases decide (v = 4) with
  | true =>
    obtain ⟨d4, t, e4, g4, ht⟩ := dr_among (l := [40, 41]) o3 (by omega) (by simp)
    have ht2 : t ≤ 41 := by simp only [List.mem_cons, List.not_mem_nil, or_false] at ht; omega
    obtain ⟨y, e5, hy⟩ := many ht2
    simp only [cond_true, e4, Option.bind_some, e5]
    exact ⟨d4, _, rfl, (a3.trans g4).mono (by omega), hy⟩
  | false =>
  simp only [cond_false]
  cases decide (v = 5) with
  | true =>
    have hx0 : b.1[Int.toNat 0]? = some (b.1[0]'hpos) := by simp [hpos]
    have hp : decide ((0 : Int) < (b.1.length : Int)) = true := dec_t (by omega)
    have h0 : decide ((0 : Int) ≤ 0) = true := rfl
    have hy := h2.all _ (List.getElem_mem hpos)
    have hown : s_l1Own (b.1[0]'hpos).2.1 = some (b.1[0]'hpos).2.1 := by
      unfold s_l1Own
      rw [dec_t (by unfold lim; have := hy.2.2; omega)]
      rfl
    simp only [cond_true, hp, h0, Bool.and_self, hx0, Option.bind_some, hown, hx]
    exact fin (any.set ⟨hxo.1, hy.2.2⟩)
  | false =>
  simp only [cond_false]
  cases decide (v = 6) with
  | true => exact fin ⟨by simp, fun x hx => by cases hx⟩
  | false => exact fin any

theorem limB {a b : Bytes} (h : a.length ≤ 1000) (h2 : b.length ≤ 1000) : decide (List.length a + List.length b ≤ lim) = true := by unfold lim; exact decide_eq_true (by omega)

theorem dr_letters {c : Gl1Cur} (hc : Ok c) (hb : c.2.1 + 1000 ≤ 2305843009213693952) {b : GBook} (hB : AnyOk b) : Dr (s_l1Cur_letters c b) c 400 (fun s => s.length ≤ 1000) := by
  unfold s_l1Cur_letters
  obtain ⟨d1, n1, e1, g1, n0, n2⟩ := dr_pick (n := 6) hc (by omega) (by omega)
  rw [e1]
  have o1 := g1.ok hc (by omega)
  have b1 := g1.at_
  obtain ⟨d2, v2, e2, g2, _⟩ := dr_one (n := 16) o1 (by omega) (by omega)
  simp only [Option.bind_some, e2]
  have a2 := g1.trans g2
  have b2 := a2.at_
  obtain ⟨n, hn, hj⟩ : ∃ n : Nat, n ≤ 40 ∧ (bif v2 then (some (d2.1, d2.2.1, d2.2.2.1, (40 : Int)) : Option (List Int × Int × Int × Int)) else some (d2.1, d2.2.1, d2.2.2.1, n1)) = some (d2.1, d2.2.1, d2.2.2.1, (n : Int)) := by
    cases v2 with
    | true => exact ⟨40, by omega, rfl⟩
    | false => exact ⟨n1.toNat, by omega, by rw [show ((n1.toNat : Nat) : Int) = n1 by omega]; rfl⟩
  rw [hj]
  simp only [Option.bind_some]
  obtain ⟨r, h1, d, s, h2, h3, h4⟩ := meas_loop (f := (fun (st5 : (List Int) × Int × Int × Bytes × Int) => (
      bif (decide (0 < st5.2.2.2.2)) then
        (s_l1Cur_of (st5.1, st5.2.1, st5.2.2.1, ()) [([97] : Bytes), ([98] : Bytes), ([101] : Bytes), ([115, 104, 105, 112, 115] : Bytes), ([122] : Bytes), ([113] : Bytes)]).bind fun r6 =>
        bif (decide (0 < (b.1.length : Int))) then
          (s_l1Cur_one r6.1 8).bind fun r7 =>
          bif (!r7.2) then
            (s_l1Cur_pick r7.1 (b.1.length : Int)).bind fun r8 =>
            (idx b.1 r8.2).bind fun e9 =>
            bif (decide ((w64 ((st5.2.2.2.1.length : Int) + (e9.1.length : Int))) ≤ 40)) then
              bif decide (List.length st5.2.2.2.1 + List.length e9.1 ≤ lim) then
                some (.inl (r8.1.1, r8.1.2.1, r8.1.2.2.1, (st5.2.2.2.1 ++ e9.1), (w64 (st5.2.2.2.2 - 1))))
              else
                none
            else
              some (.inl (r8.1.1, r8.1.2.1, r8.1.2.2.1, st5.2.2.2.1, (w64 (st5.2.2.2.2 - 1))))
          else
            bif (decide ((w64 ((st5.2.2.2.1.length : Int) + (r6.2.length : Int))) ≤ 40)) then
              bif decide (List.length st5.2.2.2.1 + List.length r6.2 ≤ lim) then
                some (.inl (r7.1.1, r7.1.2.1, r7.1.2.2.1, (st5.2.2.2.1 ++ r6.2), (w64 (st5.2.2.2.2 - 1))))
              else
                none
            else
              some (.inl (r7.1.1, r7.1.2.1, r7.1.2.2.1, st5.2.2.2.1, (w64 (st5.2.2.2.2 - 1))))
        else
          bif false then
            (s_l1Cur_pick r6.1 (b.1.length : Int)).bind fun r10 =>
            (idx b.1 r10.2).bind fun e11 =>
            bif (decide ((w64 ((st5.2.2.2.1.length : Int) + (e11.1.length : Int))) ≤ 40)) then
              bif decide (List.length st5.2.2.2.1 + List.length e11.1 ≤ lim) then
                some (.inl (r10.1.1, r10.1.2.1, r10.1.2.2.1, (st5.2.2.2.1 ++ e11.1), (w64 (st5.2.2.2.2 - 1))))
              else
                none
            else
              some (.inl (r10.1.1, r10.1.2.1, r10.1.2.2.1, st5.2.2.2.1, (w64 (st5.2.2.2.2 - 1))))
          else
            bif (decide ((w64 ((st5.2.2.2.1.length : Int) + (r6.2.length : Int))) ≤ 40)) then
              bif decide (List.length st5.2.2.2.1 + List.length r6.2 ≤ lim) then
                some (.inl (r6.1.1, r6.1.2.1, r6.1.2.2.1, (st5.2.2.2.1 ++ r6.2), (w64 (st5.2.2.2.2 - 1))))
              else
                none
            else
              some (.inl (r6.1.1, r6.1.2.1, r6.1.2.2.1, st5.2.2.2.1, (w64 (st5.2.2.2.2 - 1))))
      else
        some (.inr (st5.1, st5.2.1, st5.2.2.1, st5.2.2.2.1)) : Option (((List Int) × Int × Int × Bytes × Int) ⊕ (((List Int) × Int × Int × Bytes))))))
    (fun k st => ∃ (i : Nat) (d : Gl1Cur) (s : Bytes), st = (d.1, d.2.1, d.2.2.1, s, (k : Int)) ∧ k + i = n ∧ On c (4 + 6 * i) d ∧ s.length ≤ 40) (fun r => ∃ (d : Gl1Cur) (s : Bytes), r = (d.1, d.2.1, d.2.2.1, s) ∧ On c 250 d ∧ s.length ≤ 40) (fun k st ⟨i, d, s, e, hk, hd, hs⟩ => by
      subst e
      cases k with
      | zero =>
        left
        exact ⟨(d.1, d.2.1, d.2.2.1, s), rfl, d, s, rfl, hd.mono (by omega), hs⟩
      | succ k =>
        right
        have od := hd.ok hc (by omega)
        have ob := hd.at_
        obtain ⟨d3, t, e3, g3, ht⟩ := dr_of (l := [([97] : Bytes), ([98] : Bytes), ([101] : Bytes), ([115, 104, 105, 112, 115] : Bytes), ([122] : Bytes), ([113] : Bytes)]) od (by omega) (by simp)
        have ht2 : t.length ≤ 100 := by
          simp only [List.mem_cons, List.not_mem_nil, or_false] at ht
          rcases ht with rfl | rfl | rfl | rfl | rfl | rfl <;> decide
        have e3' : s_l1Cur_of (d.1, d.2.1, d.2.2.1, ()) [([97] : Bytes), ([98] : Bytes), ([101] : Bytes), ([115, 104, 105, 112, 115] : Bytes), ([122] : Bytes), ([113] : Bytes)] = some (d3, t) := e3
        have o3 := (hd.trans g3).ok hc (by omega)
        have b3 := (hd.trans g3).at_
        have hw : w64 (((k + 1 : Nat) : Int) - 1) = (k : Int) := by rw [w64_of (by omega) (by omega)]; omega
        have step : ∀ (z : Gl1Cur) (u : Bytes), u.length ≤ 100 → On c (4 + 6 * (i + 1)) z → ∃ m s', m < k + 1 ∧ (bif (decide ((w64 ((s.length : Int) + (u.length : Int))) ≤ 40)) then
              bif decide (List.length s + List.length u ≤ lim) then
                (some (.inl (z.1, z.2.1, z.2.2.1, (s ++ u), (k : Int))) : Option (((List Int) × Int × Int × Bytes × Int) ⊕ (((List Int) × Int × Int × Bytes))))
              else
                none
            else
              some (.inl (z.1, z.2.1, z.2.2.1, s, (k : Int)))) = some (.inl s') ∧ ∃ (i : Nat) (d : Gl1Cur) (s : Bytes), s' = (d.1, d.2.1, d.2.2.1, s, (m : Int)) ∧ m + i = n ∧ On c (4 + 6 * i) d ∧ s.length ≤ 40 := fun z u hu hz => by
          rw [w64_of (by omega) (by omega)]
          by_cases hle : (s.length : Int) + (u.length : Int) ≤ 40
          · rw [dec_t hle, limB (by omega) (by omega)]
            exact ⟨k, _, by omega, rfl, i + 1, z, s ++ u, rfl, by omega, hz, by rw [List.length_append]; omega⟩
          · rw [dec_f hle]
            exact ⟨k, _, by omega, rfl, i + 1, z, s, rfl, by omega, hz, hs⟩
        simp only [dec_t (by omega : (0 : Int) < ((k + 1 : Nat) : Int)), cond_true, e3', Option.bind_some, hw]
        by_cases hp : 0 < (b.1.length : Int)
        · rw [dec_t hp]
          obtain ⟨d4, v4, e4, g4, _⟩ := dr_one (n := 8) o3 (by omega) (by omega)
          have o4 := ((hd.trans g3).trans g4).ok hc (by omega)
          have b4 := ((hd.trans g3).trans g4).at_
          simp only [cond_true, e4, Option.bind_some]
          cases v4 with
          | true => exact step d4 t ht2 (((hd.trans g3).trans g4).mono (by omega))
          | false =>
            obtain ⟨d5, j, e5, g5, j0, j1⟩ := dr_pick (n := (b.1.length : Int)) o4 (by omega) (by omega)
            have hjl : j.toNat < b.1.length := by omega
            have hij : idx b.1 j = some (b.1[j.toNat]'hjl) := by unfold idx; rw [if_neg (by omega), List.getElem?_eq_getElem hjl]
            simp only [Bool.not_false, cond_true, e5, Option.bind_some, hij]
            exact step d5 _ (hB.all _ (List.getElem_mem hjl)).1 ((((hd.trans g3).trans g4).trans g5).mono (by omega))
        · rw [dec_f hp]
          simp only [cond_false]
          exact step d3 t ht2 ((hd.trans g3).mono (by omega))) n _ ⟨0, d2, [], rfl, rfl, a2.mono (by omega), by simp⟩
  subst h2
  rw [h1]
  simp only [Option.bind_some]
  have od := h3.ok hc (by omega)
  have ob := h3.at_
  obtain ⟨d3, v3, e3, g3, _⟩ := dr_one (n := 24) od (by omega) (by omega)
  have e3' : s_l1Cur_one (d.1, d.2.1, d.2.2.1, ()) 24 = some (d3, v3) := e3
  rw [e3']
  have a3 := h3.trans g3
  have o3 := a3.ok hc (by omega)
  have b3 := a3.at_
  simp only [Option.bind_some]
  have fin : ∀ (z : Gl1Cur) (s : Bytes), On c 270 z → s.length ≤ 100 → Dr ((s_l1Cur_one z 24).bind fun r20 =>
    bif r20.2 then
      (s_l1Cur_of r20.1 [([65] : Bytes), ([32] : Bytes), ([49] : Bytes)]).bind fun r21 =>
      bif decide (List.length s + List.length r21.2 ≤ lim) then
        some (r21.1, (s ++ r21.2))
      else
        none
    else
      some (r20.1, s)) c 400 (fun s => s.length ≤ 1000) := fun z s hz hs => by
    have oz := hz.ok hc (by omega)
    have bz := hz.at_
    obtain ⟨d4, v4, e4, g4, _⟩ := dr_one (n := 24) oz (by omega) (by omega)
    rw [e4]
    simp only [Option.bind_some]
    cases v4 with
    | false => exact ⟨d4, s, rfl, (hz.trans g4).mono (by omega), by omega⟩
    | true =>
      obtain ⟨d5, t, e5, g5, ht⟩ := dr_of (l := [([65] : Bytes), ([32] : Bytes), ([49] : Bytes)]) ((hz.trans g4).ok hc (by omega)) (by have := (hz.trans g4).at_; omega) (by simp)
      have ht2 : t.length ≤ 100 := by
        simp only [List.mem_cons, List.not_mem_nil, or_false] at ht
        rcases ht with rfl | rfl | rfl <;> decide
      simp only [cond_true, e5, Option.bind_some, limB (a := s) (b := t) (by omega) (by omega)]
      exact ⟨d5, _, rfl, ((hz.trans g4).trans g5).mono (by omega), by simp; omega⟩
  cases v3 with
  | false => exact fin d3 s (a3.mono (by omega)) (by omega)
  | true =>
    obtain ⟨d4, v4, e4, g4, v0, v1⟩ := dr_pick (n := 2) o3 (by omega) (by omega)
    simp only [cond_true, e4, Option.bind_some]
    obtain ⟨r, k1, s', k2, k3⟩ := meas_loop (f := (fun (st16 : (List Int) × Int × Int × Bytes) => (
        bif (decide ((st16.2.2.2.length : Int) < (w64 (40 + v4)))) then
          bif decide (List.length st16.2.2.2 + List.length ([97] : Bytes) ≤ lim) then
            some (.inl (st16.1, st16.2.1, st16.2.2.1, (st16.2.2.2 ++ ([97] : Bytes))))
          else
            none
        else
          some (.inr (st16.1, st16.2.1, st16.2.2.1, st16.2.2.2)) : Option (((List Int) × Int × Int × Bytes) ⊕ (((List Int) × Int × Int × Bytes))))))
      (fun k st => ∃ s : Bytes, st = (d4.1, d4.2.1, d4.2.2.1, s) ∧ k + s.length = 50) (fun r => ∃ s : Bytes, r = (d4.1, d4.2.1, d4.2.2.1, s) ∧ s.length ≤ 50) (fun k st ⟨s, e, hk⟩ => by
        subst e
        simp only
        rw [w64_of (by omega) (by omega)]
        by_cases hlt : (s.length : Int) < 40 + v4
        · right
          rw [dec_t hlt, limB (by omega) (by simp)]
          exact ⟨k - 1, _, by omega, rfl, s ++ [97], rfl, by simp; omega⟩
        · left
          rw [dec_f hlt]
          exact ⟨_, rfl, s, rfl, by omega⟩) (50 - s.length) _ ⟨s, rfl, by omega⟩
    subst k2
    rw [k1]
    simp only [Option.bind_some]
    exact fin d4 s' ((a3.trans g4).mono (by omega)) (by omega)

theorem go0 {code : List Int} (h : ∀ b ∈ code, 0 ≤ b ∧ b ≤ 255) (hl : code.length ≤ 9223372036854775807) : Ok ((code, 0, 0, ()) : Gl1Cur) := ⟨h, hl, Int.le_refl _, by show (0 : Int) ≤ _; omega⟩
theorem one_loop' {τ ρ : Type} {n : Nat} {f : τ → Option (τ ⊕ ρ)} {a : τ} {y : ρ} (R : Nat → τ → Prop) (h0 : R 0 a) (step : ∀ i a, i < n → R i a → ∃ a', f a = some (.inl a') ∧ R (i + 1) a') (fin : ∀ a, R n a → f a = some (.inr y)) : loopE f a = some y := by
  obtain ⟨z, h1, h2⟩ := one_loop (n := n) (f := f) R (fun z => z = y) (fun i a hi h => .inl (step i a hi h)) (fun a h => ⟨y, fin a h, rfl⟩) n 0 a (by omega) h0
  rw [h1, h2]
theorem bytes_of {l : List Int} (h : good (.slice (.int .u8)) l) : ∀ b ∈ l, 0 ≤ b ∧ b ≤ 255 := fun b hb => by
  have := h.2 b hb
  have h2 : wfI .u8 b := this
  simp [wfI, Lit.wf, IntKind.min, IntKind.max, IntKind.signed, IntKind.bits] at h2
  omega
end Go.Proofs.Ytlhplhjibadplaa.Sh
