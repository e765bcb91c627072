/-
  The draws that FnBookContests wants.
-/
import Derived.Test.YtlhplhjibadplaaBDraw8
namespace Go.Proofs.Ytlhplhjibadplaa.Sh
open Go Go.Ab
set_option maxRecDepth 100000

theorem draw_is {code : List Int} (h : ∀ b ∈ code, 0 ≤ b ∧ b ≤ 255) (hl : code.length ≤ 9223372036854775807) : ∃ b, s_DrawIsBook code = some b ∧ AnyOk b := by
  unfold s_DrawIsBook
  have z : (((code, 0, 0, ()) : Gl1Cur)).2.1 = 0 := rfl
  obtain ⟨d, b, e1, g1, hb⟩ := dr_anyBook (go0 h hl) (by rw [z]; omega)
  exact ⟨b, by rw [e1]; rfl, hb⟩

theorem draw_compare {code : List Int} (h : ∀ b ∈ code, 0 ≤ b ∧ b ≤ 255) (hl : code.length ≤ 9223372036854775807) : ∃ a b s, s_DrawCompareBooks code = some (a, b, s) ∧ AnyOk a ∧ AnyOk b ∧ s.length ≤ 1000 := by
  unfold s_DrawCompareBooks
  have o0 := go0 h hl
  have z : (((code, 0, 0, ()) : Gl1Cur)).2.1 = 0 := rfl
  obtain ⟨d1, a, e1, g1, ha⟩ := dr_anyBook o0 (by rw [z]; omega)
  have o1 := g1.ok o0 (by rw [z]; omega)
  have b1 := g1.at_
  rw [z] at b1
  obtain ⟨d2, b, e2, g2, hb⟩ := dr_anyBook o1 (by omega)
  have o2 := (g1.trans g2).ok o0 (by rw [z]; omega)
  have b2 := (g1.trans g2).at_
  rw [z] at b2
  obtain ⟨d3, v, e3, g3, _⟩ := dr_one (n := 2) o2 (by omega) (by omega)
  have o3 := ((g1.trans g2).trans g3).ok o0 (by rw [z]; omega)
  have b3 := ((g1.trans g2).trans g3).at_
  rw [z] at b3
  obtain ⟨d4, s, e4, _, hs⟩ := dr_letters o3 (by omega) ha
  have hlen := ha.len
  obtain ⟨w, e5, hw⟩ := deal_some ha (w := List.replicate (Int.toNat (a.1.length : Int)) (0 : Int)) (by simp; omega)
  have hg : (decide ((0 : Int) ≤ (a.1.length : Int)) && decide ((a.1.length : Int) ≤ (a.1.length : Int)) && decide ((a.1.length : Int) ≤ lim)) = true := by
    rw [dec_t (by omega : (0 : Int) ≤ (a.1.length : Int)), dec_t (Int.le_refl _), dec_t (by unfold lim; omega)]
    rfl
  rw [e1]
  simp only [Option.bind_some]
  rw [e2]
  simp only [Option.bind_some, e3, Q.s_good ha.fine]
  have hif : ((bif v then some (Q.isBook a) else some false) : Option Bool) = some (v && Q.isBook a) := by cases v <;> rfl
  rw [hif]
  simp only [Option.bind_some]
  cases (v && Q.isBook a) with
  | true =>
    simp only [cond_true, hg, e5, e4, Option.bind_some]
    exact ⟨a, w.1, s, rfl, ha, hw, hs⟩
  | false =>
    simp only [cond_false, e4, Option.bind_some]
    exact ⟨a, b, s, rfl, ha, hb, hs⟩

theorem draw_show {code : List Int} (h : ∀ b ∈ code, 0 ≤ b ∧ b ≤ 255) (hl : code.length ≤ 9223372036854775807) : ∃ b s n, s_DrawShowSeconds code = some (b, s, n) ∧ AnyOk b ∧ s.length ≤ 1000 := by
  unfold s_DrawShowSeconds
  have o0 := go0 h hl
  have z : (((code, 0, 0, ()) : Gl1Cur)).2.1 = 0 := rfl
  obtain ⟨d1, b, e1, g1, hb⟩ := dr_anyBook o0 (by rw [z]; omega)
  have o1 := g1.ok o0 (by rw [z]; omega)
  have b1 := g1.at_
  rw [z] at b1
  obtain ⟨d3, s, e3, g3, hs⟩ := dr_letters o1 (by omega) hb
  have o3 := (g1.trans g3).ok o0 (by rw [z]; omega)
  have b3 := (g1.trans g3).at_
  rw [z] at b3
  obtain ⟨d4, v, e4, g4, _⟩ := dr_among (l := [0, 61]) o3 (by omega) (by simp)
  have o4 := ((g1.trans g3).trans g4).ok o0 (by rw [z]; omega)
  have b4 := ((g1.trans g3).trans g4).at_
  rw [z] at b4
  obtain ⟨d5, t, e5, g5, _⟩ := dr_among (l := [1, 5, 20, 60, v]) o4 (by omega) (by simp)
  exact ⟨b, s, t, by simp only [e1, e3, e4, e5, Option.bind_some], hb, hs⟩

theorem limS {a : List Bytes} {x : Bytes} (h : a.length ≤ 1000) : decide (List.length a + List.length [x] ≤ lim) = true := by unfold lim; rw [List.length_singleton]; exact decide_eq_true (by omega)

theorem draw_wins {code : List Int} (h : ∀ b ∈ code, 0 ≤ b ∧ b ≤ 255) (hl : code.length ≤ 9223372036854775807) : ∃ a b l, s_DrawCountWins code = some (a, b, l) ∧ AnyOk a ∧ AnyOk b ∧ l.length ≤ 100 ∧ ∀ s ∈ l, s.length ≤ 1000 := by
  unfold s_DrawCountWins
  obtain ⟨a, b, s, e0, ha, hb, hs⟩ := draw_compare h hl
  rw [e0]
  simp only [Option.bind_some]
  have o0 := go0 h hl
  have z : (((code, 0, 0, ()) : Gl1Cur)).2.1 = 0 := rfl
  obtain ⟨d1, n, e1, g1, n0, n1⟩ := dr_pick (n := 6) o0 (by rw [z]; omega) (by omega)
  have o1 := g1.ok o0 (by rw [z]; omega)
  have b1 := g1.at_
  rw [z] at b1
  obtain ⟨d2, v, e2, g2, _⟩ := dr_one (n := 20) o1 (by omega) (by omega)
  have o2 := (g1.trans g2).ok o0 (by rw [z]; omega)
  have b2 := (g1.trans g2).at_
  rw [z] at b2
  have run : ∀ (d : Gl1Cur) (N : Int), N ≤ 30 → On (code, 0, 0, ()) 10 d → ∃ l, loopE (fun (st6 : (List GPhrase) × (List GPhrase) × (List Int) × Int × Int × (List GPhrase) × (List GPhrase) × (List Bytes)) => (
        bif (decide ((st6.2.2.2.2.2.2.2.length : Int) < N)) then
          (s_l1Cur_letters (st6.2.2.1, st6.2.2.2.1, st6.2.2.2.2.1, ()) (st6.2.2.2.2.2.2.1, ())).bind fun r7 =>
          bif decide (List.length st6.2.2.2.2.2.2.2 + List.length [r7.2] ≤ lim) then
            some (.inl (st6.1, st6.2.1, r7.1.1, r7.1.2.1, r7.1.2.2.1, st6.2.2.2.2.2.1, st6.2.2.2.2.2.2.1, (st6.2.2.2.2.2.2.2 ++ [r7.2])))
          else
            none
        else
          some (.inr (st6.1, st6.2.1, st6.2.2.2.2.2.1, st6.2.2.2.2.2.2.1, st6.2.2.2.2.2.2.2)) : Option (((List GPhrase) × (List GPhrase) × (List Int) × Int × Int × (List GPhrase) × (List GPhrase) × (List Bytes)) ⊕ (((List GPhrase) × (List GPhrase) × (List GPhrase) × (List GPhrase) × (List Bytes)))))) ([], [], d.1, d.2.1, d.2.2.1, a.1, b.1, [s]) = some ([], [], a.1, b.1, l) ∧ l.length ≤ 100 ∧ ∀ s ∈ l, s.length ≤ 1000 := fun d N hN hd => by
    obtain ⟨r, k1, l, k2, k3⟩ := meas_loop (f := (fun (st6 : (List GPhrase) × (List GPhrase) × (List Int) × Int × Int × (List GPhrase) × (List GPhrase) × (List Bytes)) => (
        bif (decide ((st6.2.2.2.2.2.2.2.length : Int) < N)) then
          (s_l1Cur_letters (st6.2.2.1, st6.2.2.2.1, st6.2.2.2.2.1, ()) (st6.2.2.2.2.2.2.1, ())).bind fun r7 =>
          bif decide (List.length st6.2.2.2.2.2.2.2 + List.length [r7.2] ≤ lim) then
            some (.inl (st6.1, st6.2.1, r7.1.1, r7.1.2.1, r7.1.2.2.1, st6.2.2.2.2.2.1, st6.2.2.2.2.2.2.1, (st6.2.2.2.2.2.2.2 ++ [r7.2])))
          else
            none
        else
          some (.inr (st6.1, st6.2.1, st6.2.2.2.2.2.1, st6.2.2.2.2.2.2.1, st6.2.2.2.2.2.2.2)) : Option (((List GPhrase) × (List GPhrase) × (List Int) × Int × Int × (List GPhrase) × (List GPhrase) × (List Bytes)) ⊕ (((List GPhrase) × (List GPhrase) × (List GPhrase) × (List GPhrase) × (List Bytes)))))))
      (fun k st => ∃ (d : Gl1Cur) (l : List Bytes), st = ([], [], d.1, d.2.1, d.2.2.1, a.1, b.1, l) ∧ k + l.length = 50 ∧ On (code, 0, 0, ()) (10 + 400 * l.length) d ∧ ∀ s ∈ l, s.length ≤ 1000) (fun r => ∃ l, r = ([], [], a.1, b.1, l) ∧ l.length ≤ 100 ∧ ∀ s ∈ l, s.length ≤ 1000) (fun k st ⟨d, l, e, hk, hd, hs⟩ => by
        subst e
        by_cases hlt : (l.length : Int) < N
        · right
          have od := hd.ok o0 (by rw [z]; omega)
          have bd := hd.at_
          rw [z] at bd
          obtain ⟨d2, t, e2, g2, ht⟩ := dr_letters od (by omega) hb
          have e2' : s_l1Cur_letters (d.1, d.2.1, d.2.2.1, ()) (b.1, ()) = some (d2, t) := e2
          refine ⟨k - 1, ([], [], d2.1, d2.2.1, d2.2.2.1, a.1, b.1, l ++ [t]), by omega, ?_, d2, l ++ [t], rfl, by simp; omega, (hd.trans g2).mono (by simp; omega), fun x hx => ?_⟩
          · simp only [dec_t hlt, cond_true, e2', Option.bind_some, limS (a := l) (x := t) (by omega)]
          · rcases List.mem_append.1 hx with hx | hx
            · exact hs x hx
            · rw [List.mem_singleton.1 hx]; exact ht
        · left
          exact ⟨_, by simp only [dec_f hlt, cond_false], l, rfl, by omega, hs⟩) 49 _ ⟨d, [s], rfl, rfl, hd.mono (by simp), fun x hx => by rw [List.mem_singleton.1 hx]; exact hs⟩
    exact ⟨l, by rw [k1, k2], k3⟩
  rw [e1]
  simp only [Option.bind_some, e2]
  cases v with
  | true =>
    obtain ⟨d3, v3, e3, g3, v0, v1⟩ := dr_pick (n := 2) o2 (by omega) (by omega)
    simp only [cond_true, e3, Option.bind_some]
    rw [w64_of (by omega) (by omega)]
    obtain ⟨l, k1, k2, k3⟩ := run d3 (20 + v3) (by omega) (((g1.trans g2).trans g3).mono (by omega))
    rw [k1]
    exact ⟨a, b, l, rfl, ha, hb, k2, k3⟩
  | false =>
    simp only [cond_false]
    obtain ⟨l, k1, k2, k3⟩ := run d2 n (by omega) ((g1.trans g2).mono (by omega))
    rw [k1]
    exact ⟨a, b, l, rfl, ha, hb, k2, k3⟩
end Go.Proofs.Ytlhplhjibadplaa.Sh
