/-
  The draws come to something of a bounded size.
-/
import Derived.Test.YtffmiefhnbkcbaaGreatYL3
namespace Go.Proofs.YtffmiefhnbkcbaaGreat.Sh
open Go Go.Ab Go.Proofs
set_option maxRecDepth 100000
theorem lim2 {α : Type} {l : List α} {x : α} (h : l.length ≤ 1000000) : List.length l + List.length [x] ≤ lim := by unfold lim; simp only [List.length_cons, List.length_nil]; omega
theorem len1 {α : Type} {l : List α} {x : α} : (l ++ [x]).length = l.length + 1 := by simp
theorem t_fill {c : Gl1Cur} {n : Nat} (h : At c n) (hn : n ≤ 1000000) {m : Int} (hm : m ≤ 40) : To (loopE (fun (st5 : (List Int) × Int × Int × (List Int)) => (
        bif (decide ((st5.2.2.2.length : Int) < m)) then
          (s_l1Cur_pick (st5.1, st5.2.1, st5.2.2.1, ()) 1024).bind fun r6 =>
          (s_l1Cur_among r6.1 [0, 0, 512, 1, 3, 511, 1023, r6.2]).bind fun r7 =>
          bif decide (List.length st5.2.2.2 + List.length [r7.2] ≤ lim) then
            some (.inl (r7.1.1, r7.1.2.1, r7.1.2.2.1, (st5.2.2.2 ++ [r7.2])))
          else
            none
        else
          some (.inr (st5.1, st5.2.1, st5.2.2.1, st5.2.2.2)) : Option (((List Int) × Int × Int × (List Int)) ⊕ (((List Int) × Int × Int × (List Int)))))) (c.1, c.2.1, c.2.2.1, []))
    (fun o => At (o.1, o.2.1, o.2.2.1, ()) (n + 400) ∧ o.2.2.2.length ≤ 40 ∧ m ≤ (o.2.2.2.length : Int)) := by
  refine To.loop (fun k st => At (st.1, st.2.1, st.2.2.1, ()) (n + 10 * st.2.2.2.length) ∧ st.2.2.2.length + k = 40) (n := 40) ⟨h, rfl⟩ ?_
  rintro k ⟨s1, s2, s3, s4⟩ ⟨g1, g2⟩
  simp only at g1 g2
  refine To.ite (fun hlt => ?_) (fun hge => ?_)
  · simp only at hlt
    refine (t_pick g1 (by omega) 1024).bind ?_
    rintro ⟨d3, v3⟩ ⟨a3, _, _⟩
    refine (t_among a3 (by omega) (by simp)).bind ?_
    rintro ⟨d4, v4⟩ ⟨a4, _⟩
    refine To.guard (lim2 (by simp only; omega)) (.ret (.on (k - 1) (by omega) ⟨?_, ?_⟩))
    · refine At.mono a4 ?_
      simp only [len1]; omega
    · simp only [len1]; omega
  · simp only at hge
    exact .ret (.end_ ⟨At.mono g1 (by omega), by simp only; omega, by simp only; omega⟩)
theorem t_spoil {c : Gl1Cur} {n : Nat} (h : At c n) (hn : n ≤ 1000000) {m : Int} {l : List Int} (hl : l.length ≤ 40) (hm : m ≤ (l.length : Int)) : To (bif (decide (0 < m)) then
      (s_l1Cur_one (c.1, c.2.1, c.2.2.1, ()) 20).bind fun r9 =>
      bif r9.2 then
        (s_l1Cur_pick r9.1 m).bind fun r10 =>
        (s_l1Cur_among r10.1 [(-1), 1024]).bind fun r11 =>
        bif decide (0 ≤ r10.2) && decide (r10.2 < (l.length : Int)) then
          some (r11.1, (l.set (Int.toNat r10.2) r11.2))
        else
          none
      else
        some (r9.1, l)
    else
      bif false then
        (s_l1Cur_pick (c.1, c.2.1, c.2.2.1, ()) m).bind fun r12 =>
        (s_l1Cur_among r12.1 [(-1), 1024]).bind fun r13 =>
        bif decide (0 ≤ r12.2) && decide (r12.2 < (l.length : Int)) then
          some (r13.1, (l.set (Int.toNat r12.2) r13.2))
        else
          none
      else
        some ((c.1, c.2.1, c.2.2.1, ()), l)) (fun r => At r.1 (n + 10) ∧ r.2.length ≤ 40) := by
  refine To.ite (fun hlt => ?_) (fun hge => .ret ⟨At.mono h (by omega), hl⟩)
  refine (t_one h (by omega) 20).bind ?_
  rintro ⟨d3, v3⟩ a3
  refine To.cond ?_ (.ret ⟨At.mono a3 (by omega), hl⟩)
  refine (t_pick a3 (by omega) m).bind ?_
  rintro ⟨d4, v4⟩ ⟨a4, b4, c4⟩
  refine (t_among a4 (by omega) (by simp)).bind ?_
  rintro ⟨d5, v5⟩ ⟨a5, _⟩
  have := c4 hlt
  exact To.guard2 b4 (by simp only at this ⊢; omega) (.ret ⟨At.mono a5 (by omega), by simpa using hl⟩)
theorem t_ack {c : Gl1Cur} {n : Nat} (h : At c n) (hn : n ≤ 100000) : To (s_l1Cur_ackScript c) (fun r => At r.1 (n + 1000) ∧ r.2.length ≤ 40) := by
  unfold s_l1Cur_ackScript
  refine (t_pick h (by omega) 9).bind ?_
  rintro ⟨d1, v1⟩ ⟨a1, b1, c1⟩
  have c1 := c1 (by omega)
  refine (t_one a1 (by omega) 16).bind ?_
  rintro ⟨d2, v2⟩ a2
  refine To.cond ?_ ?_
  · refine (t_pick a2 (by omega) 2).bind ?_
    rintro ⟨d3, v3⟩ ⟨a3, b3, c3⟩
    have c3 := c3 (by omega)
    have hw : w64 (30 + v3) = 30 + v3 := w64_of (by simp only at b3 c3; omega) (by simp only at b3 c3; omega)
    simp only [hw]
    refine (t_fill a3 (by omega) (m := 30 + v3) (by simp only at c3; omega)).bind ?_
    rintro ⟨o1, o2, o3, o4⟩ ⟨a4, b4, c4⟩
    exact (t_spoil a4 (by omega) b4 c4).mono fun r hr => ⟨At.mono hr.1 (by omega), hr.2⟩
  · refine (t_fill a2 (by omega) (m := v1) (by simp only at c1; omega)).bind ?_
    rintro ⟨o1, o2, o3, o4⟩ ⟨a4, b4, c4⟩
    exact (t_spoil a4 (by omega) b4 c4).mono fun r hr => ⟨At.mono hr.1 (by omega), hr.2⟩
theorem t_start {code : List Int} (hb : ∀ b ∈ code, 0 ≤ b ∧ b ≤ 255) (hl : code.length ≤ 1048576) : At (code, 0, 0, ()) 0 := ⟨⟨hb, hl, by simp, by simp⟩, by simp⟩
theorem t_stands {code : List Int} (hb : ∀ b ∈ code, 0 ≤ b ∧ b ≤ 255) (hl : code.length ≤ 1048576) : To (s_DrawStandsAfter code) (fun r => r.2.2.1.length ≤ 40) := by
  unfold s_DrawStandsAfter s_DrawArrivedAfter s_l1Cur_partsOf s_l1Cur_windowOf
  refine To.bind (Q := fun r => r.2.2.1.length ≤ 40) ?_ fun r hr => .ret hr
  refine To.bind (Q := fun r : Gl1Cur × Int => At r.1 10) ?_ ?_
  · refine (t_among (t_start hb hl) (by omega) (by simp)).bind ?_
    rintro ⟨d1, v1⟩ ⟨a1, _⟩
    refine (t_among a1 (by omega) (by simp)).bind ?_
    rintro ⟨d2, v2⟩ ⟨a2, _⟩
    exact .ret (At.mono a2 (by omega))
  rintro ⟨d1, v1⟩ a1
  refine To.bind (Q := fun r : Gl1Cur × Int => At r.1 20) ?_ ?_
  · refine (t_among a1 (by omega) (by simp)).bind ?_
    rintro ⟨d1, v1⟩ ⟨a1, _⟩
    refine (t_among a1 (by omega) (by simp)).bind ?_
    rintro ⟨d2, v2⟩ ⟨a2, _⟩
    exact .ret (At.mono a2 (by omega))
  rintro ⟨d2, v2⟩ a2
  refine (t_ack a2 (by omega)).bind ?_
  rintro ⟨d3, v3⟩ ⟨a3, b3⟩
  refine (t_among a3 (by omega) (by simp)).bind ?_
  rintro ⟨d4, v4⟩ ⟨a4, _⟩
  refine (t_among a4 (by omega) (by simp)).bind ?_
  rintro ⟨d5, v5⟩ ⟨a5, _⟩
  exact .ret b3
theorem t_content {c : Gl1Cur} {n : Nat} (h : At c n) (hn : n ≤ 1000000000) : To (s_l1Cur_content c) (fun r => At r.1 (n + 2)) := by
  unfold s_l1Cur_content
  exact (t_pick h hn 60).bind fun r hr => .ret hr.1
theorem t_contents {c : Gl1Cur} {n : Nat} (h : At c n) (hn : n ≤ 100000000) {m : Int} (hm : m ≤ 20) : To (s_l1Cur_contents c m) (fun r => At r.1 (n + 200) ∧ r.2.length ≤ 20 ∧ m ≤ (r.2.length : Int)) := by
  unfold s_l1Cur_contents
  refine To.bind (Q := fun o => At (o.1, o.2.1, o.2.2.1, ()) (n + 200) ∧ o.2.2.2.length ≤ 20 ∧ m ≤ (o.2.2.2.length : Int)) ?_ fun r hr => .ret hr
  refine To.loop (fun k st => At (st.1, st.2.1, st.2.2.1, ()) (n + 10 * st.2.2.2.2.length) ∧ st.2.2.2.2.length + k = 20 ∧ st.2.2.2.1 + (st.2.2.2.2.length : Int) = m) (n := 20) ⟨h, rfl, by simp⟩ ?_
  rintro k ⟨s1, s2, s3, s4, s5⟩ ⟨g1, g2, g3⟩
  simp only at g1 g2 g3
  refine To.ite (fun hlt => ?_) (fun hge => ?_)
  · simp only at hlt
    refine (t_content g1 (by omega)).bind ?_
    rintro ⟨d3, v3⟩ a3
    refine (t_content a3 (by omega)).bind ?_
    rintro ⟨d4, v4⟩ a4
    refine (t_among a4 (by omega) (by simp)).bind ?_
    rintro ⟨d5, v5⟩ ⟨a5, _⟩
    refine To.guard (lim2 (by simp only; omega)) (.ret (.on (k - 1) (by omega) ⟨?_, ?_, ?_⟩))
    · refine At.mono a5 ?_
      simp only [len1]; omega
    · simp only [len1]; omega
    · show w64 (s4 - 1) + ((s5 ++ [v5]).length : Int) = m
      rw [w64_of (by omega) (by omega), len1]; omega
  · simp only at hge
    exact .ret (.end_ ⟨At.mono g1 (by omega), by simp only; omega, by simp only; omega⟩)
def DrV (e : GEntry) : Prop := e.2.2.2.1.length ≤ 20 ∧ e.2.2.2.2.1.length ≤ 20
theorem t_entry {c : Gl1Cur} {n : Nat} (h : At c n) (hn : n ≤ 10000000) (t : Int) : To (s_l1Cur_entry c t) (fun r => At r.1 (n + 1000) ∧ DrV r.2) := by
  unfold s_l1Cur_entry
  refine (t_among h (by omega) (by simp)).bind ?_
  rintro ⟨d1, v1⟩ ⟨a1, _⟩
  refine (t_pick a1 (by omega) 4).bind ?_
  rintro ⟨d2, v2⟩ ⟨a2, _, _⟩
  refine (t_pick a2 (by omega) 3).bind ?_
  rintro ⟨d3, v3⟩ ⟨a3, b3, c3⟩
  have c3 := c3 (by omega)
  simp only at b3 c3
  have hw : w64 (1 + v3) = 1 + v3 := w64_of (by omega) (by omega)
  simp only [hw]
  refine (t_contents a3 (by omega) (m := 1 + v3) (by omega)).bind ?_
  rintro ⟨d4, v4⟩ ⟨a4, b4, c4⟩
  refine To.bind (Q := fun j => At (j.1, j.2.1, j.2.2.1, ()) (n + 500) ∧ j.2.2.2.2.2.2.2.2.2.2.2.1.length ≤ 20 ∧ 1 ≤ j.2.2.2.2.2.2.2.2.2.2.2.1.length) ?_ ?_
  · refine (t_one a4 (by omega) 24).bind ?_
    rintro ⟨d5, v5⟩ a5
    refine To.cond ?_ (.ret ⟨At.mono a5 (by omega), b4, by simp only at c4 ⊢; omega⟩)
    refine (t_pick a5 (by omega) 2).bind ?_
    rintro ⟨d6, v6⟩ ⟨a6, b6, c6⟩
    have c6 := c6 (by omega)
    simp only at b6 c6
    have hw : w64 (8 + v6) = 8 + v6 := w64_of (by omega) (by omega)
    simp only [hw]
    refine (t_contents a6 (by omega) (m := 8 + v6) (by omega)).bind ?_
    rintro ⟨d7, v7⟩ ⟨a7, b7, c7⟩
    exact .ret ⟨At.mono a7 (by omega), b7, by simp only at c7 ⊢; omega⟩
  rintro ⟨k1, k2, k3, k4, k5, k6, k7, k8, k9, k10, k11, k12, k13⟩ ⟨a5, b5, c5⟩
  simp only at a5 b5 c5
  simp only [ownInt (show k12.length ≤ 1048576 by omega), Option.bind_some]
  refine (t_one a5 (by omega) 5).bind ?_
  rintro ⟨d6, v6⟩ a6
  have tail : ∀ (d : Gl1Cur) (l : List Int), At d (n + 600) → l.length = k12.length → To ((s_l1Cur_pick d 40).bind fun r18 =>
    bif (decide (r18.2 = 0)) then
      (s_l1Cur_among r18.1 [(-1), 10000, 10001]).bind fun r19 =>
      some (r19.1, ((r19.2, k10, k11, k12, l, ()) : GEntry))
    else
      bif (decide (r18.2 = 1)) then
        (s_l1Cur_among r18.1 [0, 1000]).bind fun r20 =>
        some (r20.1, (k9, r20.2, k11, k12, l, ()))
      else
        bif (decide (r18.2 = 2)) then
          (s_l1Cur_among r18.1 [(-1), 8, 9]).bind fun r21 =>
          some (r21.1, (k9, k10, r21.2, k12, l, ()))
        else
          bif (decide (r18.2 = 3)) then
            some (r18.1, (k9, k10, k11, [], l, ()))
          else
            bif (decide (r18.2 = 4)) then
              (s_l1Cur_among r18.1 [(-1), 0, 63, 64]).bind fun r22 =>
              bif decide (0 ≤ 0) && decide (0 < (l.length : Int)) then
                some (r22.1, (k9, k10, k11, k12, (l.set (Int.toNat 0) r22.2), ()))
              else
                none
            else
              some (r18.1, (k9, k10, k11, k12, l, ()))) (fun r => At r.1 (n + 1000) ∧ DrV r.2) := by
    intro d l hd hl
    refine (t_pick hd (by omega) 40).bind ?_
    rintro ⟨e1, w1⟩ ⟨f1, _, _⟩
    refine To.cond ((t_among f1 (by omega) (by simp)).bind ?_) (To.cond ((t_among f1 (by omega) (by simp)).bind ?_) (To.cond ((t_among f1 (by omega) (by simp)).bind ?_) (To.cond ?_ (To.cond ((t_among f1 (by omega) (by simp)).bind ?_) ?_))))
    · rintro ⟨e2, w2⟩ ⟨f2, _⟩; exact .ret ⟨At.mono f2 (by omega), b5, by simp only; omega⟩
    · rintro ⟨e2, w2⟩ ⟨f2, _⟩; exact .ret ⟨At.mono f2 (by omega), b5, by simp only; omega⟩
    · rintro ⟨e2, w2⟩ ⟨f2, _⟩; exact .ret ⟨At.mono f2 (by omega), b5, by simp only; omega⟩
    · exact .ret ⟨At.mono f1 (by omega), by simp, by simp only; omega⟩
    · rintro ⟨e2, w2⟩ ⟨f2, _⟩
      exact To.guard2 (by omega) (by omega) (.ret ⟨At.mono f2 (by omega), b5, by simp only [List.length_set]; omega⟩)
    · exact .ret ⟨At.mono f1 (by omega), b5, by simp only; omega⟩
  refine To.cond ?_ ?_
  · refine (t_pick a6 (by omega) (k12.length : Int)).bind ?_
    rintro ⟨d7, v7⟩ ⟨a7, b7, c7⟩
    have c7 := c7 (by omega)
    simp only at b7 c7
    refine (t_pick a7 (by omega) 64).bind ?_
    rintro ⟨d8, v8⟩ ⟨a8, _, _⟩
    exact To.guard2 b7 c7 (tail _ _ (At.mono a8 (by omega)) (by simp))
  · exact tail _ _ (At.mono a6 (by omega)) rfl
end Go.Proofs.YtffmiefhnbkcbaaGreat.Sh
namespace Go.Proofs.YtffmiefhnbkcbaaGreat.Sh
open Go Go.Ab Go.Proofs
set_option maxRecDepth 100000
structure DrE (l : List GEntry) : Prop where
  len : l.length ≤ 40
  ent : ∀ e ∈ l, DrV e
theorem DrE.fine {l : List GEntry} (h : DrE l) : FineE l := ⟨by have := h.len; omega, fun e he => by have := h.ent e he; unfold DrV at this; omega⟩
theorem DrE.snoc {l : List GEntry} (h : ∀ e ∈ l, DrV e) {e : GEntry} (he : DrV e) : ∀ d ∈ l ++ [e], DrV d := fun d hd => by
  rcases List.mem_append.1 hd with hd | hd
  · exact h d hd
  · rw [List.mem_singleton.1 hd]; exact he
theorem t_log {c : Gl1Cur} {n : Nat} (h : At c n) (hn : n ≤ 5000000) : To (s_l1Cur_log c) (fun r => At r.1 (n + 20000) ∧ DrE r.2) := by
  unfold s_l1Cur_log
  refine (t_pick h (by omega) 50).bind ?_
  rintro ⟨d1, v1⟩ ⟨a1, b1, c1⟩
  refine (t_pick a1 (by omega) 9).bind ?_
  rintro ⟨d2, v2⟩ ⟨a2, b2, c2⟩
  have c2 := c2 (by omega)
  simp only at b2 c2
  refine To.bind (Q := fun o => At (o.1, o.2.1, o.2.2.1, ()) (n + 15000) ∧ DrE o.2.2.2) ?_ ?_
  · refine To.loop (fun k st => ∃ i : Nat, i + k = 9 ∧ (st.2.2.2.2.2 + (i : Int) = v2) ∧ At (st.1, st.2.1, st.2.2.1, ()) (n + 4 + 1100 * i) ∧ st.2.2.2.1.length ≤ i ∧ ∀ e ∈ st.2.2.2.1, DrV e) (n := 9) ⟨0, rfl, by simp, a2, by simp, by simp⟩ ?_
    rintro k ⟨s1, s2, s3, s4, s5, s6⟩ ⟨i, g1, g2, g3, g4, g5⟩
    simp only at g2 g3 g4 g5
    refine To.ite (fun hlt => ?_) (fun hge => ?_)
    · simp only at hlt
      refine (t_entry g3 (by omega) s5).bind ?_
      rintro ⟨d3, e⟩ ⟨a3, b3⟩
      simp only [List.take_left, bothSame_self]
      refine To.guard (lim2 (by omega)) ?_
      have hs : DrE (s4 ++ [e]) := ⟨by rw [len1]; omega, DrE.snoc g5 b3⟩
      rw [s_log hs.fine]
      simp only [Option.bind_some, cond_true]
      have hw : w64 (s6 - 1) = s6 - 1 := w64_of (by omega) (by omega)
      rw [hw]
      refine To.cond ?_ ?_
      · refine (t_among a3 (by omega) (by simp)).bind ?_
        rintro ⟨d4, v4⟩ ⟨a4, _⟩
        exact .ret (.on (k - 1) (by omega) ⟨i + 1, by omega, by simp only; omega, At.mono a4 (by omega), by simp only [len1]; omega, hs.ent⟩)
      · refine (t_one a3 (by omega) 30).bind ?_
        rintro ⟨d4, v4⟩ a4
        refine To.cond ?_ ?_
        · refine (t_among a4 (by omega) (by simp)).bind ?_
          rintro ⟨d5, v5⟩ ⟨a5, _⟩
          exact .ret (.on (k - 1) (by omega) ⟨i + 1, by omega, by simp only; omega, At.mono a5 (by omega), by simp only [len1]; omega, hs.ent⟩)
        · refine (t_among a4 (by omega) (by simp)).bind ?_
          rintro ⟨d5, v5⟩ ⟨a5, _⟩
          exact .ret (.on (k - 1) (by omega) ⟨i + 1, by omega, by simp only; omega, At.mono a5 (by omega), by simp only; omega, g5⟩)
    · simp only at hge
      exact .ret (.end_ ⟨At.mono g3 (by omega), by simp only; omega, g5⟩)
  rintro ⟨o1, o2, o3, o4⟩ ⟨a3, b3⟩
  refine (t_one a3 (by omega) 24).bind ?_
  rintro ⟨d4, v4⟩ a4
  refine To.cond ?_ (.ret ⟨At.mono a4 (by omega), b3⟩)
  refine (t_pick a4 (by omega) 2).bind ?_
  rintro ⟨d5, v5⟩ ⟨a5, b5, c5⟩
  have c5 := c5 (by omega)
  simp only at b5 c5
  have hw : w64 (30 + v5) = 30 + v5 := w64_of (by omega) (by omega)
  simp only [hw]
  refine To.bind (Q := fun o => At (o.1, o.2.1, o.2.2.1, ()) (n + 20000) ∧ DrE o.2.2.2) ?_ fun r hr => .ret hr
  refine To.loop (fun k st => st.2.2.2.length + k = 40 ∧ At (st.1, st.2.1, st.2.2.1, ()) (n + 20000) ∧ ∀ e ∈ st.2.2.2, DrV e) (n := 40) ⟨rfl, At.mono a5 (by omega), by simp⟩ ?_
  rintro k ⟨s1, s2, s3, s4⟩ ⟨g1, g2, g3⟩
  simp only at g1 g2 g3
  refine To.ite (fun hlt => ?_) (fun hge => ?_)
  · simp only at hlt
    exact To.guard (by unfold lim; simp only [List.length_cons, List.length_nil]; omega) (.ret (.on (k - 1) (by omega) ⟨by simp only [len1]; omega, g2, DrE.snoc g3 ⟨by simp, by simp⟩⟩))
  · exact .ret (.end_ ⟨g2, by simp only; omega, g3⟩)
theorem ent_lens {e : GEntry} (h : entB e = true) : 1 ≤ e.2.2.2.1.length ∧ e.2.2.2.1.length ≤ 8 ∧ 1 ≤ e.2.2.2.2.1.length ∧ e.2.2.2.2.1.length ≤ 8 := by
  unfold entB at h
  simp only [Bool.and_eq_true, inB_iff] at h
  omega
theorem ent_in {l : List GEntry} (h : isLog l = true) {e : GEntry} (he : e ∈ l) : entB e = true := by
  unfold isLog at h
  rw [Bool.and_eq_true, List.all_eq_true] at h
  obtain ⟨i, hi, rfl⟩ := List.getElem_of_mem he
  have := h.1 i (List.mem_range.2 hi)
  unfold okE at this
  rw [List.getElem?_eq_getElem hi, Bool.and_eq_true] at this
  exact this.1
theorem t_most (a b : Int) : To (s_l1Most a b) (fun _ => True) := by
  unfold s_l1Most
  cases decide (b < a) <;> exact .ret trivial
theorem t_least (a b : Int) : To (s_l1Least a b) (fun _ => True) := by
  unfold s_l1Least
  cases decide (a < b) <;> exact .ret trivial
theorem t_passed {c : Gl1Cur} {n : Nat} (h : At c n) (hn : n ≤ 5000000) {l : List GEntry} (hl : isLog l = true) : To (s_l1Cur_passedOn c l) (fun r => At r.1 (n + 20000) ∧ DrE r.2) := by
  have hlen : (l.length : Int) ≤ 30 := by unfold isLog at hl; rw [Bool.and_eq_true, decide_eq_true_eq] at hl; exact hl.2
  unfold s_l1Cur_passedOn
  refine To.bind (Q := fun o => At (o.1, o.2.1, o.2.2.1, ()) (n + 15000) ∧ o.2.2.2.length ≤ 30 ∧ ∀ e ∈ o.2.2.2, DrV e) ?_ ?_
  · refine To.loop (fun k st => ∃ i : Nat, i + k = l.length ∧ st.2.2.2.2 = (i : Int) ∧ At (st.1, st.2.1, st.2.2.1, ()) (n + 100 * i) ∧ st.2.2.2.1.length ≤ i ∧ ∀ e ∈ st.2.2.2.1, DrV e) (n := l.length) ⟨0, by omega, rfl, h, by simp, by simp⟩ ?_
    rintro k ⟨s1, s2, s3, s4, s5⟩ ⟨i, g1, g2, g3, g4, g5⟩
    simp only at g2 g3 g4 g5
    subst g2
    refine To.ite (fun hlt => ?_) (fun hge => ?_)
    · simp only at hlt
      refine To.idx (by simp only; omega) hlt fun e he => ?_
      have hx := ent_lens (ent_in hl he)
      obtain ⟨e1, e2, e3, e4, e5, e6⟩ := e
      simp only at hx
      have hw : w64 ((i : Int) + 1) = ((i + 1 : Nat) : Int) := w64_of (by omega) (by omega)
      simp only [hw]
      refine (t_one g3 (by omega) 12).bind ?_
      rintro ⟨d1, v1⟩ a1
      refine To.cond (.ret (.on (k - 1) (by omega) ⟨i + 1, by omega, rfl, At.mono a1 (by omega), by simp only; omega, g5⟩)) ?_
      refine (t_pick a1 (by omega) 5).bind ?_
      rintro ⟨d2, v2⟩ ⟨a2, _, _⟩
      refine (t_least _ _).bind fun tm _ => ?_
      simp only [ownInt (show e5.length ≤ 1048576 by omega), Option.bind_some]
      refine To.bind (Q := fun j => At (j.1, j.2.1, j.2.2.1, ()) (n + 100 * i + 10) ∧ j.2.2.2.1 = s4 ∧ j.2.2.2.2.2.2.2.2.2.2.2.2.1.length ≤ 20 ∧ 1 ≤ j.2.2.2.2.2.2.2.2.2.2.2.2.2.length ∧ j.2.2.2.2.2.2.2.2.2.2.2.2.2.length ≤ 20) ?_ ?_
      · refine (t_one a2 (by omega) 12).bind ?_
        rintro ⟨d3, v3⟩ a3
        refine To.cond ?_ (.ret ⟨At.mono a3 (by omega), rfl, by simp only; omega, by simp only; omega, by simp only; omega⟩)
        refine (t_pick a3 (by omega) 64).bind ?_
        rintro ⟨d4, v4⟩ ⟨a4, _, _⟩
        refine To.guard2 (by omega) (by omega) ?_
        simp only [ownInt (show (e5.set (Int.toNat 0) v4).length ≤ 1048576 by rw [List.length_set]; omega), Option.bind_some]
        exact .ret ⟨At.mono a4 (by omega), rfl, by simp only [List.length_set]; omega, by simp only [List.length_set]; omega, by simp only [List.length_set]; omega⟩
      rintro ⟨j1, j2, j3, j4, j5, j6, j7, j8, j9, j10, j11, j12, j13, j14⟩ ⟨a3, b3, c3, f3, h3⟩
      simp only at a3 b3 c3 f3 h3
      subst b3
      simp only
      have push : ∀ (d : Gl1Cur) (tm : Int) (sh : List Int), At d (n + 100 * i + 50) → sh.length ≤ 20 → To (bif decide (List.length j4 + List.length [((tm, j11, j12, j13, sh, ()) : GEntry)] ≤ lim) then
          (some (.inl (d.1, d.2.1, d.2.2.1, (j4 ++ [(tm, j11, j12, j13, sh, ())]), ((i + 1 : Nat) : Int))) : Option (((List Int) × Int × Int × (List GEntry) × Int) ⊕ (((List Int) × Int × Int × (List GEntry))))) else none)
          (Turn (fun k st => ∃ i : Nat, i + k = l.length ∧ st.2.2.2.2 = (i : Int) ∧ At (st.1, st.2.1, st.2.2.1, ()) (n + 100 * i) ∧ st.2.2.2.1.length ≤ i ∧ ∀ e ∈ st.2.2.2.1, DrV e) (fun o => At (o.1, o.2.1, o.2.2.1, ()) (n + 15000) ∧ o.2.2.2.length ≤ 30 ∧ ∀ e ∈ o.2.2.2, DrV e) k) := fun d tm sh hd hsh =>
        To.guard (lim2 (by omega)) (.ret (.on (k - 1) (by omega) ⟨i + 1, by omega, rfl, At.mono hd (by omega), by simp only [len1]; omega, DrE.snoc g5 ⟨c3, hsh⟩⟩))
      have push2 : ∀ (d : Gl1Cur) (tm : Int) (sh : List Int), At d (n + 100 * i + 50) → sh.length ≤ 20 → To (bif (decide (0 < (j4.length : Int))) then
          bif decide (0 ≤ (w64 ((j4.length : Int) - 1))) && decide ((w64 ((j4.length : Int) - 1)) < (j4.length : Int)) then
            (j4[(Int.toNat (w64 ((j4.length : Int) - 1)))]?).bind fun e27 =>
            (s_l1Most tm e27.1).bind fun r28 =>
            bif decide (List.length j4 + List.length [((r28, j11, j12, j13, sh, ()) : GEntry)] ≤ lim) then
              (some (.inl (d.1, d.2.1, d.2.2.1, (j4 ++ [(r28, j11, j12, j13, sh, ())]), ((i + 1 : Nat) : Int))) : Option (((List Int) × Int × Int × (List GEntry) × Int) ⊕ (((List Int) × Int × Int × (List GEntry)))))
            else
              none
          else
            none
        else
          bif decide (List.length j4 + List.length [((tm, j11, j12, j13, sh, ()) : GEntry)] ≤ lim) then
            some (.inl (d.1, d.2.1, d.2.2.1, (j4 ++ [(tm, j11, j12, j13, sh, ())]), ((i + 1 : Nat) : Int)))
          else
            none)
          (Turn (fun k st => ∃ i : Nat, i + k = l.length ∧ st.2.2.2.2 = (i : Int) ∧ At (st.1, st.2.1, st.2.2.1, ()) (n + 100 * i) ∧ st.2.2.2.1.length ≤ i ∧ ∀ e ∈ st.2.2.2.1, DrV e) (fun o => At (o.1, o.2.1, o.2.2.1, ()) (n + 15000) ∧ o.2.2.2.length ≤ 30 ∧ ∀ e ∈ o.2.2.2, DrV e) k) := fun d tm sh hd hsh => by
        refine To.ite (fun h0 => ?_) fun _ => push d tm sh hd hsh
        have hw : w64 ((j4.length : Int) - 1) = (j4.length : Int) - 1 := w64_of (by omega) (by omega)
        rw [hw]
        refine To.guard2 (by omega) (by omega) (To.at_ (by omega) (by omega) fun e _ => ?_)
        exact (t_most _ _).bind fun r _ => push d r sh hd hsh
      refine (t_one a3 (by omega) 12).bind ?_
      rintro ⟨d3, v3⟩ a4
      refine To.cond ?_ ?_
      · refine (t_pick a4 (by omega) 64).bind ?_
        rintro ⟨d4, v4⟩ ⟨a5, _, _⟩
        have hw2 : w64 ((j14.length : Int) - 1) = (j14.length : Int) - 1 := w64_of (by omega) (by omega)
        simp only [hw2]
        refine To.guard2 (by omega) (by omega) ?_
        refine (t_one a5 (by omega) 16).bind ?_
        rintro ⟨d5, v5⟩ a6
        refine To.cond ?_ ?_
        · refine (t_pick a6 (by omega) 3).bind ?_
          rintro ⟨d6, v6⟩ ⟨a7, _, _⟩
          refine (t_most _ _).bind fun r _ => ?_
          exact push2 d6 r _ (At.mono a7 (by omega)) (by rw [List.length_set]; exact h3)
        · exact push2 d5 _ _ (At.mono a6 (by omega)) (by rw [List.length_set]; exact h3)
      · refine (t_one a4 (by omega) 16).bind ?_
        rintro ⟨d5, v5⟩ a6
        refine To.cond ?_ ?_
        · refine (t_pick a6 (by omega) 3).bind ?_
          rintro ⟨d6, v6⟩ ⟨a7, _, _⟩
          refine (t_most _ _).bind fun r _ => ?_
          exact push2 d6 r _ (At.mono a7 (by omega)) h3
        · exact push2 d5 _ _ (At.mono a6 (by omega)) h3
    · simp only at hge
      exact .ret (.end_ ⟨At.mono g3 (by omega), by simp only; omega, g5⟩)
  rintro ⟨o1, o2, o3, o4⟩ ⟨a1, b1, c1⟩
  simp only at b1 c1
  refine (t_one a1 (by omega) 12).bind ?_
  rintro ⟨d2, v2⟩ a2
  refine To.cond ?_ (.ret ⟨At.mono a2 (by omega), by simp only; omega, c1⟩)
  refine (t_pick a2 (by omega) 20).bind ?_
  rintro ⟨d3, v3⟩ ⟨a3, _, _⟩
  refine (t_pick a3 (by omega) 9).bind ?_
  rintro ⟨d4, v4⟩ ⟨a4, _, _⟩
  exact To.guard (by unfold lim; simp only [List.length_cons, List.length_nil]; omega) (.ret ⟨At.mono a4 (by omega), by simp only [len1]; omega, DrE.snoc c1 ⟨by simp, by simp⟩⟩)
theorem lines_step {c : Gl1Cur} {n : Nat} (h : At c n) (hn : n ≤ 4000000) {L : List (List GEntry)} (h0 : 1 ≤ L.length) (hL : L.length ≤ 12) (hd : ∀ l ∈ L, DrE l) {Q : (List Int) × Int × Int × (List (List GEntry)) → Prop} {k : Nat} (I : Nat → (List Int) × Int × Int × (List (List GEntry)) → Prop)
    (hI : ∀ (d : Gl1Cur) (l : List GEntry), At d (n + 30000) → DrE l → ∃ m, m < k ∧ I m (d.1, d.2.1, d.2.2.1, L ++ [l])) :
    To (bif decide (0 ≤ (w64 ((L.length : Int) - 1))) && decide ((w64 ((L.length : Int) - 1)) < (L.length : Int)) then
            (L[(Int.toNat (w64 ((L.length : Int) - 1)))]?).bind fun e7 =>
            (s_lgGood e7).bind fun r8 =>
            bif r8 then
              (s_l1Cur_one c 24).bind fun r9 =>
              bif (!r9.2) then
                (s_l1Cur_passedOn r9.1 e7).bind fun r10 =>
                bif decide (List.length L + List.length [r10.2] ≤ lim) then
                  (some (.inl (r10.1.1, r10.1.2.1, r10.1.2.2.1, (L ++ [r10.2]))) : Option (((List Int) × Int × Int × (List (List GEntry))) ⊕ (((List Int) × Int × Int × (List (List GEntry))))))
                else
                  none
              else
                (s_l1Cur_log r9.1).bind fun r11 =>
                bif decide (List.length L + List.length [r11.2] ≤ lim) then
                  some (.inl (r11.1.1, r11.1.2.1, r11.1.2.2.1, (L ++ [r11.2])))
                else
                  none
            else
              bif false then
                (s_l1Cur_passedOn c e7).bind fun r12 =>
                bif decide (List.length L + List.length [r12.2] ≤ lim) then
                  some (.inl (r12.1.1, r12.1.2.1, r12.1.2.2.1, (L ++ [r12.2])))
                else
                  none
              else
                (s_l1Cur_log c).bind fun r13 =>
                bif decide (List.length L + List.length [r13.2] ≤ lim) then
                  some (.inl (r13.1.1, r13.1.2.1, r13.1.2.2.1, (L ++ [r13.2])))
                else
                  none
          else
            none) (Turn I Q k) := by
  have hw : w64 ((L.length : Int) - 1) = (L.length : Int) - 1 := w64_of (by omega) (by omega)
  rw [hw]
  refine To.guard2 (by omega) (by omega) (To.at_ (by omega) (by omega) fun l hl => ?_)
  have hl := hd l hl
  rw [s_log hl.fine]
  simp only [Option.bind_some, cond_false]
  cases hg : isLog l with
  | true =>
    simp only [cond_true]
    refine (t_one h (by omega) 24).bind ?_
    rintro ⟨d1, v1⟩ a1
    refine To.cond ?_ ?_
    · refine (t_passed a1 (by omega) hg).bind ?_
      rintro ⟨d2, l2⟩ ⟨a2, b2⟩
      obtain ⟨m, hm, hi⟩ := hI d2 l2 (At.mono a2 (by omega)) b2
      exact To.guard (lim2 (by omega)) (.ret (.on m hm hi))
    · refine (t_log a1 (by omega)).bind ?_
      rintro ⟨d2, l2⟩ ⟨a2, b2⟩
      obtain ⟨m, hm, hi⟩ := hI d2 l2 (At.mono a2 (by omega)) b2
      exact To.guard (lim2 (by omega)) (.ret (.on m hm hi))
  | false =>
    simp only [cond_false]
    refine (t_log h (by omega)).bind ?_
    rintro ⟨d2, l2⟩ ⟨a2, b2⟩
    obtain ⟨m, hm, hi⟩ := hI d2 l2 (At.mono a2 (by omega)) b2
    exact To.guard (lim2 (by omega)) (.ret (.on m hm hi))
theorem dr_snoc {L : List (List GEntry)} (h : ∀ l ∈ L, DrE l) {l : List GEntry} (hl : DrE l) : ∀ d ∈ L ++ [l], DrE d := fun d hd => by
  rcases List.mem_append.1 hd with hd | hd
  · exact h d hd
  · rw [List.mem_singleton.1 hd]; exact hl
theorem t_lines {c : Gl1Cur} {n : Nat} (h : At c n) (hn : n ≤ 1000) : To (s_l1Cur_lineLogs c) (fun r => r.2.length ≤ 20 ∧ ∀ l ∈ r.2, DrE l) := by
  unfold s_l1Cur_lineLogs
  refine (t_log h (by omega)).bind ?_
  rintro ⟨d1, l1⟩ ⟨a1, b1⟩
  refine (t_pick a1 (by omega) 4).bind ?_
  rintro ⟨d2, v2⟩ ⟨a2, b2, c2⟩
  have c2 := c2 (by omega)
  simp only at b2 c2
  refine (t_one a2 (by omega) 20).bind ?_
  rintro ⟨d3, v3⟩ a3
  refine To.cond ?_ ?_
  · refine (t_pick a3 (by omega) 2).bind ?_
    rintro ⟨d4, v4⟩ ⟨a4, b4, c4⟩
    have c4 := c4 (by omega)
    simp only at b4 c4
    have hw : w64 (8 + v4) = 8 + v4 := w64_of (by omega) (by omega)
    simp only [hw]
    refine To.bind (Q := fun o => At (o.1, o.2.1, o.2.2.1, ()) 1000000 ∧ o.2.2.2.length ≤ 12 ∧ ∀ l ∈ o.2.2.2, DrE l) ?_ ?_
    · refine To.loop (fun k st => st.2.2.2.length + k = 12 ∧ 1 ≤ st.2.2.2.length ∧ At (st.1, st.2.1, st.2.2.1, ()) (n + 50000 * st.2.2.2.length) ∧ ∀ l ∈ st.2.2.2, DrE l) (n := 11) ⟨rfl, Nat.le_refl _, At.mono a4 (by simp only [List.length_singleton]; omega), fun l hl => by rw [List.mem_singleton.1 hl]; exact b1⟩ ?_
      rintro k ⟨s1, s2, s3, s4⟩ ⟨g1, g2, g3, g4⟩
      simp only at g1 g2 g3 g4
      refine To.ite (fun hlt => ?_) (fun hge => ?_)
      · simp only at hlt
        exact lines_step g3 (by omega) g2 (by omega) g4 _ fun d l hd hl => ⟨k - 1, by omega, by simp only [len1]; omega, by simp only [len1]; omega, At.mono hd (by simp only [len1]; omega), dr_snoc g4 hl⟩
      · exact .ret (.end_ ⟨At.mono g3 (by omega), by simp only; omega, g4⟩)
    · rintro ⟨o1, o2, o3, o4⟩ ⟨a5, b5, c5⟩
      simp only at b5 c5
      refine (t_one a5 (by omega) 24).bind ?_
      rintro ⟨d6, v6⟩ a6
      exact To.cond (.ret ⟨by simp, by simp⟩) (.ret ⟨by simp only; omega, c5⟩)
  · have hw : w64 (1 + v2) = 1 + v2 := w64_of (by omega) (by omega)
    simp only [hw]
    refine To.bind (Q := fun o => At (o.1, o.2.1, o.2.2.1, ()) 1000000 ∧ o.2.2.2.length ≤ 12 ∧ ∀ l ∈ o.2.2.2, DrE l) ?_ ?_
    · refine To.loop (fun k st => st.2.2.2.length + k = 12 ∧ 1 ≤ st.2.2.2.length ∧ At (st.1, st.2.1, st.2.2.1, ()) (n + 50000 * st.2.2.2.length) ∧ ∀ l ∈ st.2.2.2, DrE l) (n := 11) ⟨rfl, Nat.le_refl _, At.mono a3 (by simp only [List.length_singleton]; omega), fun l hl => by rw [List.mem_singleton.1 hl]; exact b1⟩ ?_
      rintro k ⟨s1, s2, s3, s4⟩ ⟨g1, g2, g3, g4⟩
      simp only at g1 g2 g3 g4
      refine To.ite (fun hlt => ?_) (fun hge => ?_)
      · simp only at hlt
        exact lines_step g3 (by omega) g2 (by omega) g4 _ fun d l hd hl => ⟨k - 1, by omega, by simp only [len1]; omega, by simp only [len1]; omega, At.mono hd (by simp only [len1]; omega), dr_snoc g4 hl⟩
      · exact .ret (.end_ ⟨At.mono g3 (by omega), by simp only; omega, g4⟩)
    · rintro ⟨o1, o2, o3, o4⟩ ⟨a5, b5, c5⟩
      simp only at b5 c5
      refine (t_one a5 (by omega) 24).bind ?_
      rintro ⟨d6, v6⟩ a6
      exact To.cond (.ret ⟨by simp, by simp⟩) (.ret ⟨by simp only; omega, c5⟩)
theorem t_true {code : List Int} (hb : ∀ b ∈ code, 0 ≤ b ∧ b ≤ 255) (hl : code.length ≤ 1048576) : To (s_DrawIsTrueLine code) (fun L => L.length ≤ 20 ∧ ∀ l ∈ L, DrE l) := by
  unfold s_DrawIsTrueLine
  refine (t_one (t_start hb hl) (by omega) 2).bind ?_
  rintro ⟨d1, v1⟩ a1
  refine To.cond ((t_lines a1 (by omega)).bind fun r hr => .ret hr) ?_
  refine (t_log a1 (by omega)).bind ?_
  rintro ⟨d2, l⟩ ⟨a2, b2⟩
  have hlen : l.length ≤ 40 := b2.len
  refine To.bind (Q := DrE) ?_ fun r hr => .ret ⟨by simp, fun l hl => by
    simp only [List.mem_cons, List.not_mem_nil, or_false, or_self] at hl
    rw [hl]; exact hr⟩
  refine To.loop (fun k st => ∃ i : Nat, i + k = l.length ∧ st.2 = (i : Int) ∧ st.1.length = l.length ∧ ∀ e ∈ st.1, DrV e) (n := l.length) ⟨0, by omega, rfl, rfl, b2.ent⟩ ?_
  rintro k ⟨s1, s2⟩ ⟨i, g1, g2, g3, g4⟩
  simp only at g2 g3 g4
  subst g2
  refine To.ite (fun hlt => ?_) (fun hge => ?_)
  · simp only at hlt
    refine To.guard2 (by omega) (by show (i : Int) < (s1.length : Int); omega) (To.at_ (by omega) (by show (i : Int) < (s1.length : Int); omega) fun e he => ?_)
    have hv := g4 e he
    unfold DrV at hv
    simp only [ownInt (show e.2.2.2.1.length ≤ 1048576 by omega), Option.bind_some]
    refine To.guard2 (by omega) (by show (i : Int) < (s1.length : Int); omega) (To.at_ (by omega) (by show (i : Int) < (s1.length : Int); omega) fun e2 he2 => ?_)
    have hv2 := g4 e2 he2
    have hw : w64 ((i : Int) + 1) = ((i + 1 : Nat) : Int) := w64_of (by omega) (by omega)
    refine .ret (.on (k - 1) (by omega) ⟨i + 1, by omega, hw, by simp only [List.length_set]; exact g3, fun x hx => ?_⟩)
    rcases List.mem_or_eq_of_mem_set hx with hx | rfl
    · exact g4 x hx
    · exact ⟨hv2.1, hv.1⟩
  · exact .ret (.end_ ⟨by simp only; omega, g4⟩)
theorem fine_draw {L : List (List GEntry)} (h : L.length ≤ 20 ∧ ∀ l ∈ L, DrE l) : FineL L := ⟨by omega, fun l hl => (h.2 l hl).fine⟩
end Go.Proofs.YtffmiefhnbkcbaaGreat.Sh
