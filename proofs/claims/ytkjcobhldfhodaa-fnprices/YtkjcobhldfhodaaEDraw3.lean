/-
  Draws of prices, of sent messages and of lists of them.
-/
import Derived.Test.YtkjcobhldfhodaaEDraw2
namespace Go.Proofs.Ytkjcobhldfhodaa.Sh
open Go Go.Ab
set_option maxRecDepth 100000

theorem Goes.step {α β : Type} {m : Option (Gl1Cur × α)} {c : Gl1Cur} {k k2 : Nat} {Q : α → Prop} {Q2 : β → Prop} {f : Gl1Cur × α → Option (Gl1Cur × β)} (hc : Ok c) (hb : c.2.1 + ((k + k2 : Nat) : Int) ≤ 2305843009213693952) (h : Goes m c k Q) (h2 : ∀ d v, Ok d → d.2.1 + (k2 : Int) ≤ 2305843009213693952 → Q v → Goes (f (d, v)) d k2 Q2) : Goes (m.bind f) c (k + k2) Q2 :=
  h.bind fun j v hj hv => h2 (N j c) v (N_ok hc (by have : ((k + k2 : Nat) : Int) = (k : Int) + (k2 : Int) := by omega
                                                    omega)) (by rw [N_at]; omega) hv

theorem go_price {c : Gl1Cur} (h : Ok c) (hb : c.2.1 + 18 ≤ 2305843009213693952) : Goes (s_l1Cur_price c) c 18 (fun _ => True) := by
  unfold s_l1Cur_price
  refine Goes.step (k := 2) (k2 := 16) h hb (go_pick h (by omega) (by omega)) fun d v hd hb _ => ?_
  refine Goes.step (k := 2) (k2 := 14) hd hb (go_among hd (by omega) (by simp)) fun d v hd hb _ => ?_
  refine Goes.step (k := 2) (k2 := 12) hd hb (go_among hd (by omega) (by simp)) fun d v hd hb _ => ?_
  refine Goes.step (k := 2) (k2 := 10) hd hb (go_pick hd (by omega) (by omega)) fun d v hd hb _ => ?_
  refine Goes.step (k := 2) (k2 := 8) hd hb (go_among hd (by omega) (by simp)) fun d v hd hb _ => ?_
  refine Goes.step (k := 2) (k2 := 6) hd hb (go_pick hd (by omega) (by omega)) fun d v hd hb _ => ?_
  refine Goes.step (k := 2) (k2 := 4) hd hb (go_among hd (by omega) (by simp)) fun d v hd hb _ => ?_
  refine Goes.step (k := 2) (k2 := 2) hd hb (go_pick hd (by omega) (by omega)) fun d v hd hb _ => ?_
  have am : ∀ {l : List Int} {g : Gl1Cur × Int → Option (Gl1Cur × GPrice)}, l ≠ [] → (∀ r, ∃ y, g r = some (r.1, y)) → Goes ((s_l1Cur_among d l).bind g) d 2 (fun _ => True) := fun {l g} hl hg => by
    obtain ⟨j, v, e, hj, _⟩ := go_among hd (by omega) hl
    rw [e]
    obtain ⟨y, hy⟩ := hg (N j d, v)
    exact ⟨j, y, hy, hj, trivial⟩
  cases decide (v = 0) with
  | true => exact am (by simp) fun r => ⟨_, rfl⟩
  | false =>
    cases decide (v = 1) with
    | true => exact am (by simp) fun r => ⟨_, rfl⟩
    | false =>
      cases decide (v = 2) with
      | true => exact am (by simp) fun r => ⟨_, rfl⟩
      | false =>
        cases decide (v = 3) with
        | true => exact am (by simp) fun r => ⟨_, rfl⟩
        | false => exact ⟨0, _, rfl, by omega, trivial⟩
theorem go_cents {c : Gl1Cur} (h : Ok c) (hb : c.2.1 + 6 ≤ 2305843009213693952) : Goes (s_l1Cur_cents c) c 6 (fun _ => True) := by
  unfold s_l1Cur_cents
  refine Goes.step (k := 2) (k2 := 4) h hb (go_pick h (by omega) (by omega)) fun d v hd hb _ => ?_
  refine Goes.step (k := 2) (k2 := 2) hd hb (go_among hd (by omega) (by simp)) fun d v hd hb _ => ?_
  refine Goes.step (k := 2) (k2 := 0) hd hb (go_among hd (by omega) (by simp)) fun d v hd hb _ => ?_
  exact Goes.ret trivial

/-! exact states -/
theorem pick1 {c : Gl1Cur} (h : Ok c) (hb : c.2.1 + 2 ≤ 2305843009213693952) {n : Int} (h1 : 1 < n) (h2 : n ≤ 200) : s_l1Cur_pick c n = some (N 1 c, (nx c).2 % n) := by
  rw [s_pick h hb]; unfold pk; rw [if_neg (by omega), if_neg (by omega)]
theorem pick2 {c : Gl1Cur} (h : Ok c) (hb : c.2.1 + 2 ≤ 2305843009213693952) {n : Int} (h2 : 200 < n) : ∃ v, s_l1Cur_pick c n = some (N 2 c, v) ∧ 0 ≤ v ∧ v < n := by
  rw [s_pick h hb]; unfold pk; rw [if_neg (by omega), if_pos h2]
  exact ⟨_, rfl, Int.emod_nonneg _ (by omega), Int.emod_lt_of_pos _ (by omega)⟩
theorem among1 {c : Gl1Cur} (h : Ok c) (hb : c.2.1 + 2 ≤ 2305843009213693952) {l : List Int} (h1 : 1 < l.length) (h2 : l.length ≤ 200) : ∃ v, s_l1Cur_among c l = some (N 1 c, v) ∧ v ∈ l := by
  unfold s_l1Cur_among
  rw [pick1 h hb (by omega) (by omega)]
  have h3 := Int.emod_nonneg (nx c).2 (b := (l.length : Int)) (by omega)
  have h4 := Int.emod_lt_of_pos (nx c).2 (b := (l.length : Int)) (by omega)
  simp only [Option.bind_some]
  generalize (nx c).2 % (l.length : Int) = v at h3 h4
  have hv2 : v.toNat < l.length := by omega
  refine ⟨l[v.toNat], ?_, List.getElem_mem _⟩
  unfold idx
  rw [if_neg (by omega), List.getElem?_eq_getElem hv2]
  rfl

def inB (n lo hi : Int) : Bool := decide (lo ≤ n) && decide (n ≤ hi)
theorem l1In_eq (n lo hi : Int) : s_l1In n lo hi = some (inB n lo hi) := by
  unfold s_l1In inB
  cases decide (lo ≤ n) <;> rfl
def isSent (x : GSent) : Bool := inB x.1 1 72 && (inB x.2.1 1 16 && inB x.2.2.2.1 0 10000)
theorem s_isSent (x : GSent) : s_pcSent x = some (isSent x) := by
  unfold s_pcSent isSent
  simp only [l1In_eq, Option.bind_some]
  cases inB x.1 1 72 <;> cases inB x.2.1 1 16 <;> rfl

theorem sent_spec {c : Gl1Cur} (h : Ok c) (hb : c.2.1 + 20 ≤ 2305843009213693952) : (∃ x, s_l1Cur_sent c = some (N 7 c, x) ∧ isSent x = true) ∨ (∃ x, s_l1Cur_sent c = some (N 8 c, x) ∧ (nx (N 6 c)).2 % 30 ≤ 2) := by
  have ok : ∀ k : Nat, k ≤ 10 → Ok (N k c) ∧ (N k c).2.1 + 2 ≤ 2305843009213693952 := fun k hk => ⟨N_ok h (by omega), by rw [N_at]; omega⟩
  have e1 := pick1 (ok 0 (by omega)).1 (ok 0 (by omega)).2 (n := 20) (by omega) (by omega)
  have e2 := pick1 (ok 1 (by omega)).1 (ok 1 (by omega)).2 (n := 6) (by omega) (by omega)
  have e3 := pick1 (ok 2 (by omega)).1 (ok 2 (by omega)).2 (n := 3) (by omega) (by omega)
  obtain ⟨v4, e4, a4, b4⟩ := pick2 (ok 3 (by omega)).1 (ok 3 (by omega)).2 (n := 5000) (by omega)
  obtain ⟨v5, e5, m5⟩ := among1 (ok 5 (by omega)).1 (ok 5 (by omega)).2 (l := [0, 0, 599, 600, 1300, 6000, 10000, v4]) (by simp) (by simp)
  have e6 := pick1 (ok 6 (by omega)).1 (ok 6 (by omega)).2 (n := 30) (by omega) (by omega)
  simp only [N_add] at e2 e3 e4 e5 e6
  have n0 : N 0 c = c := rfl
  rw [n0] at e1
  unfold s_l1Cur_sent s_l1Cur_one
  simp only [e1, Option.bind_some, e2, e3, e4, e5, e6]
  have r1 : 0 ≤ (nx c).2 % 20 ∧ (nx c).2 % 20 < 20 := by omega
  have r2 : 0 ≤ (nx (N 1 c)).2 % 6 ∧ (nx (N 1 c)).2 % 6 < 6 := by omega
  have r6 : 0 ≤ (nx (N 6 c)).2 % 30 := by omega
  generalize hq6 : (nx (N 6 c)).2 % 30 = q6 at *
  by_cases h0 : q6 = 0
  · right
    obtain ⟨v, e, _⟩ := among1 (ok 7 (by omega)).1 (ok 7 (by omega)).2 (l := [0, 72, 73]) (by simp) (by simp)
    rw [dec_t h0]
    simp only [N_add] at e
    simp only [cond_true, e, Option.bind_some]
    exact ⟨_, rfl, by omega⟩
  by_cases h1 : q6 = 1
  · right
    obtain ⟨v, e, _⟩ := among1 (ok 7 (by omega)).1 (ok 7 (by omega)).2 (l := [0, 16, 17]) (by simp) (by simp)
    rw [dec_f h0, dec_t h1]
    simp only [N_add] at e
    simp only [cond_true, cond_false, e, Option.bind_some]
    exact ⟨_, rfl, by omega⟩
  by_cases h2 : q6 = 2
  · right
    obtain ⟨v, e, _⟩ := among1 (ok 7 (by omega)).1 (ok 7 (by omega)).2 (l := [(-1), 10001]) (by simp) (by simp)
    rw [dec_f h0, dec_f h1, dec_t h2]
    simp only [N_add] at e
    simp only [cond_true, cond_false, e, Option.bind_some]
    exact ⟨_, rfl, by omega⟩
  · left
    rw [dec_f h0, dec_f h1, dec_f h2]
    simp only [cond_false]
    refine ⟨_, rfl, ?_⟩
    unfold isSent inB
    simp only [Bool.and_eq_true, decide_eq_true_eq]
    rw [w64_of (by omega) (by omega), w64_of (by omega) (by omega)]
    have hv5 : 0 ≤ v5 ∧ v5 ≤ 10000 := by
      simp only [List.mem_cons, List.not_mem_nil, or_false] at m5
      omega
    omega

abbrev LS : Type := (List Int) × Int × Int × (List GSent)
def mkS (c : Gl1Cur) (l : List GSent) : LS := (c.1, c.2.1, c.2.2.1, l)
noncomputable def fS (n : Int) : LS → Option (LS ⊕ LS) := (fun (st6 : (List Int) × Int × Int × (List GSent)) => (
      bif (decide ((st6.2.2.2.length : Int) < n)) then
        (s_l1Cur_sent (st6.1, st6.2.1, st6.2.2.1, ())).bind fun r7 =>
        (s_pcSent r7.2).bind fun r8 =>
        bif r8 then
          bif true then
            bif decide (List.length st6.2.2.2 + List.length [r7.2] ≤ lim) then
              some (.inl (r7.1.1, r7.1.2.1, r7.1.2.2.1, (st6.2.2.2 ++ [r7.2])))
            else
              none
          else
            some (.inl (r7.1.1, r7.1.2.1, r7.1.2.2.1, st6.2.2.2))
        else
          (s_l1Cur_one r7.1 8).bind fun r9 =>
          bif r9.2 then
            bif decide (List.length st6.2.2.2 + List.length [r7.2] ≤ lim) then
              some (.inl (r9.1.1, r9.1.2.1, r9.1.2.2.1, (st6.2.2.2 ++ [r7.2])))
            else
              none
          else
            some (.inl (r9.1.1, r9.1.2.1, r9.1.2.2.1, st6.2.2.2))
      else
        some (.inr (st6.1, st6.2.1, st6.2.2.1, st6.2.2.2)) : Option (((List Int) × Int × Int × (List GSent)) ⊕ (((List Int) × Int × Int × (List GSent))))))
theorem lim1 {l : List GSent} {x : GSent} (h : l.length ≤ 1000) : decide (List.length l + List.length [x] ≤ lim) = true := by unfold lim; rw [List.length_singleton]; exact decide_eq_true (by omega)
theorem loop_step {c : Gl1Cur} (h : Ok c) (hb : c.2.1 + 20 ≤ 2305843009213693952) {l : List GSent} {n : Int} (hl : (l.length : Int) < n) (h1 : l.length ≤ 1000) :
    (∃ j x, j ≤ 9 ∧ fS n (mkS c l) = some (.inl (mkS (N j c) (l ++ [x])))) ∨ (fS n (mkS c l) = some (.inl (mkS (N 9 c) l)) ∧ (nx (N 6 c)).2 % 30 ≤ 2) := by
  have g : decide ((((mkS c l).2.2.2).length : Int) < n) = true := decide_eq_true hl
  have hc : ((mkS c l).1, (mkS c l).2.1, (mkS c l).2.2.1, ()) = c := rfl
  unfold fS
  simp only [g, cond_true, hc]
  rcases sent_spec h hb with ⟨x, e, hx⟩ | ⟨x, e, hx⟩
  · left
    refine ⟨7, x, by omega, ?_⟩
    simp only [e, Option.bind_some, s_isSent, hx, cond_true]
    rw [show (mkS c l).2.2.2 = l from rfl, lim1 h1]
    rfl
  · simp only [e, Option.bind_some, s_isSent]
    rw [show (mkS c l).2.2.2 = l from rfl, lim1 h1]
    cases isSent x with
    | true => exact .inl ⟨8, x, by omega, rfl⟩
    | false =>
      have e8 := pick1 (N_ok h (k := 8) (by omega)) (by rw [N_at]; omega) (n := 8) (by omega) (by omega)
      unfold s_l1Cur_one
      simp only [N_add] at e8
      simp only [e8, Option.bind_some, cond_false]
      cases decide ((nx (N 8 c)).2 % 8 = 0) with
      | true => exact .inl ⟨9, x, by omega, rfl⟩
      | false => exact .inr ⟨rfl, hx⟩

theorem eventually {l : List GSent} {n : Int} (hl : (l.length : Int) < n) (h1 : l.length ≤ 1000) {c : Gl1Cur} (h : Ok c) : ∀ J : Nat, c.2.1 + 9 * (J : Int) + 20 ≤ 2305843009213693952 →
    (∃ j x, j ≤ 9 * J ∧ loopE (fS n) (mkS c l) = loopE (fS n) (mkS (N j c) (l ++ [x]))) ∨ (loopE (fS n) (mkS c l) = loopE (fS n) (mkS (N (9 * J) c) l) ∧ ∀ i, i < J → (nx (N (9 * i + 6) c)).2 % 30 ≤ 2)
  | 0, _ => .inr ⟨rfl, fun i hi => by omega⟩
  | J + 1, hb => by
    rcases eventually hl h1 h J (by omega) with ⟨j, x, hj, e⟩ | ⟨e, hp⟩
    · exact .inl ⟨j, x, by omega, e⟩
    · have ho : Ok (N (9 * J) c) := N_ok h (by omega)
      rcases loop_step ho (by rw [N_at]; omega) hl h1 with ⟨j, x, hj, e2⟩ | ⟨e2, hx⟩
      · exact .inl ⟨9 * J + j, x, by omega, by rw [e, loopE_step e2, N_add]⟩
      · refine .inr ⟨by rw [e, loopE_step e2, N_add, show 9 * J + 9 = 9 * (J + 1) by omega], fun i hi => ?_⟩
        by_cases hij : i = J
        · subst hij; rw [N_add] at hx; exact hx
        · exact hp i (by omega)

theorem far_apart {c : Gl1Cur} (h : Ok c) {D : Nat} (hD : D = 140737488355328) (hb : c.2.1 + (D : Int) * 9 + (c.1.length : Int) * 9 + 6 ≤ 2305843009213693952) (p1 : (nx (N (9 * c.1.length + 6) c)).2 % 30 ≤ 2) (p2 : (nx (N (9 * (c.1.length + D) + 6) c)).2 % 30 ≤ 2) : False := by
  have h0 := h.at0
  have ho : Ok (N (9 * c.1.length + 6) c) := N_ok h (by omega)
  have hx := nx_byte ho
  have hfar : ∀ K : Nat, K = 9 * 2 ^ 47 → (nx (N K (N (9 * c.1.length + 6) c))).2 = ((nx (N (9 * c.1.length + 6) c)).2 + 128) % 256 := fun K hK => by
    rw [hK]
    exact bytes_far (c := N (9 * c.1.length + 6) c) (by rw [N_code, N_at]; omega)
  have hK : 9 * D = 9 * 2 ^ 47 := by rw [hD]
  have h2 := hfar (9 * D) hK
  rw [N_add, show 9 * c.1.length + 6 + 9 * D = 9 * (c.1.length + D) + 6 from by omega] at h2
  exact not_bad _ _ hx.1 hx.2 p1 h2 p2
theorem progress {l : List GSent} {n : Int} (hl : (l.length : Int) < n) (h1 : l.length ≤ 1000) {c : Gl1Cur} (h : Ok c) (hb : c.2.1 + 2000000000000000 ≤ 2305843009213693952) :
    ∃ (j : Nat) (x : GSent), (j : Int) ≤ 1400000000000000 ∧ loopE (fS n) (mkS c l) = loopE (fS n) (mkS (N j c) (l ++ [x])) := by
  have hlen := h.len
  have h0 := h.at0
  obtain ⟨D, hD⟩ : ∃ D : Nat, D = 140737488355328 := ⟨_, rfl⟩
  rcases eventually hl h1 h (c.1.length + D + 1) (by omega) with ⟨j, x, hj, e⟩ | ⟨e, hp⟩
  · exact ⟨j, x, by omega, e⟩
  · exfalso
    exact far_apart h hD (by omega) (hp c.1.length (by omega)) (hp (c.1.length + D) (by omega))

theorem list_loop {n : Int} (hn : n ≤ 100) : ∀ (k : Nat) (l : List GSent) (c : Gl1Cur), n ≤ (l.length : Int) + (k : Int) → (l.length : Int) ≤ 100 → (k : Int) ≤ 100 → Ok c → c.2.1 + (k : Int) * 2000000000000000 ≤ 2305843009213693952 →
    ∃ j l', loopE (fS n) (mkS c l) = some (mkS (N j c) l') ∧ (l'.length : Int) ≤ 100 := by
  intro k
  induction k with
  | zero =>
    intro l c hk hl _ h hb
    refine ⟨0, l, loopE_done ?_, hl⟩
    have g : decide ((((mkS c l).2.2.2).length : Int) < n) = false := decide_eq_false (by show ¬ (l.length : Int) < n; omega)
    unfold fS
    simp only [g, cond_false]
    rfl
  | succ k ih =>
    intro l c hk hl hk1 h hb
    by_cases hlt : (l.length : Int) < n
    · obtain ⟨j, x, hj, e⟩ := progress hlt (by omega) h (by omega)
      obtain ⟨j2, l', e2, h2⟩ := ih (l ++ [x]) (N j c) (by rw [List.length_append, List.length_singleton]; omega) (by rw [List.length_append, List.length_singleton]; omega) (by omega) (N_ok h (by omega)) (by rw [N_at]; omega)
      exact ⟨j + j2, l', by rw [e, e2, N_add], h2⟩
    · refine ⟨0, l, loopE_done ?_, hl⟩
      have g : decide ((((mkS c l).2.2.2).length : Int) < n) = false := decide_eq_false hlt
      unfold fS
      simp only [g, cond_false]
      rfl

theorem go_list {c : Gl1Cur} (h : Ok c) (hb : c.2.1 + 300000000000000000 ≤ 2305843009213693952) : ∃ c' l, s_l1Cur_sentList c = some (c', l) ∧ (l.length : Int) ≤ 100 := by
  unfold s_l1Cur_sentList
  rw [pick1 h (by omega) (n := 6) (by omega) (by omega)]
  simp only [Option.bind_some]
  have o1 : Ok (N 1 c) := N_ok h (by omega)
  have b1 : (N 1 c).2.1 + 2 ≤ 2305843009213693952 := by rw [N_at]; omega
  unfold s_l1Cur_one
  rw [pick1 o1 b1 (n := 20) (by omega) (by omega)]
  simp only [Option.bind_some, N_add]
  have fin : ∀ (j : Nat) (n : Int), n ≤ 100 → j ≤ 10 → ∃ c' l, ((loopE (fS n) (mkS (N j c) [])).bind fun o10 => some ((o10.1, o10.2.1, o10.2.2.1, ()), o10.2.2.2)) = some (c', l) ∧ (l.length : Int) ≤ 100 := fun j n hn hj => by
    obtain ⟨j2, l', e, hl'⟩ := list_loop hn 100 [] (N j c) (by simpa using hn) (by simp) (by omega) (N_ok h (by omega)) (by rw [N_at]; omega)
    exact ⟨_, l', by rw [e]; rfl, hl'⟩
  cases decide ((nx (N 1 c)).2 % 20 = 0) with
  | true =>
    have o2 : Ok (N 2 c) := N_ok h (by omega)
    rw [cond_true, pick1 o2 (by rw [N_at]; omega) (n := 2) (by omega) (by omega)]
    simp only [Option.bind_some, N_add]
    have hr : 0 ≤ (nx (N 2 c)).2 % 2 ∧ (nx (N 2 c)).2 % 2 < 2 := by omega
    rw [w64_of (by omega) (by omega)]
    exact fin 3 (20 + (nx (N 2 c)).2 % 2) (by omega) (by omega)
  | false =>
    simp only [cond_false, Option.bind_some]
    exact fin 2 ((nx c).2 % 6) (by omega) (by omega)
end Go.Proofs.Ytkjcobhldfhodaa.Sh
