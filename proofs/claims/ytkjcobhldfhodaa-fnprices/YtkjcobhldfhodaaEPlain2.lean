/-
  FnAffordable.
-/
import Derived.Test.YtkjcobhldfhodaaEDraw3
import Derived.Test.YtkjcobhldfhodaaEPlain1
namespace Go.Proofs.Ytkjcobhldfhodaa.Sh
open Go Go.Ab
set_option maxRecDepth 100000

theorem go0 {code : List Int} (h : ∀ b ∈ code, 0 ≤ b ∧ b ≤ 255) (hl : code.length ≤ 1048576) : Ok ((code, 0, 0, ()) : Gl1Cur) := ⟨h, hl, Int.le_refl _, by show (0 : Int) ≤ _; omega⟩

theorem draw_three {α : Type} {code : List Int} (h : ∀ b ∈ code, 0 ≤ b ∧ b ≤ 255) (hl : code.length ≤ 1048576) {l1 l2 : Int → List Int} (h1 : ∀ v, l1 v ≠ []) (h0 : l2 0 ≠ []) {g : GPrice → Int → Int → α} :
    ∃ p a b, ((s_l1Cur_price (code, 0, 0, ())).bind fun r1 => (s_l1Cur_among r1.1 (l2 0)).bind fun r2 => (s_l1Cur_among r2.1 (l1 r2.2)).bind fun r3 => (s_l1Cur_cents r3.1).bind fun r4 => some (g r1.2 r3.2 r4.2)) = some (g p a b) := by
  have o0 := go0 h hl
  obtain ⟨j1, p, e1, k1, _⟩ := go_price o0 (by show (0 : Int) + 18 ≤ _; omega)
  rw [e1]
  simp only [Option.bind_some]
  have at0 : ((code, 0, 0, ()) : Gl1Cur).2.1 = 0 := rfl
  have o1 : Ok (N j1 (code, 0, 0, ())) := N_ok o0 (by rw [at0]; omega)
  obtain ⟨j2, a, e2, k2, _⟩ := go_among o1 (by rw [N_at, at0]; omega) h0
  rw [e2]
  simp only [Option.bind_some, N_add]
  have o2 : Ok (N (j1 + j2) (code, 0, 0, ())) := N_ok o0 (by rw [at0]; omega)
  obtain ⟨j3, b, e3, k3, _⟩ := go_among o2 (by rw [N_at, at0]; omega) (h1 a)
  rw [e3]
  simp only [Option.bind_some, N_add]
  have o3 : Ok (N (j1 + j2 + j3) (code, 0, 0, ())) := N_ok o0 (by rw [at0]; omega)
  obtain ⟨j4, c, e4, k4, _⟩ := go_cents o3 (by rw [N_at, at0]; omega)
  rw [e4]
  exact ⟨p, b, c, rfl⟩

theorem draw_signals {code : List Int} (h : ∀ b ∈ code, 0 ≤ b ∧ b ≤ 255) (hl : code.length ≤ 1048576) : ∃ p a b, s_DrawSignalsFor code = some (p, a, b) :=
  draw_three (g := fun p a b => (p, a, b)) (l1 := fun v => [1, 3, 5, 16, v]) (l2 := fun _ => [0, 17]) h hl (fun _ => by simp) (by simp)
theorem draw_farthest {code : List Int} (h : ∀ b ∈ code, 0 ≤ b ∧ b ≤ 255) (hl : code.length ≤ 1048576) : ∃ p a b, s_DrawFarthestFor code = some (p, a, b) :=
  draw_three (g := fun p a b => (p, a, b)) (l1 := fun v => [1, 5, 20, 72, v]) (l2 := fun _ => [0, 73]) h hl (fun _ => by simp) (by simp)
theorem draw_compare {code : List Int} (h : ∀ b ∈ code, 0 ≤ b ∧ b ≤ 255) (hl : code.length ≤ 1048576) : ∃ p q l, s_DrawComparePrices code = some (p, q, l) ∧ (l.length : Int) ≤ 100 := by
  unfold s_DrawComparePrices
  have o0 := go0 h hl
  have at0 : ((code, 0, 0, ()) : Gl1Cur).2.1 = 0 := rfl
  obtain ⟨j1, p, e1, k1, _⟩ := go_price o0 (by rw [at0]; omega)
  rw [e1]
  simp only [Option.bind_some]
  have o1 : Ok (N j1 (code, 0, 0, ())) := N_ok o0 (by rw [at0]; omega)
  obtain ⟨j2, q, e2, k2, _⟩ := go_price o1 (by rw [N_at, at0]; omega)
  rw [e2]
  simp only [Option.bind_some, N_add]
  have o2 : Ok (N (j1 + j2) (code, 0, 0, ())) := N_ok o0 (by rw [at0]; omega)
  obtain ⟨c', l, e3, h3⟩ := go_list o2 (by rw [N_at, at0]; omega)
  rw [e3]
  exact ⟨p, q, l, rfl, h3⟩
theorem go_sent {c : Gl1Cur} (h : Ok c) (hb : c.2.1 + 20 ≤ 2305843009213693952) : ∃ j x, s_l1Cur_sent c = some (N j c, x) ∧ j ≤ 8 := by
  rcases sent_spec h hb with ⟨x, e, _⟩ | ⟨x, e, _⟩
  · exact ⟨7, x, e, by omega⟩
  · exact ⟨8, x, e, by omega⟩
theorem draw_split {code : List Int} (h : ∀ b ∈ code, 0 ≤ b ∧ b ≤ 255) (hl : code.length ≤ 1048576) : ∃ p x n, s_DrawSplitPrice code = some (p, x, n) := by
  unfold s_DrawSplitPrice
  have o0 := go0 h hl
  have at0 : ((code, 0, 0, ()) : Gl1Cur).2.1 = 0 := rfl
  obtain ⟨j1, p, e1, k1, _⟩ := go_price o0 (by rw [at0]; omega)
  rw [e1]
  simp only [Option.bind_some]
  have o1 : Ok (N j1 (code, 0, 0, ())) := N_ok o0 (by rw [at0]; omega)
  obtain ⟨j2, x, e2, k2⟩ := go_sent o1 (by rw [N_at, at0]; omega)
  rw [e2]
  simp only [Option.bind_some, N_add]
  have o2 : Ok (N (j1 + j2) (code, 0, 0, ())) := N_ok o0 (by rw [at0]; omega)
  obtain ⟨j3, a, e3, k3, _⟩ := go_among o2 (l := [0, 10]) (by rw [N_at, at0]; omega) (by simp)
  rw [e3]
  simp only [Option.bind_some, N_add]
  have o3 : Ok (N (j1 + j2 + j3) (code, 0, 0, ())) := N_ok o0 (by rw [at0]; omega)
  obtain ⟨j4, b, e4, k4, _⟩ := go_among o3 (l := [1, 2, 3, 9, a]) (by rw [N_at, at0]; omega) (by simp)
  rw [e4]
  exact ⟨p, x, b, rfl⟩

/-! what the greatest affordable number says -/
theorem last_holds {c : Int → Bool} : ∀ (n : Nat), 0 < P.lastLe c n → c (P.lastLe c n) = true
  | 0, h => by simp [P.lastLe] at h
  | n + 1, h => by
    simp only [P.lastLe] at h ⊢
    cases hc : c ((n : Int) + 1) with
    | true => simp only [cond_true]; exact hc
    | false => rw [hc] at h; simp only [cond_false] at h ⊢; exact last_holds n h
theorem last_next {c : Int → Bool} : ∀ (n : Nat) (m : Int), P.lastLe c n < m → m ≤ (n : Int) → c m = false
  | 0, m, h, h2 => by simp [P.lastLe] at h; omega
  | n + 1, m, h, h2 => by
    simp only [P.lastLe] at h
    cases hc : c ((n : Int) + 1) with
    | true => rw [hc] at h; simp only [cond_true] at h; omega
    | false =>
      rw [hc] at h
      simp only [cond_false] at h
      by_cases e : m = (n : Int) + 1
      · rw [e]; exact hc
      · exact last_next n m h (by omega)

theorem price_of {p : GPrice} {x : GSent} (hp : P.isPrice p = true) (hx : P.isSent x = true) : i_PriceOf p x = some (P.cost p x, true) := by
  unfold i_PriceOf
  simp only [P.i_isPrice, P.i_isSent_eq, P.i_cost, hp, hx, Option.bind_some]
  rfl

/-- the two sides agree, the greatest number is paid for and one more is not -/
theorem signals_ok (p : GPrice) (t c : Int) : ∃ v, i_SignalsFor p t c = some v ∧ s_SignalsFor p t c = some v ∧ (v.2 = true → (∃ k, i_PriceOf p (v.1, t, false, 0, ()) = some (k, true) ∧ k ≤ c) ∧ (v.1 < 72 → ∃ k, i_PriceOf p (w64 (v.1 + 1), t, false, 0, ()) = some (k, true) ∧ c < k)) := by
  refine ⟨_, P.i_Signals p t c, P.s_Signals p t c, ?_⟩
  split
  · rename_i h
    obtain ⟨hp, ht, hc⟩ := h
    intro h0
    have h0 := of_decide_eq_true h0
    have hr := P.lastLe_range (fun n => decide (P.cost p (n, t, false, 0, ()) ≤ c)) 72
    have hh := last_holds _ h0
    have hn := fun m => last_next (c := fun n => decide (P.cost p (n, t, false, 0, ()) ≤ c)) 72 m
    simp only at h0 hh hr ⊢
    generalize P.lastLe (fun n => decide (P.cost p (n, t, false, 0, ()) ≤ c)) 72 = k at *
    have sent : ∀ m : Int, 1 ≤ m → m ≤ 72 → P.isSent (m, t, false, 0, ()) = true := fun m h1 h2 => by
      have ht' := P.inB_iff.1 ht
      unfold P.isSent P.inB
      simp only [Bool.and_eq_true, decide_eq_true_eq]
      omega
    refine ⟨⟨_, price_of hp (sent k (by omega) (by omega)), of_decide_eq_true hh⟩, fun h72 => ?_⟩
    rw [w64_of (by omega) (by omega)]
    refine ⟨_, price_of hp (sent (k + 1) (by omega) (by omega)), ?_⟩
    have := of_decide_eq_false (hn (k + 1) (by omega) (by omega))
    omega
  · intro h; cases h
theorem farthest_ok (p : GPrice) (t c : Int) : ∃ v, i_FarthestFor p t c = some v ∧ s_FarthestFor p t c = some v ∧ (v.2 = true → (∃ k, i_PriceOf p (t, v.1, false, 0, ()) = some (k, true) ∧ k ≤ c) ∧ (v.1 < 16 → ∃ k, i_PriceOf p (t, w64 (v.1 + 1), false, 0, ()) = some (k, true) ∧ c < k)) := by
  refine ⟨_, P.i_Farthest p t c, P.s_Farthest p t c, ?_⟩
  split
  · rename_i h
    obtain ⟨hp, ht, hc⟩ := h
    intro h0
    have h0 := of_decide_eq_true h0
    have hr := P.lastLe_range (fun n => decide (P.cost p (t, n, false, 0, ()) ≤ c)) 16
    have hh := last_holds _ h0
    have hn := fun m => last_next (c := fun n => decide (P.cost p (t, n, false, 0, ()) ≤ c)) 16 m
    simp only at h0 hh hr ⊢
    generalize P.lastLe (fun n => decide (P.cost p (t, n, false, 0, ()) ≤ c)) 16 = k at *
    have sent : ∀ m : Int, 1 ≤ m → m ≤ 16 → P.isSent (t, m, false, 0, ()) = true := fun m h1 h2 => by
      have ht' := P.inB_iff.1 ht
      unfold P.isSent P.inB
      simp only [Bool.and_eq_true, decide_eq_true_eq]
      omega
    refine ⟨⟨_, price_of hp (sent k (by omega) (by omega)), of_decide_eq_true hh⟩, fun h72 => ?_⟩
    rw [w64_of (by omega) (by omega)]
    refine ⟨_, price_of hp (sent (k + 1) (by omega) (by omega)), ?_⟩
    have := of_decide_eq_false (hn (k + 1) (by omega) (by omega))
    omega
  · intro h; cases h

theorem sameInts_self {l : List Int} (h : l.length ≤ 1000) : l_sameInts l l = some true := by
  unfold l_sameInts
  simp only [decide_true, Bool.not_true, cond_false]
  rw [all_loop (l := l) (fun _ => true) false ?_ ?_]
  · have : (l.all fun _ => true) = true := by simp
    rw [this]
    rfl
  · intro i x hx hi
    simp only [idx_get, hx, Option.bind_some, show decide ((i : Int) < (l.length : Int)) = true from decide_eq_true (by omega), w64_of (x := (i : Int) + 1) (by omega) (by omega), decide_true]
    rfl
  · simp

theorem sgn_neg (a b : Int) (ha : 0 ≤ a ∧ a ≤ 423600) (hb : 0 ≤ b ∧ b ≤ 423600) : P.sgn (w64 (b - a)) = w64 (0 - P.sgn (w64 (a - b))) := by
  rw [w64_of (x := b - a) (by omega) (by omega), w64_of (x := a - b) (by omega) (by omega)]
  unfold P.sgn
  by_cases h1 : a < b
  · rw [dec_t (by omega : 0 < b - a), dec_f (by omega : ¬ 0 < a - b), dec_t (by omega : a - b < 0)]; rfl
  · by_cases h2 : b < a
    · rw [dec_f (by omega : ¬ 0 < b - a), dec_t (by omega : b - a < 0), dec_t (by omega : 0 < a - b)]; rfl
    · rw [dec_f (by omega : ¬ 0 < b - a), dec_f (by omega : ¬ b - a < 0), dec_f (by omega : ¬ 0 < a - b), dec_f (by omega : ¬ a - b < 0)]; rfl
theorem turned {a b : GPrice} {l : List GSent} : (P.cmpV b a l).2 = (P.cmpV a b l).2 ∧ (P.cmpV b a l).1.length = (P.cmpV a b l).1.length ∧ ∀ (i : Nat) x y, (P.cmpV a b l).1[i]? = some x → (P.cmpV b a l).1[i]? = some y → y = w64 (0 - x) := by
  unfold P.cmpV
  cases hp : P.isPrice a with
  | false => cases P.isPrice b <;> exact ⟨rfl, rfl, fun i x y h => by simp at h⟩
  | true =>
    cases hq : P.isPrice b with
    | false => exact ⟨rfl, rfl, fun i x y h => by simp at h⟩
    | true =>
      cases hl : (l.all P.isSent && decide ((l.length : Int) ≤ 20)) with
      | false => exact ⟨rfl, rfl, fun i x y h => by simp at h⟩
      | true =>
        simp only [Bool.and_self, cond_true]
        refine ⟨trivial, by simp only [List.length_map], fun i x y hx hy => ?_⟩
        simp only [List.getElem?_map, Option.map_eq_some_iff] at hx hy
        obtain ⟨s, hs, rfl⟩ := hx
        obtain ⟨s', hs', rfl⟩ := hy
        rw [hs] at hs'
        cases hs'
        simp only [Bool.and_eq_true, List.all_eq_true] at hl
        have hsent := hl.1 s (List.mem_of_getElem? hs)
        exact sgn_neg _ _ (P.cost_range hp hsent) (P.cost_range hq hsent)
theorem cond_len {l : List GSent} {g : GSent → Int} (t : Bool) (h : t = true → l.length ≤ 20) : (bif t then (l.map g, true) else (([] : List Int), false)).1.length ≤ 20 := by
  cases t with
  | false => exact Nat.zero_le _
  | true => rw [cond_true]; show (l.map g).length ≤ 20; rw [List.length_map]; exact h rfl
theorem cmpV_len (a b : GPrice) (l : List GSent) : (P.cmpV a b l).1.length ≤ 20 :=
  cond_len _ fun h => by
    simp only [Bool.and_eq_true, decide_eq_true_eq] at h
    have := h.2.2.2
    omega
theorem one_loop' {τ ρ : Type} {n : Nat} {f : τ → Option (τ ⊕ ρ)} {a : τ} {y : ρ} (R : Nat → τ → Prop) (h0 : R 0 a) (step : ∀ i a, i < n → R i a → ∃ a', f a = some (.inl a') ∧ R (i + 1) a') (fin : ∀ a, R n a → f a = some (.inr y)) : loopE f a = some y := by
  obtain ⟨z, h1, h2⟩ := one_loop (n := n) (f := f) R (fun z => z = y) (fun i a hi h => .inl (step i a hi h)) (fun a h => ⟨y, fin a h, rfl⟩) n 0 a (by omega) h0
  rw [h1, h2]

theorem bytes_of {l : List Int} (h : good (.slice (.int .u8)) l) : ∀ b ∈ l, 0 ≤ b ∧ b ≤ 255 := fun b hb => by
  have := h.2 b hb
  have h2 : wfI .u8 b := this
  simp [wfI, Lit.wf, IntKind.min, IntKind.max, IntKind.signed, IntKind.bits] at h2
  omega

/-- FnAffordable -/
theorem plain_Affordable (code more : List Int) (hc : ∀ b ∈ code, 0 ≤ b ∧ b ≤ 255) (hm : ∀ b ∈ more, 0 ≤ b ∧ b ≤ 255) (hlc : code.length ≤ maxLen) (hlm : more.length ≤ maxLen) : l_FnAffordable code more = some true := by
  unfold l_FnAffordable l_big
  unfold maxLen at hlc hlm
  by_cases h1 : 1048576 < (code.length : Int)
  · rw [dec_t h1]; rfl
  rw [dec_f h1, w64_of (by omega) (by omega)]
  by_cases h2 : 1048576 - (code.length : Int) < (more.length : Int)
  · rw [dec_t h2]; rfl
  rw [dec_f h2]
  simp only [cond_false, Option.bind_some]
  have l1 : code.length ≤ 1048576 := by omega
  have l2 : more.length ≤ 1048576 := by omega
  obtain ⟨p, t, c, e1⟩ := draw_signals hc l1
  obtain ⟨v, e2, e3, hv⟩ := signals_ok p t c
  simp only [e1, e2, e3, Option.bind_some, bne_self_eq_false, cond_false, decide_true, Bool.not_true]
  obtain ⟨q, s, m, f1⟩ := draw_farthest hm l2
  obtain ⟨u, f2, f3, hu⟩ := farthest_ok q s m
  obtain ⟨a, b, l, g1, g2⟩ := draw_compare hm l2
  have hl : l.length ≤ 1048576 := by omega
  have C := P.compare_same a b l hl
  have D := P.compare_same b a l hl
  have T := turned (a := a) (b := b) (l := l)
  have N1 := cmpV_len a b l
  have N2 := cmpV_len b a l
  obtain ⟨p2, x, n, k1⟩ := draw_split hm l2
  obtain ⟨w, k2, k3, hw⟩ := P.split_same p2 x n
  refine bind_eq (x := .inl ()) ?_ ?_
  · cases h3 : v.2 with
    | false => rfl
    | true =>
      obtain ⟨⟨k, b1, b2⟩, b3⟩ := hv h3
      simp only [cond_true, b1, Option.bind_some, Bool.not_true, cond_false, dec_f (by omega : ¬ c < k)]
      by_cases h4 : v.1 < 72
      · obtain ⟨k', b4, b5⟩ := b3 h4
        rw [dec_t h4]
        simp only [cond_true, b4, Option.bind_some, Bool.not_true, cond_false, dec_f (by omega : ¬ k' ≤ c)]
      · rw [dec_f h4]; rfl
  simp only [f1, f2, f3, Option.bind_some, bne_self_eq_false, cond_false, decide_true, Bool.not_true]
  refine bind_eq (x := .inl ()) ?_ ?_
  · cases h3 : u.2 with
    | false => rfl
    | true =>
      obtain ⟨⟨k, b1, b2⟩, b3⟩ := hu h3
      simp only [cond_true, b1, Option.bind_some, Bool.not_true, cond_false, dec_f (by omega : ¬ m < k)]
      by_cases h4 : u.1 < 16
      · obtain ⟨k', b4, b5⟩ := b3 h4
        rw [dec_t h4]
        simp only [cond_true, b4, Option.bind_some, Bool.not_true, cond_false, dec_f (by omega : ¬ k' ≤ m)]
      · rw [dec_f h4]; rfl
  simp only [g1, C.1, C.2, D.1, D.2, Option.bind_some, bne_self_eq_false, cond_false, sameInts_self (l := (P.cmpV a b l).1) (by omega), sameInts_self (l := (P.cmpV b a l).1) (by omega), Bool.not_true, T.1]
  refine bind_eq (x := .inl ()) ?_ ?_
  · refine one_loop' (n := (P.cmpV a b l).1.length) (fun i st => st = ((P.cmpV b a l).1, (P.cmpV a b l).1, (i : Int))) rfl (fun i st hi hst => ?_) (fun st hst => ?_)
    · subst hst
      have hi2 : i < (P.cmpV b a l).1.length := by rw [T.2.1]; exact hi
      have hx : (P.cmpV a b l).1[i]? = some ((P.cmpV a b l).1[i]'hi) := by simp [hi]
      have hy : (P.cmpV b a l).1[i]? = some ((P.cmpV b a l).1[i]'hi2) := by simp [hi2]
      have hxy := T.2.2 i _ _ hx hy
      refine ⟨_, ?_, rfl⟩
      simp only [dec_t (by omega : (i : Int) < ((P.cmpV a b l).1.length : Int)), dec_t (by omega : (i : Int) < ((P.cmpV b a l).1.length : Int)), dec_t (by omega : 0 ≤ (i : Int)), cond_true, Bool.and_self, Int.toNat_natCast, hx, hy, Option.bind_some, dec_t hxy, Bool.not_true, cond_false, w64_of (x := (i : Int) + 1) (by omega) (by omega)]
      rfl
    · subst hst
      simp only [dec_f (by omega : ¬ ((P.cmpV a b l).1.length : Int) < ((P.cmpV a b l).1.length : Int)), cond_false]
  simp only [k1, k2, k3, Option.bind_some, BEq.rfl, cond_true, decide_true]
  cases h3 : w.2 with
  | false => rfl
  | true =>
    simp only [Bool.not_true, cond_false, Option.bind_some]
    by_cases h4 : 1 < n
    · rw [dec_t h4]; rfl
    · rw [dec_f h4]
      simp only [cond_false]
      rw [dec_t (hw h3 (by omega))]
      rfl
end Go.Proofs.Ytkjcobhldfhodaa.Sh
