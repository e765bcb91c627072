/-
  RunActs: acts one by one.
-/
import Derived.Test.YtlalabdgkkfjpaaRPlainA
namespace Go.Proofs.Ytlalabdgkkfjpaa.Sh
open Go Go.Ab
set_option maxRecDepth 100000

/-- what an act comes to, on either side -/
noncomputable def acted (w : GNetwork) (x : GAct) : GNetwork × Bool :=
  bif decide (x.1 = 1) then accepted w x.2.1 x.2.2.1 x.2.2.2.1 x.2.2.2.2.1 else bif decide (x.1 = 2) then passed w x else bif decide (x.1 = 3) then waited w x.2.2.2.2.1 else (zeroW, false)
theorem s_acted {w : GNetwork} (hw : SmallW w) (hn : isNw w = true) (x : GAct) : s_nwAct w x = some (acted w x) := by
  unfold acted
  by_cases h1 : x.1 = 1
  · rw [dec_t h1, s_act_acc hw hn x h1]; rfl
  by_cases h2 : x.1 = 2
  · rw [dec_f h1, dec_t h2, s_act_pass hw hn x h2]; rfl
  by_cases h3 : x.1 = 3
  · rw [dec_f h1, dec_f h2, dec_t h3, s_waited hw hn x h3]; rfl
  · unfold s_nwAct
    rw [dec_f h1, dec_f h2, dec_f h3]
    rfl
theorem i_acted {w : GNetwork} (hw : SmallW w) (hn : isNw w = true) (x : GAct) : i_actOn w x = some (acted w x) := by
  unfold acted
  by_cases h1 : x.1 = 1
  · rw [dec_t h1, i_acc hw hn x h1]; rfl
  by_cases h2 : x.1 = 2
  · rw [dec_f h1, dec_t h2, i_passed hw hn x h2]; rfl
  by_cases h3 : x.1 = 3
  · rw [dec_f h1, dec_f h2, dec_t h3, i_waited hw hn x h3]; rfl
  · unfold i_actOn
    rw [cloneNw hw]
    simp only [Option.bind_some]
    rw [i_find hw.fine.p, dec_f h1, dec_f h2, dec_f h3]
    rfl
theorem acted_ok {w : GNetwork} (hw : SmallW w) (hn : isNw w = true) (x : GAct) (h : (acted w x).2 = true) : isNw (acted w x).1 = true ∧ SmallW (acted w x).1 := by
  obtain ⟨q1, q2, q3, q4, q5, q6⟩ := isNw_parts hn
  unfold acted at h ⊢
  by_cases h1 : x.1 = 1
  · rw [dec_t h1] at h ⊢
    simp only [cond_true] at h ⊢
    refine ⟨?_, acc_small hw hn _ _ _ _⟩
    unfold accepted at h ⊢
    cases ho : okAcc w x.2.1 x.2.2.1 x.2.2.2.1 x.2.2.2.2.1 with
    | false => rw [ho] at h; cases h
    | true =>
      simp only [cond_true]
      unfold okAcc at ho
      simp only [Bool.and_eq_true, Bool.not_eq_true'] at ho
      have hk := ho.2.2.2.1
      simp only [inB, Bool.and_eq_true, decide_eq_true_eq] at hk
      rw [nw_acc hn hk ho.2.2.2.2.1]
      simp only [Bool.and_eq_true, Bool.not_eq_true']
      exact ⟨ho.1, ho.2.1, ho.2.2.1, ho.2.2.2.2.2⟩
  rw [dec_f h1] at h ⊢
  by_cases h2 : x.1 = 2
  · rw [dec_t h2] at h ⊢
    simp only [cond_true, cond_false] at h ⊢
    refine ⟨?_, passed_small hw x⟩
    unfold passed at h ⊢
    split at h
    · cases h
    · rename_i i hf
      have hi := firstAt_lt _ _ _ hf
      rw [Nat.zero_add] at hi
      split at h
      · cases h
      · rename_i k hl
        obtain ⟨b1, b2, b3, b4⟩ := link_ends q1 hl
        cases hcan : canV w.2.2.1 (pass w (P w.2.2.2.1 i) x.2.2.2.1) with
        | false => rw [hcan] at h; cases h
        | true =>
          simp only [cond_true]
          exact nw_moved hn hi ⟨b1, b2⟩ (by omega)
  rw [dec_f h2] at h ⊢
  by_cases h3 : x.1 = 3
  · rw [dec_t h3] at h ⊢
    simp only [cond_true, cond_false] at h ⊢
    refine ⟨?_, waited_small hw _⟩
    unfold waited at h ⊢
    cases hb : (inB x.2.2.2.2.1 1 1000 && decide (w.2.2.1 + x.2.2.2.2.1 ≤ 10000)) with
    | false => rw [hb] at h; cases h
    | true =>
      simp only [cond_true]
      simp only [Bool.and_eq_true, inB, decide_eq_true_eq] at hb
      unfold isNw at hn ⊢
      simp only [Bool.and_eq_true, inB, decide_eq_true_eq] at hn ⊢
      exact ⟨hn.1, hn.2.1, ⟨by omega, hb.2⟩, hn.2.2.2⟩
  · rw [dec_f h3] at h; cases h

/-- acts one by one, till one fails -/
noncomputable def runs : GNetwork → List GAct → Int → GNetwork × Int
  | w, [], n => (w, n)
  | w, x :: l, n => bif (acted w x).2 then runs (acted w x).1 l (n + 1) else (w, n)
theorem runs_small : ∀ (l : List GAct) (w : GNetwork) (n : Int), SmallW w → isNw w = true → SmallW (runs w l n).1
  | [], w, n, hw, _ => hw
  | x :: l, w, n, hw, hn => by
    unfold runs
    cases h : (acted w x).2 with
    | false => exact hw
    | true =>
      obtain ⟨h1, h2⟩ := acted_ok hw hn x h
      exact runs_small l _ _ h2 h1

abbrev St5 : Type := (List GLink) × (List GLink) × (List GLink) × Int × (List GParcel)
def five (w : GNetwork) : St5 := (w.1.1, w.1.2.1, w.2.1, w.2.2.1, w.2.2.2.1)

/-- a loop over acts: it goes on while they are done, and ends early or at the end with what is there -/
theorem acts_loop {τ ρ : Type} {l : List GAct} (hl : l.length ≤ 100) {f : τ → Option (τ ⊕ ρ)} (J : GNetwork → Nat → τ → Prop) (V : GNetwork → Int → ρ → Prop)
    (hgo : ∀ w (i : Nat) x st, l[i]? = some x → i < l.length → SmallW w → isNw w = true → J w i st → (acted w x).2 = true → ∃ st', f st = some (.inl st') ∧ J (acted w x).1 (i + 1) st')
    (hstop : ∀ w (i : Nat) x st, l[i]? = some x → i < l.length → SmallW w → isNw w = true → J w i st → (acted w x).2 = false → ∃ y, f st = some (.inr y) ∧ V w (i : Int) y)
    (hend : ∀ w st, J w l.length st → ∃ y, f st = some (.inr y) ∧ V w (l.length : Int) y) :
    ∀ (r pre : List GAct) (w : GNetwork) (st : τ), l = pre ++ r → SmallW w → isNw w = true → J w pre.length st → ∃ y, loopE f st = some y ∧ V (runs w r (pre.length : Int)).1 (runs w r (pre.length : Int)).2 y
  | [], pre, w, st, e, hw, hn, hJ => by
    rw [List.append_nil] at e
    subst e
    obtain ⟨y, h1, h2⟩ := hend w st hJ
    exact ⟨y, loopE_done h1, h2⟩
  | x :: r, pre, w, st, e, hw, hn, hJ => by
    have hx : l[pre.length]? = some x := by rw [e]; simp
    have hlt : pre.length < l.length := by rw [e]; simp
    unfold runs
    cases h : (acted w x).2 with
    | false =>
      obtain ⟨y, h1, h2⟩ := hstop w pre.length x st hx hlt hw hn hJ h
      exact ⟨y, loopE_done h1, h2⟩
    | true =>
      obtain ⟨st', h1, h2⟩ := hgo w pre.length x st hx hlt hw hn hJ h
      obtain ⟨k1, k2⟩ := acted_ok hw hn x h
      obtain ⟨y, h3, h4⟩ := acts_loop hl J V hgo hstop hend r (pre ++ [x]) (acted w x).1 st' (by rw [e]; simp) k2 k1 (by simpa using h2)
      refine ⟨y, by rw [loopE_step h1]; exact h3, ?_⟩
      rw [show ((pre ++ [x]).length : Int) = (pre.length : Int) + 1 by simp] at h4
      exact h4

noncomputable def ranV (w : GNetwork) (l : List GAct) : GNetwork × Int × Bool := ((runs w l 0).1, (runs w l 0).2, true)

theorem bind_ex {α β : Type} {m : Option α} {V : α → Prop} {g : α → Option β} {r : β} (h : ∃ y, m = some y ∧ V y) (h2 : ∀ y, V y → g y = some r) : m.bind g = some r := by
  obtain ⟨y, rfl, hv⟩ := h
  exact h2 y hv
abbrev St10 : Type := (List GLink) × (List GLink) × (List GLink) × Int × (List GParcel) × (List GLink) × (List GLink) × (List GLink) × Int × (List GParcel)
abbrev St7 : Type := (List GLink) × (List GLink) × (List GLink) × Int × (List GParcel) × Int × Bool
def sEnd (w : GNetwork) : St10 := ([], [], [], 0, [], w.1.1, w.1.2.1, w.2.1, w.2.2.1, w.2.2.2.1)
def iEnd (w : GNetwork) : St10 := (w.1.1, w.1.2.1, w.2.1, w.2.2.1, w.2.2.2.1, [], [], [], 0, [])
def early (w : GNetwork) (n : Int) : St7 := (w.1.1, w.1.2.1, w.2.1, w.2.2.1, w.2.2.2.1, n, true)

theorem s_runs {w : GNetwork} (hw : SmallW w) (hn : isNw w = true) {l : List GAct} (hl : l.length ≤ 100) : s_RunActs w l = some (ranV w l) := by
  unfold s_RunActs
  rw [s_isNw hw.fine, hn]
  simp only [Option.bind_some, Bool.not_true, cond_false, dec_f (by omega : ¬ 100 < (l.length : Int)), s_own hw]
  refine bind_ex (acts_loop (l := l) hl (fun w' i st => st = (([] : List GLink), ([] : List GLink), ([] : List GLink), (0 : Int), ([] : List GParcel), w'.1.1, w'.1.2.1, w'.2.1, w'.2.2.1, w'.2.2.2.1, (i : Int)))
    (fun w' n (y : St10 ⊕ St7) => y = Sum.inr (early w' n) ∨ (n = (l.length : Int) ∧ y = Sum.inl (sEnd w'))) ?_ ?_ ?_ l [] w _ rfl hw hn rfl) ?_
  · intro w' i x st hx hi hw' hn' hst hd
    subst hst
    refine ⟨_, ?_, rfl⟩
    have e := s_acted hw' hn' x
    have e' : s_nwAct ((w'.1.1, w'.1.2.1, ()), w'.2.1, w'.2.2.1, w'.2.2.2.1, ()) x = some (acted w' x) := e
    simp only [at_lt hi, cond_true, idx_get, hx, Option.bind_some, e', hd, Bool.not_true, cond_false, w64_of (x := (i : Int) + 1) (by omega) (by omega)]
    rfl
  · intro w' i x st hx hi hw' hn' hst hd
    subst hst
    refine ⟨_, ?_, .inl rfl⟩
    have e' : s_nwAct ((w'.1.1, w'.1.2.1, ()), w'.2.1, w'.2.2.1, w'.2.2.2.1, ()) x = some (acted w' x) := s_acted hw' hn' x
    simp only [at_lt hi, cond_true, idx_get, hx, Option.bind_some, e', hd, Bool.not_false]
    rfl
  · intro w' st hst
    subst hst
    refine ⟨_, ?_, .inr ⟨rfl, rfl⟩⟩
    simp only [dec_f (by omega : ¬ (l.length : Int) < (l.length : Int)), cond_false]
    rfl
  · intro y hy
    show _ = some (ranV w l)
    unfold ranV
    simp only [List.length_nil] at hy
    rw [show ((0 : Nat) : Int) = 0 from rfl] at hy
    generalize runs w l 0 = r at hy
    obtain ⟨v, n⟩ := r
    rcases hy with rfl | ⟨hn2, rfl⟩
    · rfl
    · simp only at hn2
      subst hn2
      rfl
theorem i_runs {w : GNetwork} (hw : SmallW w) (hn : isNw w = true) {l : List GAct} (hl : l.length ≤ 100) : i_RunActs w l = some (ranV w l) := by
  unfold i_RunActs
  rw [i_isNw hw.fine, hn]
  simp only [Option.bind_some, Bool.not_true, cond_false, dec_f (by omega : ¬ 100 < (l.length : Int)), cloneNw hw]
  refine bind_ex (acts_loop (l := l) hl (fun w' i st => st = (w'.1.1, w'.1.2.1, w'.2.1, w'.2.2.1, w'.2.2.2.1, ([] : List GLink), ([] : List GLink), ([] : List GLink), (0 : Int), ([] : List GParcel), (i : Int)))
    (fun w' n (y : St10 ⊕ St7) => y = Sum.inr (early w' n) ∨ (n = (l.length : Int) ∧ y = Sum.inl (iEnd w'))) ?_ ?_ ?_ l [] w _ rfl hw hn rfl) ?_
  · intro w' i x st hx hi hw' hn' hst hd
    subst hst
    refine ⟨_, ?_, rfl⟩
    have e' : i_actOn ((w'.1.1, w'.1.2.1, ()), w'.2.1, w'.2.2.1, w'.2.2.2.1, ()) x = some (acted w' x) := i_acted hw' hn' x
    simp only [at_lt hi, cond_true, idx_get, hx, Option.bind_some, e', hd, Bool.not_true, cond_false, w64_of (x := (i : Int) + 1) (by omega) (by omega)]
    rfl
  · intro w' i x st hx hi hw' hn' hst hd
    subst hst
    refine ⟨_, ?_, .inl rfl⟩
    have e' : i_actOn ((w'.1.1, w'.1.2.1, ()), w'.2.1, w'.2.2.1, w'.2.2.2.1, ()) x = some (acted w' x) := i_acted hw' hn' x
    simp only [at_lt hi, cond_true, idx_get, hx, Option.bind_some, e', hd, Bool.not_false]
    rfl
  · intro w' st hst
    subst hst
    refine ⟨_, ?_, .inr ⟨rfl, rfl⟩⟩
    simp only [dec_f (by omega : ¬ (l.length : Int) < (l.length : Int)), cond_false]
    rfl
  · intro y hy
    show _ = some (ranV w l)
    unfold ranV
    simp only [List.length_nil] at hy
    rw [show ((0 : Nat) : Int) = 0 from rfl] at hy
    generalize runs w l 0 = r at hy
    obtain ⟨v, n⟩ := r
    rcases hy with rfl | ⟨hn2, rfl⟩
    · rfl
    · simp only at hn2
      subst hn2
      rfl

theorem run_same {w : GNetwork} (hs : SmallW w) (l : List GAct) : ∃ v n b, s_RunActs w l = some (v, n, b) ∧ i_RunActs w l = some (v, n, b) ∧ SmallW v := by
  cases hn : isNw w with
  | false =>
    unfold s_RunActs i_RunActs
    rw [s_isNw hs.fine, i_isNw hs.fine, hn]
    exact ⟨zeroW, 0, false, rfl, rfl, zero_small⟩
  | true =>
    by_cases hl : l.length ≤ 100
    · rw [s_runs hs hn hl, i_runs hs hn hl]
      exact ⟨_, _, _, rfl, rfl, runs_small l w 0 hs hn⟩
    · unfold s_RunActs i_RunActs
      rw [s_isNw hs.fine, i_isNw hs.fine, hn]
      simp only [Option.bind_some, Bool.not_true, cond_false, dec_t (by omega : 100 < (l.length : Int)), cond_true]
      exact ⟨zeroW, 0, false, rfl, rfl, zero_small⟩

/-! the acts themselves -/
theorem szNetwork2 {w : GNetwork} (h : FineW w) : ∃ r, l_szNetwork w 1048576 = some r ∧ (r < 0 ∨ (SmallW w ∧ 0 ≤ r ∧ r ≤ 1048576)) := by
  unfold l_szNetwork
  obtain ⟨a, ha, h2⟩ := szNet (left := 1048576) h.n (by decide) (by decide)
  simp only [ha, Option.bind_some]
  rcases h2 with h2 | ⟨h2, h3, h4⟩
  · rw [decide_eq_true h2]; exact ⟨_, rfl, .inl (by decide)⟩
  · rw [show decide (a < 0) = false from decide_eq_false (by omega)]
    obtain ⟨b, hb, h5⟩ := szFogS (left := a) h.f h3 h4
    simp only [hb, Option.bind_some, cond_false]
    rcases h5 with h5 | ⟨h5, h6, h7⟩
    · rw [decide_eq_true h5]; exact ⟨_, rfl, .inl (by decide)⟩
    · rw [show decide (b < 0) = false from decide_eq_false (by omega)]
      obtain ⟨c, hc, h8⟩ := szParcelS (left := b) h.p h6 h7
      simp only [hc, Option.bind_some, cond_false]
      rcases h8 with h8 | ⟨h8, h9, h10⟩
      · rw [decide_eq_true h8]; exact ⟨_, rfl, .inl (by decide)⟩
      · rw [show decide (c < 0) = false from decide_eq_false (by omega)]
        exact ⟨_, rfl, .inr ⟨⟨h2, h5, h8⟩, h9, h10⟩⟩
theorem szActS {a : List GAct} {left : Int} (h : a.length ≤ maxLen) (h0 : 0 ≤ left) (h1 : left ≤ 1048576) : ∃ r, l_szActS a left = some r ∧ (r < 0 ∨ a.length ≤ 1048576) := by
  unfold l_szActS
  unfold maxLen at h
  rw [w64_of (by omega) (by omega)]
  by_cases h2 : left - (a.length : Int) < 0
  · rw [dec_t h2]; exact ⟨-1, rfl, .inl (by omega)⟩
  · rw [dec_f h2]; exact ⟨_, rfl, .inr (by omega)⟩
theorem toActS {l : List GAct} (h : l.length ≤ 1048576) : l_toActS l = some l := by
  unfold l_toActS
  rw [copy_guard h, cond_true, copy_loop (fun x => x) h ?_ ?_]
  · simp
  · intro out i x hx hi
    simp only [idx_get, hx, Option.bind_some, at_lt hi, cond_true, l_toAct]
  · intro out; simp
theorem eqAct (x : GAct) : l_eqAct x x = some true := by
  unfold l_eqAct
  simp only [decide_true, Bool.not_true, cond_false]
theorem eqActS {l : List GAct} (h : l.length ≤ maxLen) : l_eqActS l l = some true := by
  unfold l_eqActS
  simp only [decide_true, Bool.not_true, cond_false]
  rw [all_loop (l := l) (fun _ => true) false ?_ ?_]
  · have : (l.all fun _ => true) = true := by simp
    rw [this]
    rfl
  · intro i x hx hi
    simp only [idx_get, hx, Option.bind_some, at_lt hi, up h hi, eqAct]
    rfl
  · simp
def wr5 (_ : GAct) (k : Int) : GAct × Int := ((k, k + 1, k + 1 + 1, k + 1 + 1 + 1, k + 1 + 1 + 1 + 1, ()), k + 1 + 1 + 1 + 1 + 1)
theorem markActS {l : List GAct} {k : Int} (h : l.length ≤ 1048576) (h0 : 0 ≤ k) (h1 : k ≤ 1000000000000000) : l_markActS l k = some (marked wr5 l k, k + ((5 * l.length : Nat) : Int)) := by
  unfold l_markActS
  refine bind_eq (mark_loop wr5 (fun _ => 5) (B := 9000000000000000000) (fun _ _ => by simp [wr5]; try omega) ?_ l [] k ?_ h0 ?_ (by simpa using (by omega : l.length ≤ 4194304))) ?_
  · intro l k
    simp only [show decide ((l.length : Int) < (l.length : Int)) = false from decide_eq_false (by omega), cond_false]
  · intro x _ pre suf k h0 hB hl
    simp only [List.length_append, List.length_cons] at hl
    have e0 : w64 (k + 1) = k + 1 := w64_of (by omega) (by omega)
    have e1 : w64 (k + 1 + 1) = k + 1 + 1 := w64_of (by omega) (by omega)
    have e2 : w64 (k + 1 + 1 + 1) = k + 1 + 1 + 1 := w64_of (by omega) (by omega)
    have e3 : w64 (k + 1 + 1 + 1 + 1) = k + 1 + 1 + 1 + 1 := w64_of (by omega) (by omega)
    have e4 : w64 (k + 1 + 1 + 1 + 1 + 1) = k + 1 + 1 + 1 + 1 + 1 := w64_of (by omega) (by omega)
    have g : decide (0 ≤ (pre.length : Int)) = true := decide_eq_true (by omega)
    have g2 : ∀ y : GAct, decide ((pre.length : Int) < ((pre ++ y :: suf).length : Int)) = true := fun y => by simp; omega
    have eu : w64 ((pre.length : Int) + 1) = (pre.length : Int) + 1 := w64_of (by omega) (by omega)
    simp only [g, g2, get_mid, set_mid, cond_true, Bool.and_self, Option.bind_some, e0, e1, e2, e3, e4, eu, wr5]
  · rw [total_const]; omega
  · simp only [List.nil_append, total_const]

/-- FnExactRunActs -/
theorem plain_RunActs (w : GNetwork) (l : List GAct) (hw : FineW w) (hl : l.length ≤ maxLen) : l_FnExactRunActs w l = some true := by
  unfold l_FnExactRunActs
  obtain ⟨r, hr, h2⟩ := szNetwork2 hw
  rw [hr]
  simp only [Option.bind_some]
  by_cases h3 : r < 0
  · rw [dec_t h3]; rfl
  rw [dec_f h3]
  obtain ⟨hs, r0, r1⟩ := h2.resolve_left h3
  obtain ⟨q, hq, k2⟩ := szActS hl r0 r1
  rw [hq]
  simp only [Option.bind_some, cond_false]
  by_cases h4 : q < 0
  · rw [dec_t h4]; rfl
  rw [dec_f h4]
  have hla := k2.resolve_left h4
  obtain ⟨v, n, b, e1, e2, hv⟩ := run_same hs l
  have hc := cntW_le hv
  have hcw := cntW_le hs
  have hm := heldNetwork hv (k := 1) (by omega) (by omega)
  have hm3 : ∀ q : Int, l_heldNetwork ((markedW v 1).1, (markedW v 1).2.1, v.2.2.1, (markedW v 1).2.2.2) 1 = l_heldNetwork (markedW v 1) 1 := fun _ => rfl
  simp only [toNetwork hs, toActS hla, e1, e2, eqNetwork hv.fine, eqNetwork hw, eqActS hl, Option.bind_some, cond_false, Bool.not_true, bne_self_eq_false, decide_true, markNetwork hs (k := 1) (by omega) (by omega), markActS hla (k := 1 + (cntW w : Int)) (by omega) (by omega),
    dec_f (by omega : ¬ (1 + (cntW w : Int) + ((5 * l.length : Nat) : Int)) < 0), markNetwork hv (k := 1) (by omega) (by omega), hm3 0, hm, dec_f (by omega : ¬ (1 + (cntW v : Int)) < 0)]
end Go.Proofs.Ytlalabdgkkfjpaa.Sh
