/-
  PassParcel and WaitSeconds: a pass turns one parcel, waiting the time; the network stays valid.
-/
import Derived.Test.YtlalabdgkkfjpaaRPlain7
namespace Go.Proofs.Ytlalabdgkkfjpaa.Sh
open Go Go.Ab
set_option maxRecDepth 100000

/-- alike but for where it is and when it is free -/
structure Like (x y : GParcel) : Prop where
  m : x.1 = y.1
  p : x.2.1 = y.2.1
  k : x.2.2.1 = y.2.2.1
  t : x.2.2.2.2.1 = y.2.2.2.2.1
theorem Cond.like {T : Nat} {ps qs : List GParcel} (hl : qs.length = ps.length) (hs : ∀ j, Like (P qs j) (P ps j)) {i : Nat} (ha : Alone T (P qs i)) (h : Cond T ps i) : Cond T qs i := by
  have e := (hs i).p
  have ek := (hs i).k
  refine ⟨ha, ?_, ?_, ?_, ?_, ?_, ?_⟩
  · rw [e]; exact h.lo
  · rw [e, ek, hl]; exact h.hi
  · rw [e]
    have q := hs (i - (P ps i).2.1.toNat)
    have w := hs i
    have c := h.q
    exact ⟨q.m.trans (c.1.trans w.m.symm), q.p.trans c.2.1, q.k.trans (c.2.2.1.trans w.k.symm), q.t.trans (c.2.2.2.trans w.t.symm)⟩
  · rw [e, (hs i).m, (hs (i - 1)).m]; exact h.bf
  · rw [e, ek, (hs i).m, (hs (i + 1)).m]; exact h.nx
  · rw [e, ek, (hs i).m, (hs (i + 1)).m, hl]; exact h.en

theorem P_set {ps : List GParcel} {i : Nat} {y : GParcel} (hi : i < ps.length) (j : Nat) : P (ps.set i y) j = if j = i then y else P ps j := by
  unfold P
  rw [List.getD_eq_getElem?_getD, List.getD_eq_getElem?_getD, List.getElem?_set]
  by_cases h : i = j
  · subst h; simp [hi]
  · rw [if_neg h, if_neg (fun e => h e.symm)]

def moved (x : GParcel) (t f : Int) : GParcel := (x.1, x.2.1, x.2.2.1, t, x.2.2.2.2.1, f, ())
theorem groups_set {T : Nat} {ps : List GParcel} (h : Groups T ps 0 0) {i : Nat} (hi : i < ps.length) {t f : Int} (ht : 0 ≤ t ∧ t < (T : Int)) (hf : 0 ≤ f ∧ f ≤ 20000) : Groups T (ps.set i (moved (P ps i) t f)) 0 0 := by
  rw [← cond_iff] at h ⊢
  have hs : ∀ j, Like (P (ps.set i (moved (P ps i) t f)) j) (P ps j) := fun j => by
    rw [P_set hi]
    split
    · rename_i e; subst e; exact ⟨rfl, rfl, rfl, rfl⟩
    · exact ⟨rfl, rfl, rfl, rfl⟩
  intro j hj
  rw [List.length_set] at hj
  refine (h j hj).like (by simp) hs ?_
  have ha := (h j hj).al
  rw [P_set hi]
  split
  · rename_i e; subst e; exact ⟨ha.m, ha.k, ha.p, ht, ha.t, hf⟩
  · exact ha

def actT (a : GAct) (x : GParcel) : Bool := decide (x.1 = a.2.1) && decide (x.2.1 = a.2.2.1)
theorem i_find {ps : List GParcel} (hl : ps.length ≤ maxLen) (a : GAct) : slices_IndexFunc_Parcel_140 ps (a, ()) = some (place (firstAt (actT a) ps 0)) := by
  unfold slices_IndexFunc_Parcel_140
  rw [find_loop (l := ps) (actT a) ?_ ?_]
  · cases firstAt (actT a) ps 0 <;> rfl
  · intro i x hx hi
    simp only [idx_get, hx, Option.bind_some, at_lt hi, up hl hi, cond_true, i_actOn_1, actT]
    cases decide (x.1 = a.2.1) <;> cases decide (x.2.1 = a.2.2.1) <;> rfl
  · simp
theorem s_find' (w : GNetwork) (hw : FineW w) (a : GAct) : s_nwFind w a.2.1 a.2.2.1 = some (place (firstAt (actT a) w.2.2.2.1 0)) := by
  rw [s_find w hw]
  have : (fun x : GParcel => decide (x.1 = a.2.1) && decide (x.2.1 = a.2.2.1)) = actT a := rfl
  rw [this]
  cases firstAt (actT a) w.2.2.2.1 0 <;> rfl

theorem cloneParcel {l : List GParcel} (h : l.length ≤ 1048576) : slices_Clone_Parcel l = some l := by
  unfold slices_Clone_Parcel
  have e := lim_ok (n := l.length) (by omega)
  cases l with
  | nil => simp [bothSame_self, lim]
  | cons x l => simp only [List.isEmpty_cons, cond_false, e, cond_true]
theorem cloneNw {w : GNetwork} (h : SmallW w) : i_cloneNetwork w = some w := by
  unfold i_cloneNetwork
  simp only [cloneNet h.n, cloneFog h.f, cloneParcel h.p, Option.bind_some]

theorem link_ends {n : GNet} (hn : isNet n = true) {a b : Int} {k : Nat} (h : link n a b = some k) : 0 ≤ b ∧ b < (n.1.length : Int) ∧ 1 ≤ delay n k ∧ delay n k ≤ 60 := by
  have hk := firstAt_lt _ _ _ h
  have hx : (n.2.1.getD k (0, 0, 0, ())) ∈ n.2.1 := by
    rw [List.getD_eq_getElem?_getD, List.getElem?_eq_getElem (by omega)]
    exact List.getElem_mem _
  have ho := okLinks hn _ hx
  have ht : ((fun x : GLink => (decide (x.1 = a) && decide (x.2.1 = b)) || (decide (x.1 = b) && decide (x.2.1 = a))) (n.2.1.getD k (0, 0, 0, ()))) = true := by
    have : ∀ (l : List GLink) (j : Nat), firstAt (fun x : GLink => (decide (x.1 = a) && decide (x.2.1 = b)) || (decide (x.1 = b) && decide (x.2.1 = a))) l j = some k → ∃ x, l[k - j]? = some x ∧ j ≤ k ∧ ((decide (x.1 = a) && decide (x.2.1 = b)) || (decide (x.1 = b) && decide (x.2.1 = a))) = true := by
      intro l
      induction l with
      | nil => intro j h; cases h
      | cons y l ih =>
        intro j h
        simp only [firstAt] at h
        cases hy : ((decide (y.1 = a) && decide (y.2.1 = b)) || (decide (y.1 = b) && decide (y.2.1 = a))) with
        | true => rw [hy] at h; cases h; exact ⟨y, by simp, Nat.le_refl _, hy⟩
        | false =>
          rw [hy] at h
          obtain ⟨x, h1, h2, h3⟩ := ih (j + 1) h
          refine ⟨x, ?_, by omega, h3⟩
          rw [show k - j = (k - (j + 1)) + 1 by omega]
          exact h1
    obtain ⟨x, h1, _, h3⟩ := this _ _ h
    rw [List.getD_eq_getElem?_getD]
    simp only [Nat.sub_zero] at h1
    rw [h1]
    exact h3
  unfold okLink at ho
  unfold delay
  generalize n.2.1.getD k (0, 0, 0, ()) = x at *
  simp only [inB, Bool.and_eq_true, Bool.or_eq_true, decide_eq_true_eq] at ho ht
  omega

/-- what a pass comes to -/
noncomputable def passed (w : GNetwork) (a : GAct) : GNetwork × Bool :=
  match firstAt (actT a) w.2.2.2.1 0 with
  | none => (zeroW, false)
  | some i => match link w.1 (P w.2.2.2.1 i).2.2.2.1 a.2.2.2.1 with
    | none => (zeroW, false)
    | some k => bif canV w.2.2.1 (pass w (P w.2.2.2.1 i) a.2.2.2.1) then ((w.1, w.2.1, w.2.2.1, w.2.2.2.1.set i (moved (P w.2.2.2.1 i) a.2.2.2.1 (w.2.2.1 + delay w.1 k)), ()), true) else (zeroW, false)

theorem get_P {ps : List GParcel} {i : Nat} (h : i < ps.length) : ps[i]? = some (P ps i) := by
  unfold P; rw [List.getD_eq_getElem?_getD, List.getElem?_eq_getElem h]; rfl

theorem can_link {w : GNetwork} {x : GParcel} {t : Int} (h : link w.1 x.2.2.2.1 t = none) : pass w x t = none := by
  unfold pass; rw [h]

theorem s_pass {w : GNetwork} (hw : SmallW w) (hn : isNw w = true) (a : GAct) : s_nwPass w a.2.1 a.2.2.1 a.2.2.2.1 = some (passed w a) := by
  obtain ⟨h1, h2, h3, h4, h5, h6⟩ := isNw_parts hn
  unfold s_nwPass passed
  rw [s_find' w hw.fine a]
  simp only [Option.bind_some]
  cases hf : firstAt (actT a) w.2.2.2.1 0 with
  | none => rfl
  | some i =>
    have hi := firstAt_lt _ _ _ hf
    rw [Nat.zero_add] at hi
    have hT := (net_sz h1).1
    rw [show place (some i) = (i : Int) from rfl]
    simp only [dec_f (by omega : ¬ (i : Int) < 0), cond_false, l1In_eq, Option.bind_some, idxP hi, s_can hw.fine]
    rw [w64_of (by omega) (by omega)]
    cases hl : link w.1 (P w.2.2.2.1 i).2.2.2.1 a.2.2.2.1 with
    | none =>
      rw [can_link hl]
      cases inB a.2.2.2.1 0 ((w.1.1.length : Int) - 1) <;> rfl
    | some k =>
      obtain ⟨b1, b2, b3, b4⟩ := link_ends h1 hl
      have hin : inB a.2.2.2.1 0 ((w.1.1.length : Int) - 1) = true := by unfold inB; rw [dec_t b1, dec_t (by omega)]; rfl
      rw [hin]
      simp only [Bool.not_true, cond_false, Option.bind_some]
      cases hc : canV w.2.2.1 (pass w (P w.2.2.2.1 i) a.2.2.2.1) with
      | false => rfl
      | true =>
        obtain ⟨y, e1, e2⟩ := idx_link hl
        simp only [Bool.not_true, cond_false, cond_true, s_own hw, Option.bind_some, dec_t (by omega : (0 : Int) ≤ (i : Int)), dec_t (by omega : (i : Int) < (w.2.2.2.1.length : Int)), Bool.and_self, Int.toNat_natCast, get_P hi, s_link hw.fine.n, hl, place, e1, e2]
        rw [w64_of (by omega) (by omega), List.getElem?_set_self hi]
        simp only [Option.bind_some, List.set_set]
        rfl

theorem nw_moved {w : GNetwork} (hn : isNw w = true) {i : Nat} (hi : i < w.2.2.2.1.length) {t f : Int} (ht : 0 ≤ t ∧ t < (w.1.1.length : Int)) (hf : 0 ≤ f ∧ f ≤ 20000) : isNw (w.1, w.2.1, w.2.2.1, w.2.2.2.1.set i (moved (P w.2.2.2.1 i) t f), ()) = true := by
  have hg := (isNw_groups hn).1
  have h2 := groups_set hg hi ht hf
  unfold isNw at hn ⊢
  simp only [Bool.and_eq_true, List.length_set] at hn ⊢
  exact ⟨hn.1, hn.2.1, hn.2.2.1, hn.2.2.2.1, by unfold groupsB; simp [h2]⟩
theorem small_moved {w : GNetwork} (h : SmallW w) (i : Nat) (x : GParcel) : SmallW (w.1, w.2.1, w.2.2.1, w.2.2.2.1.set i x, ()) := ⟨h.n, h.f, by simpa using h.p⟩

theorem i_passed {w : GNetwork} (hw : SmallW w) (hn : isNw w = true) (a : GAct) (ha : a.1 = 2) : i_actOn w a = some (passed w a) := by
  obtain ⟨h1, h2, h3, h4, h5, h6⟩ := isNw_parts hn
  unfold i_actOn passed
  rw [cloneNw hw]
  simp only [Option.bind_some]
  rw [i_find hw.fine.p, dec_f (by omega : ¬ a.1 = 1), dec_t ha]
  simp only [Option.bind_some, cond_false, cond_true]
  cases hf : firstAt (actT a) w.2.2.2.1 0 with
  | none => rfl
  | some i =>
    have hi := firstAt_lt _ _ _ hf
    rw [Nat.zero_add] at hi
    have hT := (net_sz h1).1
    rw [show place (some i) = (i : Int) from rfl]
    simp only [dec_f (by omega : ¬ (i : Int) < 0), cond_false, cond_true, Option.bind_some, dec_t (by omega : (0 : Int) ≤ (i : Int)), dec_t (by omega : (i : Int) < (w.2.2.2.1.length : Int)), Bool.and_self, Int.toNat_natCast, get_P hi, i_pass hw.fine h1]
    cases hl : link w.1 (P w.2.2.2.1 i).2.2.2.1 a.2.2.2.1 with
    | none =>
      rw [can_link hl]
      rfl
    | some k =>
      obtain ⟨b1, b2, b3, b4⟩ := link_ends h1 hl
      cases hc : pass w (P w.2.2.2.1 i) a.2.2.2.1 with
      | none => rfl
      | some v =>
        rw [show passV (some v) = (v, true) from rfl]
        simp only [Bool.not_true, cond_false, Option.bind_some]
        rw [show canV w.2.2.1 (some v) = decide (v = w.2.2.1) from rfl]
        by_cases hv : v = w.2.2.1
        · obtain ⟨y, e1, e2⟩ := idx_link hl
          rw [dec_t hv]
          simp only [Bool.not_true, cond_false, cond_true, i_link hw.fine.n h1, hl, place, Option.bind_some, e1, e2]
          rw [w64_of (by omega) (by omega), List.getElem?_set_self hi]
          simp only [Option.bind_some, List.set_set]
          have hm := nw_moved hn hi (t := a.2.2.2.1) (f := w.2.2.1 + delay w.1 k) ⟨b1, b2⟩ (by omega)
          have hb := i_isNw (small_moved hw i (moved (P w.2.2.2.1 i) a.2.2.2.1 (w.2.2.1 + delay w.1 k))).fine
          rw [hm] at hb
          refine bind_eq hb ?_
          rfl
        · rw [dec_f hv]
          rfl

theorem passed_small {w : GNetwork} (hw : SmallW w) (a : GAct) : SmallW (passed w a).1 := by
  have hz : SmallW zeroW := ⟨⟨by simp [zeroW], by simp [zeroW]⟩, by simp [zeroW], by simp [zeroW]⟩
  unfold passed
  split
  · exact hz
  · split
    · exact hz
    · rename_i i _ _ k _
      cases canV w.2.2.1 (pass w (P w.2.2.2.1 i) a.2.2.2.1) with
      | true => exact small_moved hw _ _
      | false => exact hz

noncomputable def waited (w : GNetwork) (n : Int) : GNetwork × Bool :=
  bif inB n 1 1000 && decide (w.2.2.1 + n ≤ 10000) then ((w.1, w.2.1, w.2.2.1 + n, w.2.2.2), true) else (zeroW, false)

theorem s_waited {w : GNetwork} (hw : SmallW w) (hn : isNw w = true) (a : GAct) (ha : a.1 = 3) : s_nwAct w a = some (waited w a.2.2.2.2.1) := by
  obtain ⟨h1, h2, h3, h4, h5, h6⟩ := isNw_parts hn
  unfold s_nwAct waited
  rw [dec_f (by omega : ¬ a.1 = 1), dec_f (by omega : ¬ a.1 = 2), dec_t ha]
  simp only [cond_false, cond_true, l1In_eq, Option.bind_some]
  cases hb : inB a.2.2.2.2.1 1 1000 with
  | false => rfl
  | true =>
    have hb2 := hb
    simp only [inB, Bool.and_eq_true, decide_eq_true_eq] at hb2
    have ht : s_fgTime (w.2.2.1 + a.2.2.2.2.1) = some (decide (w.2.2.1 + a.2.2.2.2.1 ≤ 10000)) := by
      unfold s_fgTime
      simp only [l1In_eq, Option.bind_some]
      unfold inB
      rw [dec_t (by omega : 0 ≤ w.2.2.1 + a.2.2.2.2.1)]
      rfl
    rw [w64_of (by omega) (by omega), ht]
    simp only [cond_true, Option.bind_some, Bool.true_and, s_own hw]
    rw [w64_of (by omega) (by omega)]
    cases decide (w.2.2.1 + a.2.2.2.2.1 ≤ 10000) <;> rfl

theorem i_waited {w : GNetwork} (hw : SmallW w) (hn : isNw w = true) (a : GAct) (ha : a.1 = 3) : i_actOn w a = some (waited w a.2.2.2.2.1) := by
  obtain ⟨h1, h2, h3, h4, h5, h6⟩ := isNw_parts hn
  unfold i_actOn waited
  rw [cloneNw hw]
  simp only [Option.bind_some]
  rw [i_find hw.fine.p, dec_f (by omega : ¬ a.1 = 1), dec_f (by omega : ¬ a.1 = 2), dec_t ha]
  simp only [cond_false, cond_true, within_eq, Option.bind_some]
  cases hb : inB a.2.2.2.2.1 1 1000 with
  | false => rfl
  | true =>
    have hb2 := hb
    simp only [inB, Bool.and_eq_true, decide_eq_true_eq] at hb2
    rw [w64_of (by omega) (by omega)]
    simp only [Bool.not_true, cond_false, Option.bind_some, Bool.true_and]
    by_cases hc : w.2.2.1 + a.2.2.2.2.1 ≤ 10000
    · rw [dec_f (by omega : ¬ 10000 < w.2.2.1 + a.2.2.2.2.1), dec_t hc]
      simp only [cond_false, cond_true]
      have hm : isNw (w.1, w.2.1, w.2.2.1 + a.2.2.2.2.1, w.2.2.2) = true := by
        unfold isNw at hn ⊢
        simp only [Bool.and_eq_true, inB, decide_eq_true_eq] at hn ⊢
        exact ⟨hn.1, hn.2.1, ⟨by omega, hc⟩, hn.2.2.2⟩
      have hb := i_isNw (w := (w.1, w.2.1, w.2.2.1 + a.2.2.2.2.1, w.2.2.2)) ⟨hw.fine.n, hw.fine.f, hw.fine.p⟩
      rw [hm] at hb
      exact bind_eq hb rfl
    · rw [dec_t (by omega : 10000 < w.2.2.1 + a.2.2.2.2.1), dec_f hc]
      rfl

theorem waited_small {w : GNetwork} (hw : SmallW w) (n : Int) : SmallW (waited w n).1 := by
  have hz : SmallW zeroW := ⟨⟨by simp [zeroW], by simp [zeroW]⟩, by simp [zeroW], by simp [zeroW]⟩
  unfold waited
  cases inB n 1 1000 && decide (w.2.2.1 + n ≤ 10000) with
  | true => exact ⟨hw.n, hw.f, hw.p⟩
  | false => exact hz

theorem s_act_pass {w : GNetwork} (hw : SmallW w) (hn : isNw w = true) (a : GAct) (ha : a.1 = 2) : s_nwAct w a = some (passed w a) := by
  unfold s_nwAct
  rw [dec_f (by omega : ¬ a.1 = 1), dec_t ha, s_pass hw hn]
  rfl

/-- a network and whether the act was done: the two agree, and the answer is small -/
theorem nw_tail {w : GNetwork} {v : GNetwork} {b : Bool} (hs : SmallW w) (hv : SmallW v) : (1 + (cntW w : Int) < 0 → False) ∧ (1 + (cntW v : Int) < 0 → False) := ⟨fun h => by omega, fun h => by omega⟩

theorem zero_small : SmallW zeroW := ⟨⟨by simp [zeroW], by simp [zeroW]⟩, by simp [zeroW], by simp [zeroW]⟩

theorem pass_same {w : GNetwork} (hs : SmallW w) (m p t : Int) : ∃ v b, s_PassParcel w m p t = some (v, b) ∧ i_PassParcel w m p t = some (v, b) ∧ SmallW v := by
  unfold s_PassParcel i_PassParcel s_nwAsked
  rw [s_isNw hs.fine, i_isNw hs.fine]
  simp only [Option.bind_some]
  cases hn : isNw w with
  | false => exact ⟨zeroW, false, rfl, rfl, zero_small⟩
  | true =>
    simp only [Bool.not_true, cond_false]
    rw [s_act_pass hs hn _ rfl, i_passed hs hn _ rfl]
    exact ⟨_, _, rfl, rfl, passed_small hs _⟩

theorem wait_same {w : GNetwork} (hs : SmallW w) (n : Int) : ∃ v b, s_WaitSeconds w n = some (v, b) ∧ i_WaitSeconds w n = some (v, b) ∧ SmallW v := by
  unfold s_WaitSeconds i_WaitSeconds s_nwAsked
  rw [s_isNw hs.fine, i_isNw hs.fine]
  simp only [Option.bind_some]
  cases hn : isNw w with
  | false => exact ⟨zeroW, false, rfl, rfl, zero_small⟩
  | true =>
    simp only [Bool.not_true, cond_false]
    rw [s_waited hs hn _ rfl, i_waited hs hn _ rfl]
    exact ⟨_, _, rfl, rfl, waited_small hs _⟩

/-- FnExactPassParcel -/
theorem plain_PassParcel (w : GNetwork) (m p t : Int) (hw : FineW w) : l_FnExactPassParcel w m p t = some true := by
  unfold l_FnExactPassParcel
  obtain ⟨r, hr, h2⟩ := szNetwork hw
  rw [hr]
  simp only [Option.bind_some]
  by_cases h3 : r < 0
  · rw [dec_t h3]; rfl
  rw [dec_f h3]
  have hs : SmallW w := h2.resolve_left h3
  obtain ⟨v, b, e1, e2, hv⟩ := pass_same hs m p t
  have hc := cntW_le hv
  have hcw := cntW_le hs
  have hm := heldNetwork hv (k := 1) (by omega) (by omega)
  have hm3 : ∀ q : Int, l_heldNetwork ((markedW v 1).1, (markedW v 1).2.1, v.2.2.1, (markedW v 1).2.2.2) 1 = l_heldNetwork (markedW v 1) 1 := fun _ => rfl
  simp only [toNetwork hs, e1, e2, eqNetwork hv.fine, eqNetwork hw, Option.bind_some, cond_false, Bool.not_true, bne_self_eq_false, markNetwork hs (k := 1) (by omega) (by omega), dec_f (by omega : ¬ (1 + (cntW w : Int)) < 0),
    markNetwork hv (k := 1) (by omega) (by omega), hm3 0, hm, dec_f (by omega : ¬ (1 + (cntW v : Int)) < 0), decide_true]

/-- FnExactWaitSeconds -/
theorem plain_WaitSeconds (w : GNetwork) (n : Int) (hw : FineW w) : l_FnExactWaitSeconds w n = some true := by
  unfold l_FnExactWaitSeconds
  obtain ⟨r, hr, h2⟩ := szNetwork hw
  rw [hr]
  simp only [Option.bind_some]
  by_cases h3 : r < 0
  · rw [dec_t h3]; rfl
  rw [dec_f h3]
  have hs : SmallW w := h2.resolve_left h3
  obtain ⟨v, b, e1, e2, hv⟩ := wait_same hs n
  have hc := cntW_le hv
  have hcw := cntW_le hs
  have hm := heldNetwork hv (k := 1) (by omega) (by omega)
  have hm3 : ∀ q : Int, l_heldNetwork ((markedW v 1).1, (markedW v 1).2.1, v.2.2.1, (markedW v 1).2.2.2) 1 = l_heldNetwork (markedW v 1) 1 := fun _ => rfl
  simp only [toNetwork hs, e1, e2, eqNetwork hv.fine, eqNetwork hw, Option.bind_some, cond_false, Bool.not_true, bne_self_eq_false, markNetwork hs (k := 1) (by omega) (by omega), dec_f (by omega : ¬ (1 + (cntW w : Int)) < 0),
    markNetwork hv (k := 1) (by omega) (by omega), hm3 0, hm, dec_f (by omega : ¬ (1 + (cntW v : Int)) < 0), decide_true]
end Go.Proofs.Ytlalabdgkkfjpaa.Sh
