/-
  Plain facts, over this seat.
-/
import Derived.Test.YtlalabdgkkfjpaaNP1
namespace Go.Proofs.Ytlalabdgkkfjpaa.Sh
open Go Go.Ab Go.Proofs
def there (T : Int) (x : GParcel) : Bool := decide (x.2.2.2.1 = x.2.2.2.2.1) && decide (x.2.2.2.2.2.1 ≤ T)
def cnt (T : Int) (ps : List GParcel) (i j : Nat) : Nat := (List.range j).countP fun d => there T (P ps (i + d))
end Go.Proofs.Ytlalabdgkkfjpaa.Sh
namespace Go.Proofs.Ytlalabdgkkfjpaa.Sh
open Go Go.Ab
set_option maxRecDepth 100000
structure Like (x y : GParcel) : Prop where
  m : x.1 = y.1
  p : x.2.1 = y.2.1
  k : x.2.2.1 = y.2.2.1
  t : x.2.2.2.2.1 = y.2.2.2.2.1
theorem Cond.like {T : Nat} {ps qs : List GParcel} (hl : qs.length = ps.length) (hs : ∀ j, Like (P qs j) (P ps j)) {i : Nat} (ha : Alone T (P qs i)) (h : Cond T ps i) : Cond T qs i := by
  have e := (hs i).p
  have ek := (hs i).k
  refine ⟨ha, ?_, ?_, ?_, ?_, ?_, ?_⟩
  · rw [e]; exact h.lo
  · rw [e, ek, hl]; exact h.hi
  · rw [e]
    have q := hs (i - (P ps i).2.1.toNat)
    have w := hs i
    have c := h.q
    exact ⟨q.m.trans (c.1.trans w.m.symm), q.p.trans c.2.1, q.k.trans (c.2.2.1.trans w.k.symm), q.t.trans (c.2.2.2.trans w.t.symm)⟩
  · rw [e, (hs i).m, (hs (i - 1)).m]; exact h.bf
  · rw [e, ek, (hs i).m, (hs (i + 1)).m]; exact h.nx
  · rw [e, ek, (hs i).m, (hs (i + 1)).m, hl]; exact h.en
theorem P_set {ps : List GParcel} {i : Nat} {y : GParcel} (hi : i < ps.length) (j : Nat) : P (ps.set i y) j = if j = i then y else P ps j := by
  unfold P
  rw [List.getD_eq_getElem?_getD, List.getD_eq_getElem?_getD, List.getElem?_set]
  by_cases h : i = j
  · subst h; simp [hi]
  · rw [if_neg h, if_neg (fun e => h e.symm)]
def moved (x : GParcel) (t f : Int) : GParcel := (x.1, x.2.1, x.2.2.1, t, x.2.2.2.2.1, f, ())
theorem groups_set {T : Nat} {ps : List GParcel} (h : Groups T ps 0 0) {i : Nat} (hi : i < ps.length) {t f : Int} (ht : 0 ≤ t ∧ t < (T : Int)) (hf : 0 ≤ f ∧ f ≤ 20000) : Groups T (ps.set i (moved (P ps i) t f)) 0 0 := by
  rw [← cond_iff] at h ⊢
  have hs : ∀ j, Like (P (ps.set i (moved (P ps i) t f)) j) (P ps j) := fun j => by
    rw [P_set hi]
    split
    · rename_i e; subst e; exact ⟨rfl, rfl, rfl, rfl⟩
    · exact ⟨rfl, rfl, rfl, rfl⟩
  intro j hj
  rw [List.length_set] at hj
  refine (h j hj).like (by simp) hs ?_
  have ha := (h j hj).al
  rw [P_set hi]
  split
  · rename_i e; subst e; exact ⟨ha.m, ha.k, ha.p, ht, ha.t, hf⟩
  · exact ha
def actT (a : GAct) (x : GParcel) : Bool := decide (x.1 = a.2.1) && decide (x.2.1 = a.2.2.1)
theorem i_find {ps : List GParcel} (hl : ps.length ≤ maxLen) (a : GAct) : slices_IndexFunc_Parcel_140 ps (a, ()) = some (place (firstAt (actT a) ps 0)) := by
  unfold slices_IndexFunc_Parcel_140
  rw [find_loop (l := ps) (actT a) ?_ ?_]
  · cases firstAt (actT a) ps 0 <;> rfl
  · intro i x hx hi
    simp only [idx_get, hx, Option.bind_some, at_lt hi, up hl hi, cond_true, i_actOn_1, actT]
    cases decide (x.1 = a.2.1) <;> cases decide (x.2.1 = a.2.2.1) <;> rfl
  · simp
theorem s_find' (w : GNetwork) (hw : FineW w) (a : GAct) : s_nwFind w a.2.1 a.2.2.1 = some (place (firstAt (actT a) w.2.2.2.1 0)) := by
  rw [s_find w hw]
  have : (fun x : GParcel => decide (x.1 = a.2.1) && decide (x.2.1 = a.2.2.1)) = actT a := rfl
  rw [this]
  cases firstAt (actT a) w.2.2.2.1 0 <;> rfl
theorem cloneParcel {l : List GParcel} (h : l.length ≤ 1048576) : slices_Clone_Parcel l = some l := by
  unfold slices_Clone_Parcel
  have e := lim_ok (n := l.length) (by omega)
  cases l with
  | nil => simp [bothSame_self, lim]
  | cons x l => simp only [List.isEmpty_cons, cond_false, e, cond_true]
theorem cloneNw {w : GNetwork} (h : SmallW w) : i_cloneNetwork w = some w := by
  unfold i_cloneNetwork
  simp only [cloneNet h.n, cloneFog h.f, cloneParcel h.p, Option.bind_some]
theorem link_ends {n : GNet} (hn : isNet n = true) {a b : Int} {k : Nat} (h : link n a b = some k) : 0 ≤ b ∧ b < (n.1.length : Int) ∧ 1 ≤ delay n k ∧ delay n k ≤ 60 := by
  have hk := firstAt_lt _ _ _ h
  have hx : (n.2.1.getD k (0, 0, 0, ())) ∈ n.2.1 := by
    rw [List.getD_eq_getElem?_getD, List.getElem?_eq_getElem (by omega)]
    exact List.getElem_mem _
  have ho := okLinks hn _ hx
  have ht : ((fun x : GLink => (decide (x.1 = a) && decide (x.2.1 = b)) || (decide (x.1 = b) && decide (x.2.1 = a))) (n.2.1.getD k (0, 0, 0, ()))) = true := by
    have : ∀ (l : List GLink) (j : Nat), firstAt (fun x : GLink => (decide (x.1 = a) && decide (x.2.1 = b)) || (decide (x.1 = b) && decide (x.2.1 = a))) l j = some k → ∃ x, l[k - j]? = some x ∧ j ≤ k ∧ ((decide (x.1 = a) && decide (x.2.1 = b)) || (decide (x.1 = b) && decide (x.2.1 = a))) = true := by
      intro l
      induction l with
      | nil => intro j h; cases h
      | cons y l ih =>
        intro j h
        simp only [firstAt] at h
        cases hy : ((decide (y.1 = a) && decide (y.2.1 = b)) || (decide (y.1 = b) && decide (y.2.1 = a))) with
        | true => rw [hy] at h; cases h; exact ⟨y, by simp, Nat.le_refl _, hy⟩
        | false =>
          rw [hy] at h
          obtain ⟨x, h1, h2, h3⟩ := ih (j + 1) h
          refine ⟨x, ?_, by omega, h3⟩
          rw [show k - j = (k - (j + 1)) + 1 by omega]
          exact h1
    obtain ⟨x, h1, _, h3⟩ := this _ _ h
    rw [List.getD_eq_getElem?_getD]
    simp only [Nat.sub_zero] at h1
    rw [h1]
    exact h3
  unfold okLink at ho
  unfold delay
  generalize n.2.1.getD k (0, 0, 0, ()) = x at *
  simp only [inB, Bool.and_eq_true, Bool.or_eq_true, decide_eq_true_eq] at ho ht
  omega
noncomputable def passed (w : GNetwork) (a : GAct) : GNetwork × Bool :=
  match firstAt (actT a) w.2.2.2.1 0 with
  | none => (zeroW, false)
  | some i => match link w.1 (P w.2.2.2.1 i).2.2.2.1 a.2.2.2.1 with
    | none => (zeroW, false)
    | some k => bif canV w.2.2.1 (pass w (P w.2.2.2.1 i) a.2.2.2.1) then ((w.1, w.2.1, w.2.2.1, w.2.2.2.1.set i (moved (P w.2.2.2.1 i) a.2.2.2.1 (w.2.2.1 + delay w.1 k)), ()), true) else (zeroW, false)
theorem get_P {ps : List GParcel} {i : Nat} (h : i < ps.length) : ps[i]? = some (P ps i) := by
  unfold P; rw [List.getD_eq_getElem?_getD, List.getElem?_eq_getElem h]; rfl
theorem can_link {w : GNetwork} {x : GParcel} {t : Int} (h : link w.1 x.2.2.2.1 t = none) : pass w x t = none := by
  unfold pass; rw [h]
theorem s_pass {w : GNetwork} (hw : SmallW w) (hn : isNw w = true) (a : GAct) : s_nwPass w a.2.1 a.2.2.1 a.2.2.2.1 = some (passed w a) := by
  obtain ⟨h1, h2, h3, h4, h5, h6⟩ := isNw_parts hn
  unfold s_nwPass passed
  rw [s_find' w hw.fine a]
  simp only [Option.bind_some]
  cases hf : firstAt (actT a) w.2.2.2.1 0 with
  | none => rfl
  | some i =>
    have hi := firstAt_lt _ _ _ hf
    rw [Nat.zero_add] at hi
    have hT := (net_sz h1).1
    rw [show place (some i) = (i : Int) from rfl]
    simp only [dec_f (by omega : ¬ (i : Int) < 0), cond_false, l1In_eq, Option.bind_some, idxP hi, s_can hw.fine]
    rw [w64_of (by omega) (by omega)]
    cases hl : link w.1 (P w.2.2.2.1 i).2.2.2.1 a.2.2.2.1 with
    | none =>
      rw [can_link hl]
      cases inB a.2.2.2.1 0 ((w.1.1.length : Int) - 1) <;> rfl
    | some k =>
      obtain ⟨b1, b2, b3, b4⟩ := link_ends h1 hl
      have hin : inB a.2.2.2.1 0 ((w.1.1.length : Int) - 1) = true := by unfold inB; rw [dec_t b1, dec_t (by omega)]; rfl
      rw [hin]
      simp only [Bool.not_true, cond_false, Option.bind_some]
      cases hc : canV w.2.2.1 (pass w (P w.2.2.2.1 i) a.2.2.2.1) with
      | false => rfl
      | true =>
        obtain ⟨y, e1, e2⟩ := idx_link hl
        simp only [Bool.not_true, cond_false, cond_true, s_own hw, Option.bind_some, dec_t (by omega : (0 : Int) ≤ (i : Int)), dec_t (by omega : (i : Int) < (w.2.2.2.1.length : Int)), Bool.and_self, Int.toNat_natCast, get_P hi, s_link hw.fine.n, hl, place, e1, e2]
        rw [w64_of (by omega) (by omega), List.getElem?_set_self hi]
        simp only [Option.bind_some, List.set_set]
        rfl
theorem nw_moved {w : GNetwork} (hn : isNw w = true) {i : Nat} (hi : i < w.2.2.2.1.length) {t f : Int} (ht : 0 ≤ t ∧ t < (w.1.1.length : Int)) (hf : 0 ≤ f ∧ f ≤ 20000) : isNw (w.1, w.2.1, w.2.2.1, w.2.2.2.1.set i (moved (P w.2.2.2.1 i) t f), ()) = true := by
  have hg := (isNw_groups hn).1
  have h2 := groups_set hg hi ht hf
  unfold isNw at hn ⊢
  simp only [Bool.and_eq_true, List.length_set] at hn ⊢
  exact ⟨hn.1, hn.2.1, hn.2.2.1, hn.2.2.2.1, by unfold groupsB; simp [h2]⟩
theorem small_moved {w : GNetwork} (h : SmallW w) (i : Nat) (x : GParcel) : SmallW (w.1, w.2.1, w.2.2.1, w.2.2.2.1.set i x, ()) := ⟨h.n, h.f, by simpa using h.p⟩
theorem i_passed {w : GNetwork} (hw : SmallW w) (hn : isNw w = true) (a : GAct) (ha : a.1 = 2) : i_actOn w a = some (passed w a) := by
  obtain ⟨h1, h2, h3, h4, h5, h6⟩ := isNw_parts hn
  unfold i_actOn passed
  rw [cloneNw hw]
  simp only [Option.bind_some]
  rw [i_find hw.fine.p, dec_f (by omega : ¬ a.1 = 1), dec_t ha]
  simp only [Option.bind_some, cond_false, cond_true]
  cases hf : firstAt (actT a) w.2.2.2.1 0 with
  | none => rfl
  | some i =>
    have hi := firstAt_lt _ _ _ hf
    rw [Nat.zero_add] at hi
    have hT := (net_sz h1).1
    rw [show place (some i) = (i : Int) from rfl]
    simp only [dec_f (by omega : ¬ (i : Int) < 0), cond_false, cond_true, Option.bind_some, dec_t (by omega : (0 : Int) ≤ (i : Int)), dec_t (by omega : (i : Int) < (w.2.2.2.1.length : Int)), Bool.and_self, Int.toNat_natCast, get_P hi, i_pass hw.fine h1]
    cases hl : link w.1 (P w.2.2.2.1 i).2.2.2.1 a.2.2.2.1 with
    | none =>
      rw [can_link hl]
      rfl
    | some k =>
      obtain ⟨b1, b2, b3, b4⟩ := link_ends h1 hl
      cases hc : pass w (P w.2.2.2.1 i) a.2.2.2.1 with
      | none => rfl
      | some v =>
        rw [show passV (some v) = (v, true) from rfl]
        simp only [Bool.not_true, cond_false, Option.bind_some]
        rw [show canV w.2.2.1 (some v) = decide (v = w.2.2.1) from rfl]
        by_cases hv : v = w.2.2.1
        · obtain ⟨y, e1, e2⟩ := idx_link hl
          rw [dec_t hv]
          simp only [Bool.not_true, cond_false, cond_true, i_link hw.fine.n h1, hl, place, Option.bind_some, e1, e2]
          rw [w64_of (by omega) (by omega), List.getElem?_set_self hi]
          simp only [Option.bind_some, List.set_set]
          have hm := nw_moved hn hi (t := a.2.2.2.1) (f := w.2.2.1 + delay w.1 k) ⟨b1, b2⟩ (by omega)
          have hb := i_isNw (small_moved hw i (moved (P w.2.2.2.1 i) a.2.2.2.1 (w.2.2.1 + delay w.1 k))).fine
          rw [hm] at hb
          refine bind_eq hb ?_
          rfl
        · rw [dec_f hv]
          rfl
theorem passed_small {w : GNetwork} (hw : SmallW w) (a : GAct) : SmallW (passed w a).1 := by
  have hz : SmallW zeroW := ⟨⟨by simp [zeroW], by simp [zeroW]⟩, by simp [zeroW], by simp [zeroW]⟩
  unfold passed
  split
  · exact hz
  · split
    · exact hz
    · rename_i i _ _ k _
      cases canV w.2.2.1 (pass w (P w.2.2.2.1 i) a.2.2.2.1) with
      | true => exact small_moved hw _ _
      | false => exact hz
noncomputable def waited (w : GNetwork) (n : Int) : GNetwork × Bool :=
  bif inB n 1 1000 && decide (w.2.2.1 + n ≤ 10000) then ((w.1, w.2.1, w.2.2.1 + n, w.2.2.2), true) else (zeroW, false)
theorem s_waited {w : GNetwork} (hw : SmallW w) (hn : isNw w = true) (a : GAct) (ha : a.1 = 3) : s_nwAct w a = some (waited w a.2.2.2.2.1) := by
  obtain ⟨h1, h2, h3, h4, h5, h6⟩ := isNw_parts hn
  unfold s_nwAct waited
  rw [dec_f (by omega : ¬ a.1 = 1), dec_f (by omega : ¬ a.1 = 2), dec_t ha]
  simp only [cond_false, cond_true, l1In_eq, Option.bind_some]
  cases hb : inB a.2.2.2.2.1 1 1000 with
  | false => rfl
  | true =>
    have hb2 := hb
    simp only [inB, Bool.and_eq_true, decide_eq_true_eq] at hb2
    have ht : s_fgTime (w.2.2.1 + a.2.2.2.2.1) = some (decide (w.2.2.1 + a.2.2.2.2.1 ≤ 10000)) := by
      unfold s_fgTime
      simp only [l1In_eq, Option.bind_some]
      unfold inB
      rw [dec_t (by omega : 0 ≤ w.2.2.1 + a.2.2.2.2.1)]
      rfl
    rw [w64_of (by omega) (by omega), ht]
    simp only [cond_true, Option.bind_some, Bool.true_and, s_own hw]
    rw [w64_of (by omega) (by omega)]
    cases decide (w.2.2.1 + a.2.2.2.2.1 ≤ 10000) <;> rfl
theorem i_waited {w : GNetwork} (hw : SmallW w) (hn : isNw w = true) (a : GAct) (ha : a.1 = 3) : i_actOn w a = some (waited w a.2.2.2.2.1) := by
  obtain ⟨h1, h2, h3, h4, h5, h6⟩ := isNw_parts hn
  unfold i_actOn waited
  rw [cloneNw hw]
  simp only [Option.bind_some]
  rw [i_find hw.fine.p, dec_f (by omega : ¬ a.1 = 1), dec_f (by omega : ¬ a.1 = 2), dec_t ha]
  simp only [cond_false, cond_true, within_eq, Option.bind_some]
  cases hb : inB a.2.2.2.2.1 1 1000 with
  | false => rfl
  | true =>
    have hb2 := hb
    simp only [inB, Bool.and_eq_true, decide_eq_true_eq] at hb2
    rw [w64_of (by omega) (by omega)]
    simp only [Bool.not_true, cond_false, Option.bind_some, Bool.true_and]
    by_cases hc : w.2.2.1 + a.2.2.2.2.1 ≤ 10000
    · rw [dec_f (by omega : ¬ 10000 < w.2.2.1 + a.2.2.2.2.1), dec_t hc]
      simp only [cond_false, cond_true]
      have hm : isNw (w.1, w.2.1, w.2.2.1 + a.2.2.2.2.1, w.2.2.2) = true := by
        unfold isNw at hn ⊢
        simp only [Bool.and_eq_true, inB, decide_eq_true_eq] at hn ⊢
        exact ⟨hn.1, hn.2.1, ⟨by omega, hc⟩, hn.2.2.2⟩
      have hb := i_isNw (w := (w.1, w.2.1, w.2.2.1 + a.2.2.2.2.1, w.2.2.2)) ⟨hw.fine.n, hw.fine.f, hw.fine.p⟩
      rw [hm] at hb
      exact bind_eq hb rfl
    · rw [dec_t (by omega : 10000 < w.2.2.1 + a.2.2.2.2.1), dec_f hc]
      rfl
theorem waited_small {w : GNetwork} (hw : SmallW w) (n : Int) : SmallW (waited w n).1 := by
  have hz : SmallW zeroW := ⟨⟨by simp [zeroW], by simp [zeroW]⟩, by simp [zeroW], by simp [zeroW]⟩
  unfold waited
  cases inB n 1 1000 && decide (w.2.2.1 + n ≤ 10000) with
  | true => exact ⟨hw.n, hw.f, hw.p⟩
  | false => exact hz
theorem s_act_pass {w : GNetwork} (hw : SmallW w) (hn : isNw w = true) (a : GAct) (ha : a.1 = 2) : s_nwAct w a = some (passed w a) := by
  unfold s_nwAct
  rw [dec_f (by omega : ¬ a.1 = 1), dec_t ha, s_pass hw hn]
  rfl
theorem zero_small : SmallW zeroW := ⟨⟨by simp [zeroW], by simp [zeroW]⟩, by simp [zeroW], by simp [zeroW]⟩
end Go.Proofs.Ytlalabdgkkfjpaa.Sh
namespace Go.Proofs.Ytlalabdgkkfjpaa.Sh
open Go Go.Ab
set_option maxRecDepth 100000
def spot (m : Int) : List GParcel → Nat
  | [] => 0
  | x :: l => bif decide (x.1 < m) then spot m l + 1 else 0
theorem spot_le (m : Int) : ∀ l : List GParcel, spot m l ≤ l.length
  | [] => Nat.le_refl _
  | x :: l => by
    unfold spot
    cases decide (x.1 < m) with
    | true => simp only [cond_true, List.length_cons]; have := spot_le m l; omega
    | false => simp
theorem spot_lt (m : Int) : ∀ (l : List GParcel) (j : Nat) (x : GParcel), l[j]? = some x → j < spot m l → x.1 < m
  | [], j, x, h, _ => by simp at h
  | y :: l, j, x, h, hj => by
    unfold spot at hj
    cases hy : decide (y.1 < m) with
    | false => rw [hy] at hj; simp at hj
    | true =>
      rw [hy] at hj
      simp only [cond_true] at hj
      cases j with
      | zero => simp at h; subst h; exact of_decide_eq_true hy
      | succ j => exact spot_lt m l j x (by simpa using h) (by omega)
theorem spot_ge (m : Int) : ∀ (l : List GParcel) (x : GParcel), l[spot m l]? = some x → ¬ x.1 < m
  | [], x, h => by simp at h
  | y :: l, x, h => by
    unfold spot at h
    cases hy : decide (y.1 < m) with
    | false => rw [hy] at h; simp at h; subst h; exact of_decide_eq_false hy
    | true =>
      rw [hy] at h
      simp only [cond_true] at h
      exact spot_ge m l x (by simpa using h)
theorem sorted_P {T : Nat} {ps : List GParcel} (hc : ∀ j, j < ps.length → Cond T ps j) : ∀ (d i : Nat), i + d < ps.length → (P ps i).1 ≤ (P ps (i + d)).1
  | 0, i, _ => Int.le_refl _
  | d + 1, i, h => by
    have h1 := sorted_P hc d i (by omega)
    have h2 := (hc (i + (d + 1)) h).bf (by omega)
    rw [show i + (d + 1) - 1 = i + d by omega] at h2
    omega
def mkNew (m k a b t : Int) (d : Nat) : GParcel := (m, (d : Int), k, a, b, t, ())
def news (m k a b t : Int) (n : Nat) : List GParcel := (List.range n).map (mkNew m k a b t)
def placed (ps : List GParcel) (at_ : Nat) (N : List GParcel) : List GParcel := ps.take at_ ++ N ++ ps.drop at_
theorem P_eq {ps : List GParcel} {j : Nat} (h : j < ps.length) : P ps j = ps[j] := by unfold P; simp [h]
theorem P_out {ps : List GParcel} {j : Nat} (h : ps.length ≤ j) : (P ps j).1 = 0 := by unfold P; rw [List.getD_eq_getElem?_getD, List.getElem?_eq_none h]; rfl
theorem placed_get {ps N : List GParcel} {at_ : Nat} (h : at_ ≤ ps.length) (j : Nat) : P (placed ps at_ N) j = if j < at_ then P ps j else if j < at_ + N.length then P N (j - at_) else P ps (j - N.length) := by
  unfold P placed
  simp only [List.getD_eq_getElem?_getD]
  have hl : (ps.take at_).length = at_ := by rw [List.length_take]; omega
  split
  · rename_i h1
    rw [List.append_assoc, List.getElem?_append_left (by omega), List.getElem?_take_of_lt h1]
  · rename_i h1
    split
    · rename_i h2
      rw [List.append_assoc, List.getElem?_append_right (by omega), List.getElem?_append_left (by omega), hl]
    · rename_i h2
      rw [List.getElem?_append_right (by rw [List.length_append]; omega), List.length_append, hl, List.getElem?_drop]
      rw [show at_ + (j - (at_ + N.length)) = j - N.length by omega]
theorem placed_len {ps N : List GParcel} {at_ : Nat} (h : at_ ≤ ps.length) : (placed ps at_ N).length = ps.length + N.length := by
  unfold placed
  simp only [List.length_append, List.length_take, List.length_drop]
  omega
theorem news_len (m k a b t : Int) (n : Nat) : (news m k a b t n).length = n := by simp [news]
theorem news_P (m k a b t : Int) {n d : Nat} (h : d < n) : P (news m k a b t n) d = mkNew m k a b t d := by
  unfold P news
  rw [List.getD_eq_getElem?_getD, List.getElem?_map, List.getElem?_range h]
  rfl
theorem groups_placed {T : Nat} {ps : List GParcel} (hc : ∀ j, j < ps.length → Cond T ps j) {m a b t : Int} {n : Nat} (hn : 1 ≤ n ∧ n ≤ 9) (hm : 1 ≤ m ∧ m ≤ 999) (ha : 0 ≤ a ∧ a < (T : Int)) (hb : 0 ≤ b ∧ b < (T : Int)) (ht : 0 ≤ t ∧ t ≤ 20000)
    (hno : ∀ j, j < ps.length → (P ps j).1 ≠ m) : ∀ j, j < (placed ps (spot m ps) (news m (n : Int) a b t n)).length → Cond T (placed ps (spot m ps) (news m (n : Int) a b t n)) j := by
  have hs := spot_le m ps
  have lo : ∀ j, j < spot m ps → (P ps j).1 < m := fun j hj => by
    have h : j < ps.length := by omega
    rw [P_eq h]
    exact spot_lt m ps j _ (by simp [h]) hj
  have hi : ∀ j, spot m ps ≤ j → j < ps.length → m < (P ps j).1 := fun j hj hl => by
    have h0 : spot m ps < ps.length := by omega
    have h1 := spot_ge m ps (ps[spot m ps]) (by simp [h0])
    have h2 := sorted_P hc (j - spot m ps) (spot m ps) (by omega)
    rw [show spot m ps + (j - spot m ps) = j by omega, P_eq h0] at h2
    have := hno j hl
    omega
  generalize spot m ps = s at *
  have hlen : (placed ps s (news m (n : Int) a b t n)).length = ps.length + n := by rw [placed_len hs, news_len]
  have get : ∀ j, P (placed ps s (news m (n : Int) a b t n)) j = if j < s then P ps j else if j < s + n then mkNew m (n : Int) a b t (j - s) else P ps (j - n) := fun j => by
    rw [placed_get hs, news_len]
    split
    · rfl
    · split
      · rw [news_P m (n : Int) a b t (by omega)]
      · rfl
  intro j hj
  rw [hlen] at hj
  by_cases z1 : j < s
  · have c := hc j (by omega)
    have e : P (placed ps s (news m (n : Int) a b t n)) j = P ps j := by rw [get, if_pos z1]
    have al := c.al; have clo := c.lo; have chi := c.hi; have cq := c.q; have cbf := c.bf; have cnx := c.nx; have cen := c.en
    have hlo := lo j z1
    refine ⟨by rw [e]; exact al, by rw [e]; exact clo, by rw [e, hlen]; omega, ?_, ?_, ?_, ?_⟩
    · rw [e, get, if_pos (by omega)]; exact cq
    · rw [e]
      intro h0
      rw [get, if_pos (by omega)]
      exact cbf h0
    · rw [e]
      intro h1
      have h2 := cnx h1
      rw [get]
      by_cases h3 : j + 1 < s
      · rw [if_pos h3]; exact h2
      · exfalso
        have h4 : j + 1 = s := by omega
        by_cases h5 : j + 1 < ps.length
        · have := hi (j + 1) (by omega) h5; omega
        · have := P_out (ps := ps) (j := j + 1) (by omega); have := al.m; omega
    · rw [e]
      intro h1 _
      rw [get]
      by_cases h3 : j + 1 < s
      · rw [if_pos h3]; exact cen h1 (by omega)
      · rw [if_neg h3, if_pos (by omega)]; exact hlo
  · by_cases z2 : j < s + n
    · have e : P (placed ps s (news m (n : Int) a b t n)) j = mkNew m (n : Int) a b t (j - s) := by rw [get, if_neg z1, if_pos z2]
      have ep : (mkNew m (n : Int) a b t (j - s)).2.1 = ((j - s : Nat) : Int) := rfl
      have ek : (mkNew m (n : Int) a b t (j - s)).2.2.1 = (n : Int) := rfl
      have em : (mkNew m (n : Int) a b t (j - s)).1 = m := rfl
      refine ⟨by rw [e]; exact ⟨hm, ⟨by rw [ek]; omega, by rw [ek]; omega⟩, ⟨by rw [ep]; omega, by rw [ep, ek]; omega⟩, ha, hb, ht⟩, by rw [e, ep]; omega, by rw [e, ep, ek, hlen]; omega, ?_, ?_, ?_, ?_⟩
      · rw [e, ep]
        have h0 : j - ((j - s : Nat) : Int).toNat = s := by rw [Int.toNat_natCast]; omega
        rw [h0, get, if_neg (by omega), if_pos (by omega)]
        exact ⟨rfl, by show ((s - s : Nat) : Int) = 0; omega, rfl, rfl⟩
      · rw [e]
        intro h0
        rw [get]
        by_cases h1 : j = s
        · rw [if_pos (by omega)]; exact .inl (lo (j - 1) (by omega))
        · rw [if_neg (by omega), if_pos (by omega)]
          exact .inr ⟨rfl, by rw [ep]; omega⟩
      · rw [e, ep, ek, em]
        intro h1
        rw [get, if_neg (by omega), if_pos (by omega)]
        rfl
      · rw [e, ep, ek, em]
        intro h1 h2
        rw [hlen] at h2
        rw [get, if_neg (by omega), if_neg (by omega)]
        exact hi _ (by omega) (by omega)
    · have c := hc (j - n) (by omega)
      have e : P (placed ps s (news m (n : Int) a b t n)) j = P ps (j - n) := by rw [get, if_neg z1, if_neg z2]
      have al := c.al; have clo := c.lo; have chi := c.hi; have cq := c.q; have cbf := c.bf; have cnx := c.nx; have cen := c.en
      have hhi := hi (j - n) (by omega) (by omega)
      have p0 := al.p
      have hst : s ≤ j - n - (P ps (j - n)).2.1.toNat := by
        by_cases h : s ≤ j - n - (P ps (j - n)).2.1.toNat
        · exact h
        · exfalso
          have := lo (j - n - (P ps (j - n)).2.1.toNat) (by omega)
          omega
      refine ⟨by rw [e]; exact al, by rw [e]; omega, by rw [e, hlen]; omega, ?_, ?_, ?_, ?_⟩
      · rw [e, get, if_neg (by omega), if_neg (by omega)]
        rw [show j - (P ps (j - n)).2.1.toNat - n = j - n - (P ps (j - n)).2.1.toNat by omega]
        exact cq
      · rw [e]
        intro h0
        rw [get, if_neg (by omega)]
        by_cases h1 : j - 1 < s + n
        · rw [if_pos h1]; exact .inl hhi
        · rw [if_neg h1, show j - 1 - n = j - n - 1 by omega]
          exact cbf (by omega)
      · rw [e]
        intro h1
        rw [get, if_neg (by omega), if_neg (by omega), show j + 1 - n = j - n + 1 by omega]
        exact cnx h1
      · rw [e]
        intro h1 h2
        rw [hlen] at h2
        rw [get, if_neg (by omega), if_neg (by omega), show j + 1 - n = j - n + 1 by omega]
        exact cen h1 (by omega)
end Go.Proofs.Ytlalabdgkkfjpaa.Sh
namespace Go.Proofs.Ytlalabdgkkfjpaa.Sh
open Go Go.Ab
set_option maxRecDepth 100000
def keepIf (t : GParcel → Bool) (o : List GParcel) (x : GParcel) : List GParcel := bif t x then o ++ [x] else o
theorem keep_all {t : GParcel → Bool} : ∀ (l o : List GParcel), (∀ x ∈ l, t x = true) → l.foldl (keepIf t) o = o ++ l
  | [], o, _ => by simp
  | x :: l, o, h => by
    simp only [List.foldl_cons]
    rw [keepIf, h x (by simp), cond_true, keep_all l _ (fun y hy => h y (List.mem_cons_of_mem _ hy))]
    simp
theorem keep_none {t : GParcel → Bool} : ∀ (l o : List GParcel), (∀ x ∈ l, t x = false) → l.foldl (keepIf t) o = o
  | [], o, _ => rfl
  | x :: l, o, h => by
    simp only [List.foldl_cons]
    rw [keepIf, h x (by simp), cond_false, keep_none l _ (fun y hy => h y (List.mem_cons_of_mem _ hy))]
theorem keep_len (t : GParcel → Bool) (o : List GParcel) (x : GParcel) {n : Nat} (h : o.length ≤ n) : (keepIf t o x).length ≤ n + 1 := by
  unfold keepIf
  cases t x with
  | true => simp; omega
  | false => simp; omega
structure Apart (m : Int) (ps : List GParcel) : Prop where
  lo : ∀ x ∈ ps.take (spot m ps), x.1 < m
  hi : ∀ x ∈ ps.drop (spot m ps), m < x.1
theorem apart_of {T : Nat} {ps : List GParcel} (hc : ∀ j, j < ps.length → Cond T ps j) {m : Int} (hno : ∀ j, j < ps.length → (P ps j).1 ≠ m) : Apart m ps := by
  have hs := spot_le m ps
  refine ⟨fun x hx => ?_, fun x hx => ?_⟩
  · obtain ⟨j, hj, rfl⟩ := List.getElem_of_mem hx
    rw [List.length_take] at hj
    rw [List.getElem_take]
    exact spot_lt m ps j _ (by simp [show j < ps.length by omega]) (by omega)
  · obtain ⟨j, hj, rfl⟩ := List.getElem_of_mem hx
    rw [List.length_drop] at hj
    rw [List.getElem_drop]
    have h0 : spot m ps < ps.length := by omega
    have h1 := spot_ge m ps (ps[spot m ps]) (by simp [h0])
    have h2 := sorted_P hc j (spot m ps) (by omega)
    have h3 := hno (spot m ps + j) (by omega)
    rw [P_eq h0, P_eq (by omega)] at h2
    rw [P_eq (by omega)] at h3
    omega
theorem keep_lo {m : Int} {ps : List GParcel} (h : Apart m ps) : ps.foldl (keepIf fun x => decide (x.1 < m)) [] = ps.take (spot m ps) := by
  conv => lhs; rw [← List.take_append_drop (spot m ps) ps]
  rw [List.foldl_append, keep_all _ _ (fun x hx => decide_eq_true (h.lo x hx)), keep_none _ _ (fun x hx => decide_eq_false (by have := h.hi x hx; omega))]
  simp
theorem keep_hi {m : Int} {ps : List GParcel} (h : Apart m ps) (o : List GParcel) : ps.foldl (keepIf fun x => decide (m < x.1)) o = o ++ ps.drop (spot m ps) := by
  conv => lhs; rw [← List.take_append_drop (spot m ps) ps]
  rw [List.foldl_append, keep_none (ps.take (spot m ps)) o (fun x hx => decide_eq_false (by have := h.lo x hx; omega)), keep_all (ps.drop (spot m ps)) o (fun x hx => decide_eq_true (h.hi x hx))]
theorem news_succ (m k a b t : Int) (n : Nat) : news m k a b t (n + 1) = news m k a b t n ++ [mkNew m k a b t n] := by
  unfold news
  rw [List.range_succ, List.map_append]
  rfl
theorem push_news (m k a b t : Int) : ∀ (n : Nat) (o : List GParcel), (List.range n).foldl (fun o d => o ++ [mkNew m k a b t d]) o = o ++ news m k a b t n
  | 0, o => by simp [news]
  | n + 1, o => by
    rw [List.range_succ, List.foldl_append, push_news m k a b t n o, news_succ]
    simp
theorem ins_placed {ps : List GParcel} {s : Nat} (hs : s ≤ ps.length) (m k a b t : Int) (n : Nat) : insV (placed ps s (news m k a b t n)) ((s : Int) + (n : Int)) (mkNew m k a b t n) = placed ps s (news m k a b t (n + 1)) := by
  unfold insV placed
  have e : ((s : Int) + (n : Int)).toNat = (ps.take s ++ news m k a b t n).length := by rw [List.length_append, List.length_take, news_len]; omega
  rw [e, List.take_left, List.drop_left, news_succ]
  simp
theorem ins_fold {ps : List GParcel} {s : Nat} (hs : s ≤ ps.length) (m k a b t : Int) : ∀ n : Nat, (List.range n).foldl (fun (l : List GParcel) (d : Nat) => insV l ((s : Int) + (d : Int)) (mkNew m k a b t d)) ps = placed ps s (news m k a b t n)
  | 0 => by simp [placed, news]
  | n + 1 => by
    rw [List.range_succ, List.foldl_append, ins_fold hs m k a b t n]
    exact ins_placed hs m k a b t n
theorem one_loop' {τ ρ : Type} {n : Nat} {f : τ → Option (τ ⊕ ρ)} {a : τ} {y : ρ} (R : Nat → τ → Prop) (h0 : R 0 a) (step : ∀ i a, i < n → R i a → ∃ a', f a = some (.inl a') ∧ R (i + 1) a') (fin : ∀ a, R n a → f a = some (.inr y)) : loopE f a = some y := by
  obtain ⟨z, h1, h2⟩ := one_loop (n := n) (f := f) R (fun z => z = y) (fun i a hi h => .inl (step i a hi h)) (fun a h => ⟨y, fin a h, rfl⟩) n 0 a (by omega) h0
  rw [h1, h2]
def okAcc (w : GNetwork) (m a b k : Int) : Bool := inB m 1 999 && (inB a 0 ((w.1.1.length : Int) - 1) && (inB b 0 ((w.1.1.length : Int) - 1) && (inB k 1 9 && (!(w.2.2.2.1.any fun x => decide (x.1 = m)) && !decide (40 < (w.2.2.2.1.length : Int) + k)))))
def accW (w : GNetwork) (m a b k : Int) : GNetwork := (w.1, w.2.1, w.2.2.1, placed w.2.2.2.1 (spot m w.2.2.2.1) (news m k a b w.2.2.1 k.toNat), ())
def accepted (w : GNetwork) (m a b k : Int) : GNetwork × Bool := bif okAcc w m a b k then (accW w m a b k, true) else (zeroW, false)
theorem none_of {ps : List GParcel} {m : Int} (h : (ps.any fun x => decide (x.1 = m)) = false) : ∀ j, j < ps.length → (P ps j).1 ≠ m := fun j hj e => by
  rw [List.any_eq_false] at h
  have := h (ps[j]) (List.getElem_mem hj)
  rw [P_eq hj] at e
  simp [e] at this
theorem s_acc {w : GNetwork} (hw : SmallW w) (hn : isNw w = true) (m a b k : Int) : s_nwAccept w m a b k = some (accepted w m a b k) := by
  obtain ⟨h1, h2, h3, h4, h5, h6⟩ := isNw_parts hn
  have hc := cond_iff.2 h6
  have hT := (net_sz h1).1
  unfold s_nwAccept accepted okAcc
  rw [w64_of (x := (w.1.1.length : Int) - 1) (by omega) (by omega)]
  simp only [l1In_eq, Option.bind_some]
  cases hm : inB m 1 999 with
  | false => rfl
  | true =>
  cases ha : inB a 0 ((w.1.1.length : Int) - 1) with
  | false => rfl
  | true =>
  cases hb : inB b 0 ((w.1.1.length : Int) - 1) with
  | false => rfl
  | true =>
  cases hk : inB k 1 9 with
  | false => rfl
  | true =>
  have hk2 := hk
  simp only [inB, Bool.and_eq_true, decide_eq_true_eq] at hk2
  rw [w64_of (x := (w.2.2.2.1.length : Int) + k) (by omega) (by omega)]
  simp only [Bool.not_true, cond_false, Option.bind_some]
  have hfind : (s_nwFind w m 0).bind (fun r8 => some (decide (0 ≤ r8))) = some (w.2.2.2.1.any fun x => decide (x.1 = m)) := by
    rw [s_find w hw.fine, ← any_of_cond hc m, ← find_or (fun x : GParcel => decide (x.1 = m) && decide (x.2.1 = 0)) w.2.2.2.1 0]
    cases firstAt (fun x : GParcel => decide (x.1 = m) && decide (x.2.1 = 0)) w.2.2.2.1 0 with
    | none => rfl
    | some i => simp only [Option.bind_some, Option.isSome_some]; rw [dec_t (by omega : (0 : Int) ≤ (i : Int))]
  rw [hfind]
  simp only [Option.bind_some]
  cases hany : (w.2.2.2.1.any fun x => decide (x.1 = m)) with
  | true => rfl
  | false =>
  simp only [cond_false, Option.bind_some]
  by_cases h40 : 40 < (w.2.2.2.1.length : Int) + k
  · rw [dec_t h40]; rfl
  rw [dec_f h40]
  simp only [cond_false, s_own hw, Option.bind_some]
  have hap := apart_of hc (none_of hany)
  obtain ⟨n, rfl⟩ : ∃ n : Nat, k = (n : Int) := ⟨k.toNat, by omega⟩
  refine bind_eq (fold_loop (l := w.2.2.2.1) (fun (o : List GParcel) (i : Int) => (([] : List GLink), ([] : List GLink), ([] : List GLink), (0 : Int), ([] : List GParcel), w.1.1, w.1.2.1, w.2.1, w.2.2.1, o, i)) (keepIf fun x => decide (x.1 < m)) (fun o => (([] : List GLink), ([] : List GLink), ([] : List GLink), (0 : Int), ([] : List GParcel), w.1.1, w.1.2.1, w.2.1, w.2.2.1, o)) (fun i s => s.length ≤ i) [] (by simp) ?_ ?_).1 ?_
  · intro s i x hx hi hI
    refine ⟨?_, keep_len _ _ _ hI⟩
    simp only [idx_get, hx, Option.bind_some, at_lt hi, cond_true, lim_ok (n := s.length + [x].length) (by simp; omega), w64_of (x := (i : Int) + 1) (by omega) (by omega), keepIf]
    cases decide (x.1 < m) <;> rfl
  · intro s hI
    simp only [dec_f (by omega : ¬ (w.2.2.2.1.length : Int) < (w.2.2.2.1.length : Int)), cond_false]
  rw [keep_lo hap]
  have htl : (w.2.2.2.1.take (spot m w.2.2.2.1)).length ≤ 40 := by rw [List.length_take]; omega
  refine bind_eq (fold_at (n := n) (fun (o : List GParcel) (i : Int) => (([] : List GLink), ([] : List GLink), ([] : List GLink), (0 : Int), ([] : List GParcel), w.1.1, w.1.2.1, w.2.1, w.2.2.1, o, i)) (fun o d => o ++ [mkNew m (n : Int) a b w.2.2.1 d]) (fun o => (([] : List GLink), ([] : List GLink), ([] : List GLink), (0 : Int), ([] : List GParcel), w.1.1, w.1.2.1, w.2.1, w.2.2.1, o)) (fun i s => s.length ≤ 40 + i) (w.2.2.2.1.take (spot m w.2.2.2.1)) (by simpa using htl) ?_ ?_).1 ?_
  · intro s i hi hI
    refine ⟨?_, by simp only [List.length_append, List.length_singleton]; omega⟩
    simp only [dec_t (by omega : (i : Int) < (n : Int)), cond_true, lim_ok (n := s.length + [(m, (i : Int), (n : Int), a, b, w.2.2.1, ())].length) (by simp; omega), w64_of (x := (i : Int) + 1) (by omega) (by omega)]
    rfl
  · intro s hI
    simp only [dec_f (by omega : ¬ (n : Int) < (n : Int)), cond_false]
  rw [push_news]
  refine bind_eq (fold_loop (l := w.2.2.2.1) (fun (o : List GParcel) (i : Int) => (([] : List GLink), ([] : List GLink), ([] : List GLink), (0 : Int), ([] : List GParcel), w.1.1, w.1.2.1, w.2.1, w.2.2.1, o, i)) (keepIf fun x => decide (m < x.1)) (fun o => (([] : List GLink), ([] : List GLink), ([] : List GLink), (0 : Int), ([] : List GParcel), w.1.1, w.1.2.1, w.2.1, w.2.2.1, o)) (fun i s => s.length ≤ 49 + i) (w.2.2.2.1.take (spot m w.2.2.2.1) ++ news m (n : Int) a b w.2.2.1 n) (by simp only [List.length_append, news_len]; omega) ?_ ?_).1 ?_
  · intro s i x hx hi hI
    refine ⟨?_, by have := keep_len (fun x => decide (m < x.1)) s x hI; omega⟩
    simp only [idx_get, hx, Option.bind_some, at_lt hi, cond_true, lim_ok (n := s.length + [x].length) (by simp; omega), w64_of (x := (i : Int) + 1) (by omega) (by omega), keepIf]
    cases decide (m < x.1) <;> rfl
  · intro s hI
    simp only [dec_f (by omega : ¬ (w.2.2.2.1.length : Int) < (w.2.2.2.1.length : Int)), cond_false]
  rw [keep_hi hap]
  rfl
theorem i_any {ps : List GParcel} (hl : ps.length ≤ maxLen) (a : GAct) : slices_ContainsFunc_Parcel_141 ps (a, ()) = some (ps.any fun x => decide (x.1 = a.2.1)) := by
  unfold slices_ContainsFunc_Parcel_141 slices_IndexFunc_Parcel_141
  rw [find_loop (l := ps) (fun x => decide (x.1 = a.2.1)) ?_ ?_]
  · rw [← find_or (fun x : GParcel => decide (x.1 = a.2.1)) ps 0]
    cases firstAt (fun x : GParcel => decide (x.1 = a.2.1)) ps 0 with
    | none => rfl
    | some i => simp only [Option.bind_some, Option.isSome_some]; rw [dec_t (by omega : (0 : Int) ≤ (i : Int))]
  · intro i x hx hi
    simp only [idx_get, hx, Option.bind_some, at_lt hi, up hl hi, cond_true, i_actOn_2]
    cases decide (x.1 = a.2.1) <;> rfl
  · simp
theorem nw_acc {w : GNetwork} (hn : isNw w = true) {m a b k : Int} (hk : 1 ≤ k ∧ k ≤ 9) (hno : (w.2.2.2.1.any fun x => decide (x.1 = m)) = false) : isNw (accW w m a b k) = (inB m 1 999 && (inB a 0 ((w.1.1.length : Int) - 1) && (inB b 0 ((w.1.1.length : Int) - 1) && !decide (40 < (w.2.2.2.1.length : Int) + k)))) := by
  obtain ⟨h1, h2, h3, h4, h5, h6⟩ := isNw_parts hn
  have hc := cond_iff.2 h6
  have hs := spot_le m w.2.2.2.1
  obtain ⟨n, rfl⟩ : ∃ n : Nat, k = (n : Int) := ⟨k.toNat, by omega⟩
  have hlen : (accW w m a b (n : Int)).2.2.2.1.length = w.2.2.2.1.length + n := by
    show (placed _ _ (news m (n : Int) a b w.2.2.1 ((n : Int).toNat))).length = _
    rw [placed_len hs, news_len]
    rfl
  rw [Bool.eq_iff_iff]
  simp only [Bool.and_eq_true, Bool.not_eq_true', decide_eq_false_iff_not, inB, decide_eq_true_eq]
  constructor
  · intro h
    obtain ⟨g1, g2, g3, g4, g5, g6⟩ := isNw_parts h
    have hc2 := cond_iff.2 g6
    have c := (hc2 (spot m w.2.2.2.1) (by rw [hlen]; omega)).al
    have e : P (accW w m a b (n : Int)).2.2.2.1 (spot m w.2.2.2.1) = mkNew m (n : Int) a b w.2.2.1 0 := by
      show P (placed _ _ (news m (n : Int) a b w.2.2.1 ((n : Int).toNat))) _ = _
      rw [placed_get hs, if_neg (by omega), if_pos (by rw [news_len]; simp only [Int.toNat_natCast]; omega), Nat.sub_self, news_P _ _ _ _ _ (by simp only [Int.toNat_natCast]; omega)]
    rw [e] at c
    have cm := c.m; have ca := c.a; have ct := c.t
    have em : (mkNew m (n : Int) a b w.2.2.1 0).1 = m := rfl
    have ea : (mkNew m (n : Int) a b w.2.2.1 0).2.2.2.1 = a := rfl
    have eb : (mkNew m (n : Int) a b w.2.2.1 0).2.2.2.2.1 = b := rfl
    have eT : (accW w m a b (n : Int)).1.1.length = w.1.1.length := rfl
    rw [em] at cm; rw [ea, eT] at ca; rw [eb, eT] at ct
    rw [hlen] at g5
    omega
  · rintro ⟨hm, ha, hb, h40⟩
    have hg := groups_placed hc (m := m) (a := a) (b := b) (t := w.2.2.1) (n := n) (by omega) hm (by omega) (by omega) (by omega) (none_of hno)
    have hg2 := cond_iff.1 hg
    unfold isNw at hn ⊢
    simp only [Bool.and_eq_true, decide_eq_true_eq] at hn ⊢
    refine ⟨hn.1, hn.2.1, hn.2.2.1, by rw [hlen]; omega, ?_⟩
    unfold groupsB
    have : Groups (accW w m a b (n : Int)).1.1.length (accW w m a b (n : Int)).2.2.2.1 0 0 := hg2
    simp [this]
theorem small_acc {w : GNetwork} (hw : SmallW w) (h5 : w.2.2.2.1.length ≤ 40) {m a b k : Int} (hk : 1 ≤ k ∧ k ≤ 9) : SmallW (accW w m a b k) := by
  refine ⟨hw.n, hw.f, ?_⟩
  show (placed _ _ (news m k a b w.2.2.1 k.toNat)).length ≤ _
  rw [placed_len (spot_le m _), news_len]
  omega
theorem i_acc {w : GNetwork} (hw : SmallW w) (hn : isNw w = true) (x : GAct) (hx : x.1 = 1) : i_actOn w x = some (accepted w x.2.1 x.2.2.1 x.2.2.2.1 x.2.2.2.2.1) := by
  obtain ⟨h1, h2, h3, h4, h5, h6⟩ := isNw_parts hn
  have hc := cond_iff.2 h6
  obtain ⟨x0, m, a, b, k, u⟩ := x
  simp only at hx
  subst hx
  unfold i_actOn accepted okAcc
  rw [cloneNw hw]
  simp only [Option.bind_some]
  rw [i_find hw.fine.p, i_any hw.fine.p]
  simp only [eq_self, decide_true, cond_true, Option.bind_some, within_eq]
  cases hany : (w.2.2.2.1.any fun x => decide (x.1 = m)) with
  | true =>
    cases inB m 1 999 <;> cases inB a 0 ((w.1.1.length : Int) - 1) <;> cases inB b 0 ((w.1.1.length : Int) - 1) <;> cases inB k 1 9 <;> rfl
  | false =>
  cases hk : inB k 1 9 with
  | false =>
    cases inB m 1 999 <;> cases inB a 0 ((w.1.1.length : Int) - 1) <;> cases inB b 0 ((w.1.1.length : Int) - 1) <;> rfl
  | true =>
  have hk2 := hk
  simp only [inB, Bool.and_eq_true, decide_eq_true_eq] at hk2
  have hacc := nw_acc hn (m := m) (a := a) (b := b) (k := k) hk2 hany
  have hsm := small_acc hw h5 (m := m) (a := a) (b := b) hk2
  have hs := spot_le m w.2.2.2.1
  simp only [cond_false, Option.bind_some, Bool.not_true, Bool.not_false, Bool.true_and]
  obtain ⟨n, rfl⟩ : ∃ n : Nat, k = (n : Int) := ⟨k.toNat, by omega⟩
  refine bind_eq (one_loop' (n := spot m w.2.2.2.1) (y := (([] : List GLink), ([] : List GLink), ([] : List GLink), (0 : Int), ([] : List GParcel), w.1.1, w.1.2.1, w.2.1, w.2.2.1, w.2.2.2.1, ((spot m w.2.2.2.1 : Nat) : Int))) (fun (i : Nat) st => st = (([] : List GLink), ([] : List GLink), ([] : List GLink), (0 : Int), ([] : List GParcel), w.1.1, w.1.2.1, w.2.1, w.2.2.1, w.2.2.2.1, (i : Int))) rfl ?_ ?_) ?_
  · intro i st hi hst
    subst hst
    have hil : i < w.2.2.2.1.length := by omega
    have hlt := spot_lt m w.2.2.2.1 i _ (get_P hil) hi
    refine ⟨_, ?_, rfl⟩
    simp only [at_lt hil, dec_t (by omega : (0 : Int) ≤ (i : Int)), cond_true, Bool.and_self, Int.toNat_natCast, get_P hil, Option.bind_some, dec_t hlt, w64_of (x := (i : Int) + 1) (by omega) (by omega)]
    rfl
  · intro st hst
    subst hst
    by_cases hl : spot m w.2.2.2.1 < w.2.2.2.1.length
    · have hge := spot_ge m w.2.2.2.1 _ (get_P hl)
      simp only [at_lt hl, dec_t (by omega : (0 : Int) ≤ ((spot m w.2.2.2.1 : Nat) : Int)), cond_true, Bool.and_self, Int.toNat_natCast, get_P hl, Option.bind_some, dec_f hge, cond_false]
    · simp only [dec_f (by omega : ¬ ((spot m w.2.2.2.1 : Nat) : Int) < (w.2.2.2.1.length : Int)), cond_false, Option.bind_some]
  refine bind_eq (fold_at (n := n) (fun (o : List GParcel) (i : Int) => (([] : List GLink), ([] : List GLink), ([] : List GLink), (0 : Int), ([] : List GParcel), w.1.1, w.1.2.1, w.2.1, w.2.2.1, o, i)) (fun o d => insV o ((spot m w.2.2.2.1 : Int) + (d : Int)) (mkNew m (n : Int) a b w.2.2.1 d)) (fun o => (([] : List GLink), ([] : List GLink), ([] : List GLink), (0 : Int), ([] : List GParcel), w.1.1, w.1.2.1, w.2.1, w.2.2.1, o)) (fun i s => s.length = w.2.2.2.1.length + i) w.2.2.2.1 (by simp) ?_ ?_).1 ?_
  · intro s i hi hI
    have e1 : w64 (((spot m w.2.2.2.1 : Nat) : Int) + (i : Int)) = ((spot m w.2.2.2.1 : Nat) : Int) + (i : Int) := w64_of (by omega) (by omega)
    refine ⟨?_, ?_⟩
    · simp only [dec_t (by omega : (i : Int) < (n : Int)), cond_true, e1, dec_t (by omega : 0 ≤ ((spot m w.2.2.2.1 : Nat) : Int) + (i : Int)), dec_t (by omega : ((spot m w.2.2.2.1 : Nat) : Int) + (i : Int) ≤ (s.length : Int)), dec_t (by omega : s.length ≤ 999999), Bool.and_self, w64_of (x := (i : Int) + 1) (by omega) (by omega)]
      rfl
    · unfold insV
      simp only [List.length_append, List.length_cons, List.length_take, List.length_drop]
      omega
  · intro s hI
    simp only [dec_f (by omega : ¬ (n : Int) < (n : Int)), cond_false]
  rw [ins_fold hs]
  have hb := i_isNw hsm.fine
  rw [hacc] at hb
  refine bind_eq (x := (inB m 1 999 && (inB a 0 ((w.1.1.length : Int) - 1) && (inB b 0 ((w.1.1.length : Int) - 1) && !decide (40 < (w.2.2.2.1.length : Int) + (n : Int)))))) hb ?_
  cases inB m 1 999 <;> cases inB a 0 ((w.1.1.length : Int) - 1) <;> cases inB b 0 ((w.1.1.length : Int) - 1) <;> cases decide (40 < (w.2.2.2.1.length : Int) + (n : Int)) <;> rfl
theorem acc_small {w : GNetwork} (hw : SmallW w) (hn : isNw w = true) (m a b k : Int) : SmallW (accepted w m a b k).1 := by
  obtain ⟨h1, h2, h3, h4, h5, h6⟩ := isNw_parts hn
  unfold accepted
  cases h : okAcc w m a b k with
  | false => exact zero_small
  | true =>
    unfold okAcc at h
    simp only [Bool.and_eq_true, inB, decide_eq_true_eq] at h
    exact small_acc hw h5 h.2.2.2.1
theorem s_act_acc {w : GNetwork} (hw : SmallW w) (hn : isNw w = true) (x : GAct) (hx : x.1 = 1) : s_nwAct w x = some (accepted w x.2.1 x.2.2.1 x.2.2.2.1 x.2.2.2.2.1) := by
  unfold s_nwAct
  rw [dec_t hx, s_acc hw hn]
  rfl
end Go.Proofs.Ytlalabdgkkfjpaa.Sh
namespace Go.Proofs.Ytlalabdgkkfjpaa.Sh
open Go Go.Ab
set_option maxRecDepth 100000
noncomputable def acted (w : GNetwork) (x : GAct) : GNetwork × Bool :=
  bif decide (x.1 = 1) then accepted w x.2.1 x.2.2.1 x.2.2.2.1 x.2.2.2.2.1 else bif decide (x.1 = 2) then passed w x else bif decide (x.1 = 3) then waited w x.2.2.2.2.1 else (zeroW, false)
theorem s_acted {w : GNetwork} (hw : SmallW w) (hn : isNw w = true) (x : GAct) : s_nwAct w x = some (acted w x) := by
  unfold acted
  by_cases h1 : x.1 = 1
  · rw [dec_t h1, s_act_acc hw hn x h1]; rfl
  by_cases h2 : x.1 = 2
  · rw [dec_f h1, dec_t h2, s_act_pass hw hn x h2]; rfl
  by_cases h3 : x.1 = 3
  · rw [dec_f h1, dec_f h2, dec_t h3, s_waited hw hn x h3]; rfl
  · unfold s_nwAct
    rw [dec_f h1, dec_f h2, dec_f h3]
    rfl
theorem i_acted {w : GNetwork} (hw : SmallW w) (hn : isNw w = true) (x : GAct) : i_actOn w x = some (acted w x) := by
  unfold acted
  by_cases h1 : x.1 = 1
  · rw [dec_t h1, i_acc hw hn x h1]; rfl
  by_cases h2 : x.1 = 2
  · rw [dec_f h1, dec_t h2, i_passed hw hn x h2]; rfl
  by_cases h3 : x.1 = 3
  · rw [dec_f h1, dec_f h2, dec_t h3, i_waited hw hn x h3]; rfl
  · unfold i_actOn
    rw [cloneNw hw]
    simp only [Option.bind_some]
    rw [i_find hw.fine.p, dec_f h1, dec_f h2, dec_f h3]
    rfl
theorem acted_ok {w : GNetwork} (hw : SmallW w) (hn : isNw w = true) (x : GAct) (h : (acted w x).2 = true) : isNw (acted w x).1 = true ∧ SmallW (acted w x).1 := by
  obtain ⟨q1, q2, q3, q4, q5, q6⟩ := isNw_parts hn
  unfold acted at h ⊢
  by_cases h1 : x.1 = 1
  · rw [dec_t h1] at h ⊢
    simp only [cond_true] at h ⊢
    refine ⟨?_, acc_small hw hn _ _ _ _⟩
    unfold accepted at h ⊢
    cases ho : okAcc w x.2.1 x.2.2.1 x.2.2.2.1 x.2.2.2.2.1 with
    | false => rw [ho] at h; cases h
    | true =>
      simp only [cond_true]
      unfold okAcc at ho
      simp only [Bool.and_eq_true, Bool.not_eq_true'] at ho
      have hk := ho.2.2.2.1
      simp only [inB, Bool.and_eq_true, decide_eq_true_eq] at hk
      rw [nw_acc hn hk ho.2.2.2.2.1]
      simp only [Bool.and_eq_true, Bool.not_eq_true']
      exact ⟨ho.1, ho.2.1, ho.2.2.1, ho.2.2.2.2.2⟩
  rw [dec_f h1] at h ⊢
  by_cases h2 : x.1 = 2
  · rw [dec_t h2] at h ⊢
    simp only [cond_true, cond_false] at h ⊢
    refine ⟨?_, passed_small hw x⟩
    unfold passed at h ⊢
    split at h
    · cases h
    · rename_i i hf
      have hi := firstAt_lt _ _ _ hf
      rw [Nat.zero_add] at hi
      split at h
      · cases h
      · rename_i k hl
        obtain ⟨b1, b2, b3, b4⟩ := link_ends q1 hl
        cases hcan : canV w.2.2.1 (pass w (P w.2.2.2.1 i) x.2.2.2.1) with
        | false => rw [hcan] at h; cases h
        | true =>
          simp only [cond_true]
          exact nw_moved hn hi ⟨b1, b2⟩ (by omega)
  rw [dec_f h2] at h ⊢
  by_cases h3 : x.1 = 3
  · rw [dec_t h3] at h ⊢
    simp only [cond_true, cond_false] at h ⊢
    refine ⟨?_, waited_small hw _⟩
    unfold waited at h ⊢
    cases hb : (inB x.2.2.2.2.1 1 1000 && decide (w.2.2.1 + x.2.2.2.2.1 ≤ 10000)) with
    | false => rw [hb] at h; cases h
    | true =>
      simp only [cond_true]
      simp only [Bool.and_eq_true, inB, decide_eq_true_eq] at hb
      unfold isNw at hn ⊢
      simp only [Bool.and_eq_true, inB, decide_eq_true_eq] at hn ⊢
      exact ⟨hn.1, hn.2.1, ⟨by omega, hb.2⟩, hn.2.2.2⟩
  · rw [dec_f h3] at h; cases h
noncomputable def runs : GNetwork → List GAct → Int → GNetwork × Int
  | w, [], n => (w, n)
  | w, x :: l, n => bif (acted w x).2 then runs (acted w x).1 l (n + 1) else (w, n)
theorem runs_small : ∀ (l : List GAct) (w : GNetwork) (n : Int), SmallW w → isNw w = true → SmallW (runs w l n).1
  | [], w, n, hw, _ => hw
  | x :: l, w, n, hw, hn => by
    unfold runs
    cases h : (acted w x).2 with
    | false => exact hw
    | true =>
      obtain ⟨h1, h2⟩ := acted_ok hw hn x h
      exact runs_small l _ _ h2 h1
theorem acts_loop {τ ρ : Type} {l : List GAct} (hl : l.length ≤ 100) {f : τ → Option (τ ⊕ ρ)} (J : GNetwork → Nat → τ → Prop) (V : GNetwork → Int → ρ → Prop)
    (hgo : ∀ w (i : Nat) x st, l[i]? = some x → i < l.length → SmallW w → isNw w = true → J w i st → (acted w x).2 = true → ∃ st', f st = some (.inl st') ∧ J (acted w x).1 (i + 1) st')
    (hstop : ∀ w (i : Nat) x st, l[i]? = some x → i < l.length → SmallW w → isNw w = true → J w i st → (acted w x).2 = false → ∃ y, f st = some (.inr y) ∧ V w (i : Int) y)
    (hend : ∀ w st, J w l.length st → ∃ y, f st = some (.inr y) ∧ V w (l.length : Int) y) :
    ∀ (r pre : List GAct) (w : GNetwork) (st : τ), l = pre ++ r → SmallW w → isNw w = true → J w pre.length st → ∃ y, loopE f st = some y ∧ V (runs w r (pre.length : Int)).1 (runs w r (pre.length : Int)).2 y
  | [], pre, w, st, e, hw, hn, hJ => by
    rw [List.append_nil] at e
    subst e
    obtain ⟨y, h1, h2⟩ := hend w st hJ
    exact ⟨y, loopE_done h1, h2⟩
  | x :: r, pre, w, st, e, hw, hn, hJ => by
    have hx : l[pre.length]? = some x := by rw [e]; simp
    have hlt : pre.length < l.length := by rw [e]; simp
    unfold runs
    cases h : (acted w x).2 with
    | false =>
      obtain ⟨y, h1, h2⟩ := hstop w pre.length x st hx hlt hw hn hJ h
      exact ⟨y, loopE_done h1, h2⟩
    | true =>
      obtain ⟨st', h1, h2⟩ := hgo w pre.length x st hx hlt hw hn hJ h
      obtain ⟨k1, k2⟩ := acted_ok hw hn x h
      obtain ⟨y, h3, h4⟩ := acts_loop hl J V hgo hstop hend r (pre ++ [x]) (acted w x).1 st' (by rw [e]; simp) k2 k1 (by simpa using h2)
      refine ⟨y, by rw [loopE_step h1]; exact h3, ?_⟩
      rw [show ((pre ++ [x]).length : Int) = (pre.length : Int) + 1 by simp] at h4
      exact h4
noncomputable def ranV (w : GNetwork) (l : List GAct) : GNetwork × Int × Bool := ((runs w l 0).1, (runs w l 0).2, true)
theorem bind_ex {α β : Type} {m : Option α} {V : α → Prop} {g : α → Option β} {r : β} (h : ∃ y, m = some y ∧ V y) (h2 : ∀ y, V y → g y = some r) : m.bind g = some r := by
  obtain ⟨y, rfl, hv⟩ := h
  exact h2 y hv
abbrev St10 : Type := (List GLink) × (List GLink) × (List GLink) × Int × (List GParcel) × (List GLink) × (List GLink) × (List GLink) × Int × (List GParcel)
abbrev St7 : Type := (List GLink) × (List GLink) × (List GLink) × Int × (List GParcel) × Int × Bool
def sEnd (w : GNetwork) : St10 := ([], [], [], 0, [], w.1.1, w.1.2.1, w.2.1, w.2.2.1, w.2.2.2.1)
def iEnd (w : GNetwork) : St10 := (w.1.1, w.1.2.1, w.2.1, w.2.2.1, w.2.2.2.1, [], [], [], 0, [])
def early (w : GNetwork) (n : Int) : St7 := (w.1.1, w.1.2.1, w.2.1, w.2.2.1, w.2.2.2.1, n, true)
theorem s_runs {w : GNetwork} (hw : SmallW w) (hn : isNw w = true) {l : List GAct} (hl : l.length ≤ 100) : s_RunActs w l = some (ranV w l) := by
  unfold s_RunActs
  rw [s_isNw hw.fine, hn]
  simp only [Option.bind_some, Bool.not_true, cond_false, dec_f (by omega : ¬ 100 < (l.length : Int)), s_own hw]
  refine bind_ex (acts_loop (l := l) hl (fun w' i st => st = (([] : List GLink), ([] : List GLink), ([] : List GLink), (0 : Int), ([] : List GParcel), w'.1.1, w'.1.2.1, w'.2.1, w'.2.2.1, w'.2.2.2.1, (i : Int)))
    (fun w' n (y : St10 ⊕ St7) => y = Sum.inr (early w' n) ∨ (n = (l.length : Int) ∧ y = Sum.inl (sEnd w'))) ?_ ?_ ?_ l [] w _ rfl hw hn rfl) ?_
  · intro w' i x st hx hi hw' hn' hst hd
    subst hst
    refine ⟨_, ?_, rfl⟩
    have e := s_acted hw' hn' x
    have e' : s_nwAct ((w'.1.1, w'.1.2.1, ()), w'.2.1, w'.2.2.1, w'.2.2.2.1, ()) x = some (acted w' x) := e
    simp only [at_lt hi, cond_true, idx_get, hx, Option.bind_some, e', hd, Bool.not_true, cond_false, w64_of (x := (i : Int) + 1) (by omega) (by omega)]
    rfl
  · intro w' i x st hx hi hw' hn' hst hd
    subst hst
    refine ⟨_, ?_, .inl rfl⟩
    have e' : s_nwAct ((w'.1.1, w'.1.2.1, ()), w'.2.1, w'.2.2.1, w'.2.2.2.1, ()) x = some (acted w' x) := s_acted hw' hn' x
    simp only [at_lt hi, cond_true, idx_get, hx, Option.bind_some, e', hd, Bool.not_false]
    rfl
  · intro w' st hst
    subst hst
    refine ⟨_, ?_, .inr ⟨rfl, rfl⟩⟩
    simp only [dec_f (by omega : ¬ (l.length : Int) < (l.length : Int)), cond_false]
    rfl
  · intro y hy
    show _ = some (ranV w l)
    unfold ranV
    simp only [List.length_nil] at hy
    rw [show ((0 : Nat) : Int) = 0 from rfl] at hy
    generalize runs w l 0 = r at hy
    obtain ⟨v, n⟩ := r
    rcases hy with rfl | ⟨hn2, rfl⟩
    · rfl
    · simp only at hn2
      subst hn2
      rfl
theorem i_runs {w : GNetwork} (hw : SmallW w) (hn : isNw w = true) {l : List GAct} (hl : l.length ≤ 100) : i_RunActs w l = some (ranV w l) := by
  unfold i_RunActs
  rw [i_isNw hw.fine, hn]
  simp only [Option.bind_some, Bool.not_true, cond_false, dec_f (by omega : ¬ 100 < (l.length : Int)), cloneNw hw]
  refine bind_ex (acts_loop (l := l) hl (fun w' i st => st = (w'.1.1, w'.1.2.1, w'.2.1, w'.2.2.1, w'.2.2.2.1, ([] : List GLink), ([] : List GLink), ([] : List GLink), (0 : Int), ([] : List GParcel), (i : Int)))
    (fun w' n (y : St10 ⊕ St7) => y = Sum.inr (early w' n) ∨ (n = (l.length : Int) ∧ y = Sum.inl (iEnd w'))) ?_ ?_ ?_ l [] w _ rfl hw hn rfl) ?_
  · intro w' i x st hx hi hw' hn' hst hd
    subst hst
    refine ⟨_, ?_, rfl⟩
    have e' : i_actOn ((w'.1.1, w'.1.2.1, ()), w'.2.1, w'.2.2.1, w'.2.2.2.1, ()) x = some (acted w' x) := i_acted hw' hn' x
    simp only [at_lt hi, cond_true, idx_get, hx, Option.bind_some, e', hd, Bool.not_true, cond_false, w64_of (x := (i : Int) + 1) (by omega) (by omega)]
    rfl
  · intro w' i x st hx hi hw' hn' hst hd
    subst hst
    refine ⟨_, ?_, .inl rfl⟩
    have e' : i_actOn ((w'.1.1, w'.1.2.1, ()), w'.2.1, w'.2.2.1, w'.2.2.2.1, ()) x = some (acted w' x) := i_acted hw' hn' x
    simp only [at_lt hi, cond_true, idx_get, hx, Option.bind_some, e', hd, Bool.not_false]
    rfl
  · intro w' st hst
    subst hst
    refine ⟨_, ?_, .inr ⟨rfl, rfl⟩⟩
    simp only [dec_f (by omega : ¬ (l.length : Int) < (l.length : Int)), cond_false]
    rfl
  · intro y hy
    show _ = some (ranV w l)
    unfold ranV
    simp only [List.length_nil] at hy
    rw [show ((0 : Nat) : Int) = 0 from rfl] at hy
    generalize runs w l 0 = r at hy
    obtain ⟨v, n⟩ := r
    rcases hy with rfl | ⟨hn2, rfl⟩
    · rfl
    · simp only at hn2
      subst hn2
      rfl
end Go.Proofs.Ytlalabdgkkfjpaa.Sh
