/-
  What the laws ask of networks: equal ones are found equal; what passes, what arrives, what comes next.
-/
import Derived.Test.YtlalabdgkkfjpaaND4
namespace Go.Proofs.Ytlalabdgkkfjpaa.Sh
open Go Go.Ab Go.Proofs
set_option maxRecDepth 100000
theorem same_loop {n : Nat} (hn : n ≤ 1000000000) {f : Int → Option (Int ⊕ (Unit ⊕ Bool))} (step : ∀ i : Nat, i < n → f (i : Int) = some (.inl (w64 ((i : Int) + 1)))) (fin : f (n : Int) = some (.inr (.inl ()))) : loopE f 0 = some (.inl ()) := by
  have : To (loopE f 0) (fun r => r = .inl ()) := by
    refine To.loop (fun k st => ∃ i : Nat, st = (i : Int) ∧ i + k = n) (n := n) ⟨0, rfl, by omega⟩ ?_
    rintro k st ⟨i, rfl, hi⟩
    by_cases h : i < n
    · rw [step i h]
      refine .ret (.on (k - 1) (by omega) ⟨i + 1, ?_, by omega⟩)
      rw [w64_of (by omega) (by omega)]; omega
    · have : i = n := by omega
      subst this
      rw [fin]
      exact .ret (.end_ rfl)
  obtain ⟨r, e, rfl⟩ := this
  exact e
theorem sameInts_self {l : List Int} (h : l.length ≤ 1048576) : l_sameInts l l = some true := by
  unfold l_sameInts
  simp only [decide_true, Bool.not_true, cond_false]
  rw [same_loop (n := l.length) (by omega) (fun i hi => by simp [at_lt hi, idx_get, hi]) (by simp)]
  rfl
theorem sameLists_self {l : List (List Int)} (h : Rows2 l) : l_sameLists l l = some true := by
  have hl := h.len
  unfold l_sameLists
  simp only [decide_true, Bool.not_true, cond_false]
  rw [same_loop (n := l.length) (by omega) (fun i hi => by simp [at_lt hi, idx_get, hi, sameInts_self (h.row l[i] (List.getElem_mem hi))]) (by simp)]
  rfl
theorem pSameNet_self {n : GNet} (h : SmallN n) : l_pSameNet n n = some true := by
  have h1 := h.t; have h2 := h.l
  unfold l_pSameNet
  simp only [decide_true, Bool.not_true, cond_false, Option.bind_some]
  rw [same_loop (n := n.1.length) (by omega) (fun i hi => by simp [at_lt hi, idx_get, hi]) (by simp)]
  simp only [Option.bind_some]
  rw [same_loop (n := n.2.1.length) (by omega) (fun i hi => by simp [at_lt hi, idx_get, hi]) (by simp)]
  rfl
theorem pSameFogs_self {l : List GLink} (h : l.length ≤ 1048576) : l_pSameFogs l l = some true := by
  unfold l_pSameFogs
  simp only [decide_true, Bool.not_true, cond_false]
  rw [same_loop (n := l.length) (by omega) (fun i hi => by simp [at_lt hi, idx_get, hi]) (by simp)]
  rfl
theorem pSame_self {w : GNetwork} (h : SmallW w) : l_pSameNetwork w w = some true := by
  have h1 := h.p
  unfold l_pSameNetwork
  rw [pSameNet_self h.n]
  simp only [Option.bind_some, Bool.not_true, cond_false, pSameFogs_self h.f, decide_true]
  rw [same_loop (n := w.2.2.2.1.length) (by omega) (fun i hi => by simp [at_lt hi, idx_get, hi]) (by simp)]
  rfl
theorem pass_eq {w : GNetwork} (hs : SmallW w) (m p t : Int) : s_PassParcel w m p t = some (bif isNw w then passed w (2, m, p, t, 0, ()) else (zeroW, false)) ∧ i_PassParcel w m p t = some (bif isNw w then passed w (2, m, p, t, 0, ()) else (zeroW, false)) := by
  unfold s_PassParcel i_PassParcel s_nwAsked
  rw [s_isNw hs.fine, i_isNw hs.fine]
  simp only [Option.bind_some]
  cases hn : isNw w with
  | false => exact ⟨rfl, rfl⟩
  | true =>
    simp only [Bool.not_true, cond_false]
    rw [s_act_pass hs hn _ rfl, i_passed hs hn _ rfl]
    exact ⟨rfl, rfl⟩
theorem wait_eq {w : GNetwork} (hs : SmallW w) (n : Int) : s_WaitSeconds w n = some (bif isNw w then waited w n else (zeroW, false)) ∧ i_WaitSeconds w n = some (bif isNw w then waited w n else (zeroW, false)) := by
  unfold s_WaitSeconds i_WaitSeconds s_nwAsked
  rw [s_isNw hs.fine, i_isNw hs.fine]
  simp only [Option.bind_some]
  cases hn : isNw w with
  | false => exact ⟨rfl, rfl⟩
  | true =>
    simp only [Bool.not_true, cond_false]
    rw [s_waited hs hn _ rfl, i_waited hs hn _ rfl]
    exact ⟨rfl, rfl⟩
theorem P_mem {ps : List GParcel} {i : Nat} (h : i < ps.length) : P ps i ∈ ps := by rw [P_eq h]; exact List.getElem_mem h
theorem mem_P {ps : List GParcel} {x : GParcel} (h : x ∈ ps) : ∃ i, i < ps.length ∧ P ps i = x := by
  obtain ⟨i, hi, e⟩ := List.getElem_of_mem h
  exact ⟨i, hi, by rw [P_eq hi]; exact e⟩
theorem first_le {T : Nat} {ps : List GParcel} (hc : ∀ j, j < ps.length → Cond T ps j) {i j : Nat} (hj : j < ps.length) (hij : i ≤ j) (h : (P ps i).1 = (P ps j).1) : (j : Int) - (P ps j).2.1 ≤ (i : Int) - (P ps i).2.1 := by
  have ci := hc i (by omega)
  have cj := hc j hj
  have li := ci.lo
  have lj := cj.lo
  have pi := ci.al.p
  have pj := cj.al.p
  refine Classical.byContradiction fun hn => ?_
  have hb := cj.q
  have hlt : j - (P ps j).2.1.toNat < ps.length := by omega
  have hpos : 0 < j - (P ps j).2.1.toNat := by omega
  have cb := (hc _ hlt).bf hpos
  have si := ci.q
  have hsm : (P ps (i - (P ps i).2.1.toNat)).1 ≤ (P ps (j - (P ps j).2.1.toNat - 1)).1 := by
    have := sorted_P hc (j - (P ps j).2.1.toNat - 1 - (i - (P ps i).2.1.toNat)) (i - (P ps i).2.1.toNat) (by omega)
    rwa [show i - (P ps i).2.1.toNat + (j - (P ps j).2.1.toNat - 1 - (i - (P ps i).2.1.toNat)) = j - (P ps j).2.1.toNat - 1 by omega] at this
  rw [hb.1, hb.2.1] at cb
  rw [si.1] at hsm
  omega
theorem le_first {T : Nat} {ps : List GParcel} (hc : ∀ j, j < ps.length → Cond T ps j) {i j : Nat} (hj : j < ps.length) (hij : i ≤ j) (h : (P ps i).1 = (P ps j).1) : (i : Int) - (P ps i).2.1 ≤ (j : Int) - (P ps j).2.1 := by
  have ci := hc i (by omega)
  have cj := hc j hj
  have li := ci.lo
  have lj := cj.lo
  have pi := ci.al.p
  have pj := cj.al.p
  refine Classical.byContradiction fun hn => ?_
  have hb := ci.q
  have hlt : i - (P ps i).2.1.toNat < ps.length := by omega
  have hpos : 0 < i - (P ps i).2.1.toNat := by omega
  have cb := (hc _ hlt).bf hpos
  have sj := cj.q
  have hsm : (P ps (j - (P ps j).2.1.toNat)).1 ≤ (P ps (i - (P ps i).2.1.toNat - 1)).1 := by
    have := sorted_P hc (i - (P ps i).2.1.toNat - 1 - (j - (P ps j).2.1.toNat)) (j - (P ps j).2.1.toNat) (by omega)
    rwa [show j - (P ps j).2.1.toNat + (i - (P ps i).2.1.toNat - 1 - (j - (P ps j).2.1.toNat)) = i - (P ps i).2.1.toNat - 1 by omega] at this
  rw [hb.1, hb.2.1] at cb
  rw [sj.1] at hsm
  omega
theorem same_first {T : Nat} {ps : List GParcel} (hc : ∀ j, j < ps.length → Cond T ps j) {i j : Nat} (hi : i < ps.length) (hj : j < ps.length) (h : (P ps i).1 = (P ps j).1) : (i : Int) - (P ps i).2.1 = (j : Int) - (P ps j).2.1 := by
  rcases Nat.le_total i j with hij | hij
  · have := first_le hc hj hij h
    have := le_first hc hj hij h
    omega
  · have := first_le hc hi hij h.symm
    have := le_first hc hi hij h.symm
    omega
theorem conds {w : GNetwork} (h : isNw w = true) : ∀ j, j < w.2.2.2.1.length → Cond w.1.1.length w.2.2.2.1 j := cond_iff.2 (isNw_groups h).1
theorem firstAt_spec {α : Type} {t : α → Bool} : ∀ (l : List α) (k i : Nat), firstAt t l k = some i → k ≤ i ∧ ∃ x, l[i - k]? = some x ∧ t x = true
  | [], _, _, h => by cases h
  | x :: r, k, i, h => by
    unfold firstAt at h
    cases hx : t x with
    | true =>
      rw [hx] at h
      cases h
      exact ⟨Nat.le_refl _, x, by simp, hx⟩
    | false =>
      rw [hx] at h
      obtain ⟨h1, y, h2, h3⟩ := firstAt_spec r (k + 1) i h
      refine ⟨by omega, y, ?_, h3⟩
      rw [show i - k = (i - (k + 1)) + 1 by omega]
      simpa using h2
theorem passed_can {w : GNetwork} (hn : isNw w = true) {x : GParcel} (hx : x ∈ w.2.2.2.1) {t : Int} (hc : canV w.2.2.1 (pass w x t) = true) : (passed w (2, x.1, x.2.1, t, 0, ())).2 = true := by
  obtain ⟨i0, hi0, e0⟩ := mem_P hx
  have cs := conds hn
  unfold passed
  have hany := find_or (actT (2, x.1, x.2.1, t, 0, ())) w.2.2.2.1 0
  rw [show w.2.2.2.1.any (actT (2, x.1, x.2.1, t, 0, ())) = true from List.any_eq_true.2 ⟨x, hx, by simp [actT]⟩] at hany
  obtain ⟨i, hf⟩ := Option.isSome_iff_exists.1 hany
  have hl := firstAt_lt _ _ _ hf
  obtain ⟨_, y, h2, h3⟩ := firstAt_spec _ _ _ hf
  rw [Nat.zero_add] at hl
  rw [Nat.sub_zero, get_P hl] at h2
  cases h2
  simp only [actT, Bool.and_eq_true, decide_eq_true_eq] at h3
  have e := same_first cs hl hi0 (by rw [e0]; exact h3.1)
  rw [e0, h3.2] at e
  have hii : i = i0 := by omega
  subst hii
  rw [hf]
  simp only
  rw [e0]
  cases hk : link w.1 x.2.2.2.1 t with
  | none => rw [can_link hk] at hc; cases hc
  | some k => simp only; rw [hc]; rfl
theorem addP_mem {w : GNetwork} {x : GParcel} {r : List Int} : ∀ (l : List Nat) (out : List (List Int)), r ∈ l.foldl (addP w x) out ↔ r ∈ out ∨ ∃ j ∈ l, canV w.2.2.1 (pass w x (j : Int)) = true ∧ r = [x.1, x.2.1, (j : Int)]
  | [], out => by simp
  | a :: l, out => by
    rw [List.foldl_cons, addP_mem l]
    unfold addP
    cases hc : canV w.2.2.1 (pass w x (a : Int)) with
    | true =>
      simp only [cond_true, List.mem_append, List.mem_singleton, List.mem_cons, List.not_mem_nil, false_or, exists_eq_or_imp, hc, true_and, or_assoc]
    | false =>
      simp only [cond_false, List.mem_cons, exists_eq_or_imp, hc, Bool.false_eq_true, false_and, false_or]
theorem passes_mem {w : GNetwork} {r : List Int} : ∀ (l : List GParcel) (out : List (List Int)), r ∈ l.foldl (addAll w) out ↔ r ∈ out ∨ ∃ x ∈ l, ∃ j, j < w.1.1.length ∧ canV w.2.2.1 (pass w x (j : Int)) = true ∧ r = [x.1, x.2.1, (j : Int)]
  | [], out => by simp
  | a :: l, out => by
    rw [List.foldl_cons, passes_mem l]
    unfold addAll
    rw [addP_mem]
    simp only [List.mem_range, List.mem_cons, exists_eq_or_imp, or_assoc]
theorem passes_some {w : GNetwork} : 0 < (w.2.2.2.1.foldl (addAll w) []).length ↔ ∃ x ∈ w.2.2.2.1, ∃ j, j < w.1.1.length ∧ canV w.2.2.1 (pass w x (j : Int)) = true := by
  rw [List.length_pos_iff_exists_mem]
  constructor
  · rintro ⟨r, hr⟩
    rw [passes_mem] at hr
    rcases hr with hr | ⟨x, hx, j, hj, hc, _⟩
    · cases hr
    · exact ⟨x, hx, j, hj, hc⟩
  · rintro ⟨x, hx, j, hj, hc⟩
    exact ⟨[x.1, x.2.1, (j : Int)], (passes_mem _ _).2 (.inr ⟨x, hx, j, hj, hc, rfl⟩)⟩
theorem next1_le (w : GNetwork) (x : GParcel) (b : Int) (j : Nat) : next1 w x b j ≤ b ∧ (∀ u, pass w x (j : Int) = some u → next1 w x b j ≤ u) ∧ (next1 w x b j = b ∨ pass w x (j : Int) = some (next1 w x b j)) := by
  unfold next1
  cases hp : pass w x (j : Int) with
  | none => exact ⟨Int.le_refl _, (fun u h => by cases h), .inl rfl⟩
  | some v =>
    simp only
    by_cases h : v < b
    · rw [dec_t h]; exact ⟨by simp only [cond_true]; omega, (fun u h => by cases h; exact Int.le_refl _), .inr rfl⟩
    · rw [dec_f h]; exact ⟨Int.le_refl _, (fun u h => by cases h; simp only [cond_false]; omega), .inl rfl⟩
theorem next_in (w : GNetwork) (x : GParcel) : ∀ (l : List Nat) (b : Int), l.foldl (next1 w x) b ≤ b ∧ (∀ j ∈ l, ∀ u, pass w x (j : Int) = some u → l.foldl (next1 w x) b ≤ u) ∧ (l.foldl (next1 w x) b = b ∨ ∃ j ∈ l, pass w x (j : Int) = some (l.foldl (next1 w x) b))
  | [], b => ⟨Int.le_refl _, (fun j h => by cases h), .inl rfl⟩
  | a :: l, b => by
    obtain ⟨h1, h2, h3⟩ := next1_le w x b a
    obtain ⟨i1, i2, i3⟩ := next_in w x l (next1 w x b a)
    rw [List.foldl_cons]
    refine ⟨by omega, fun j hj u hu => ?_, ?_⟩
    · rcases List.mem_cons.1 hj with rfl | hj
      · have := h2 u hu; omega
      · exact i2 j hj u hu
    · rcases i3 with i3 | ⟨j, hj, e⟩
      · rcases h3 with h3 | h3
        · exact .inl (by omega)
        · exact .inr ⟨a, by simp, by rw [i3]; exact h3⟩
      · exact .inr ⟨j, List.mem_cons_of_mem _ hj, e⟩
theorem next_all (w : GNetwork) (n : Nat) : ∀ (l : List GParcel) (b : Int), l.foldl (fun (b : Int) (x : GParcel) => (List.range n).foldl (next1 w x) b) b ≤ b ∧ (∀ x ∈ l, ∀ j, j < n → ∀ u, pass w x (j : Int) = some u → l.foldl (fun (b : Int) (x : GParcel) => (List.range n).foldl (next1 w x) b) b ≤ u) ∧ (l.foldl (fun (b : Int) (x : GParcel) => (List.range n).foldl (next1 w x) b) b = b ∨ ∃ x ∈ l, ∃ j, j < n ∧ pass w x (j : Int) = some (l.foldl (fun (b : Int) (x : GParcel) => (List.range n).foldl (next1 w x) b) b))
  | [], b => ⟨Int.le_refl _, (fun j h => by cases h), .inl rfl⟩
  | a :: l, b => by
    obtain ⟨h1, h2, h3⟩ := next_in w a (List.range n) b
    obtain ⟨i1, i2, i3⟩ := next_all w n l ((List.range n).foldl (next1 w a) b)
    rw [List.foldl_cons]
    refine ⟨by omega, fun x hx j hj u hu => ?_, ?_⟩
    · rcases List.mem_cons.1 hx with rfl | hx
      · have := h2 j (List.mem_range.2 hj) u hu; omega
      · exact i2 x hx j hj u hu
    · rcases i3 with i3 | ⟨x, hx, j, hj, e⟩
      · rcases h3 with h3 | ⟨j, hj, h3⟩
        · exact .inl (by omega)
        · exact .inr ⟨a, by simp, j, List.mem_range.1 hj, by rw [i3]; exact h3⟩
      · exact .inr ⟨x, List.mem_cons_of_mem _ hx, j, hj, e⟩
theorem nextV_le {w : GNetwork} {x : GParcel} (hx : x ∈ w.2.2.2.1) {j : Nat} (hj : j < w.1.1.length) {u : Int} (h : pass w x (j : Int) = some u) : nextV w ≤ u := (next_all w w.1.1.length w.2.2.2.1 10001).2.1 x hx j hj u h
theorem nextV_at {w : GNetwork} (h : nextV w ≤ 10000) : ∃ x ∈ w.2.2.2.1, ∃ j, j < w.1.1.length ∧ pass w x (j : Int) = some (nextV w) := by
  rcases (next_all w w.1.1.length w.2.2.2.1 10001).2.2 with h1 | h1
  · exfalso
    unfold nextV at h
    omega
  · exact h1
theorem pass_time {w : GNetwork} {x : GParcel} {t v : Int} (h : pass w x t = some v) : w.2.2.1 ≤ v ∧ x.2.2.2.2.2.1 ≤ v := by
  unfold pass at h
  cases hk : link w.1 x.2.2.2.1 t with
  | none => rw [hk] at h; cases h
  | some k =>
    rw [hk] at h
    cases hd : decide (x.2.2.2.1 = x.2.2.2.2.1) with
    | true => simp only [hd, cond_true] at h; cases h
    | false =>
      simp only [hd, cond_false] at h
      cases h
      have hge := startV_ge w.2.1 (k : Int) (bif decide (w.2.2.1 < x.2.2.2.2.2.1) then x.2.2.2.2.2.1 else w.2.2.1) (delay w.1 k)
      by_cases h1 : w.2.2.1 < x.2.2.2.2.2.1
      · rw [dec_t h1] at hge ⊢; simp only [cond_true] at hge ⊢; omega
      · rw [dec_f h1] at hge ⊢; simp only [cond_false] at hge ⊢; omega
theorem later_stay {k sec s : Int} {x : GLink} (h : ¬ (x.1 = k ∧ s < x.2.2.1 ∧ x.2.1 < w64 (s + sec))) : later k sec s x = s := by
  unfold later
  have : (decide (x.1 = k) && (decide (s < x.2.2.1) && decide (x.2.1 < w64 (s + sec)))) = false := by
    rw [Bool.eq_false_iff]
    intro hc
    simp only [Bool.and_eq_true, decide_eq_true_eq] at hc
    exact h hc
  rw [this]
  rfl
theorem start_stay {k sec s : Int} : ∀ (l : List GLink), (∀ x ∈ l, ¬ (x.1 = k ∧ s < x.2.2.1 ∧ x.2.1 < w64 (s + sec))) → startV l k s sec = s
  | [], _ => rfl
  | x :: l, h => by
    show startV l k (later k sec s x) sec = s
    rw [later_stay (h x (by simp))]
    exact start_stay l fun y hy => h y (List.mem_cons_of_mem _ hy)
def Chain (k : Int) : List GLink → Prop
  | [] => True
  | x :: l => (x.1 = k → x.2.1 < x.2.2.1 ∧ ∀ y ∈ l, y.1 = k → x.2.2.1 < y.2.1) ∧ Chain k l
theorem start_free {k sec : Int} (hsec : 0 ≤ sec ∧ sec ≤ 60) : ∀ (l : List GLink) (s : Int), Chain k l → 0 ≤ s → s ≤ 100000 → (∀ x ∈ l, x.2.2.1 ≤ 100000) → ∀ x ∈ l, ¬ (x.1 = k ∧ startV l k s sec < x.2.2.1 ∧ x.2.1 < w64 (startV l k s sec + sec))
  | [], _, _, _, _, _, x, hx => by cases hx
  | y :: l, s, hc, h0, h1, hb, x, hx => by
    have hs : startV (y :: l) k s sec = startV l k (later k sec s y) sec := rfl
    rw [hs]
    obtain ⟨c1, c2⟩ := hc
    have hlt : 0 ≤ later k sec s y ∧ later k sec s y ≤ 100000 ∧ s ≤ later k sec s y := by
      unfold later
      cases hq : (decide (y.1 = k) && (decide (s < y.2.2.1) && decide (y.2.1 < w64 (s + sec)))) with
      | false => simp only [cond_false]; omega
      | true =>
        simp only [Bool.and_eq_true, decide_eq_true_eq] at hq
        have := hb y (by simp)
        simp only [cond_true]; omega
    rcases List.mem_cons.1 hx with rfl | hx
    · rintro ⟨e1, e2, e3⟩
      have hge := startV_ge l k (later k sec s x) sec
      by_cases ht : s < x.2.2.1 ∧ x.2.1 < w64 (s + sec)
      · have : later k sec s x = x.2.2.1 := by unfold later; rw [dec_t e1, dec_t ht.1, dec_t ht.2]; rfl
        omega
      · have hst : later k sec s x = s := later_stay fun hh => ht hh.2
        rw [hst] at e2 e3 hge
        have h2 : ¬ x.2.1 < w64 (s + sec) := fun hh => ht ⟨by omega, hh⟩
        rw [w64_of (by omega) (by omega)] at h2
        have hall : startV l k s sec = s := start_stay l fun y hy hh => by
          have := (c1 e1).2 y hy hh.1
          have := (c1 e1).1
          rw [w64_of (by omega) (by omega)] at hh
          omega
        rw [hall, w64_of (by omega) (by omega)] at e3
        omega
    · exact start_free hsec l _ c2 hlt.1 hlt.2.1 (fun z hz => hb z (List.mem_cons_of_mem _ hz)) x hx
theorem start_again {k sec : Int} (hsec : 0 ≤ sec ∧ sec ≤ 60) {l : List GLink} {s : Int} (hc : Chain k l) (h0 : 0 ≤ s) (h1 : s ≤ 100000) (hb : ∀ x ∈ l, x.2.2.1 ≤ 100000) : startV l k (startV l k s sec) sec = startV l k s sec :=
  start_stay l (start_free hsec l s hc h0 h1 hb)
end Go.Proofs.Ytlalabdgkkfjpaa.Sh
