/-
  The statement on networks: what the function of its law comes to.
-/
import Derived.Test.YtlalabdgkkfjpaaND5
namespace Go.Proofs.Ytlalabdgkkfjpaa.Sh
open Go Go.Ab Go.Proofs
set_option maxRecDepth 100000
theorem apart_trans {n : Nat} {a b c : GLink} (h1 : apart a b = true) (hb : okFog n b = true) (h2 : apart b c = true) : apart a c = true := by
  unfold apart at *
  unfold okFog at hb
  simp only [Bool.and_eq_true, Bool.or_eq_true, decide_eq_true_eq] at *
  omega
theorem apart_all {n : Nat} : ∀ (l : List GLink) (x : GLink), (∀ y ∈ l, okFog n y = true) → (∀ y, l[0]? = some y → apart x y = true) → (∀ (i : Nat) (a b : GLink), l[i]? = some a → l[i + 1]? = some b → apart a b = true) → ∀ y ∈ l, apart x y = true
  | [], _, _, _, _, y, hy => by cases hy
  | z :: l, x, ho, h0, hs, y, hy => by
    have hz := h0 z (by simp)
    rcases List.mem_cons.1 hy with rfl | hy
    · exact hz
    · have := apart_all l z (fun y h => ho y (List.mem_cons_of_mem _ h)) (fun y h => hs 0 z y (by simp) (by simpa using h)) (fun i a b ha hb => hs (i + 1) a b (by simpa using ha) (by simpa using hb)) y hy
      exact apart_trans hz (ho z (by simp)) this
theorem chain_of {n : Nat} (k : Int) : ∀ (l : List GLink), (∀ y ∈ l, okFog n y = true) → (∀ (i : Nat) (a b : GLink), l[i]? = some a → l[i + 1]? = some b → apart a b = true) → Chain k l
  | [], _, _ => trivial
  | x :: l, ho, hs => by
    refine ⟨fun hk => ⟨?_, fun y hy hyk => ?_⟩, chain_of k l (fun y h => ho y (List.mem_cons_of_mem _ h)) (fun i a b ha hb => hs (i + 1) a b (by simpa using ha) (by simpa using hb))⟩
    · have := ho x (by simp)
      unfold okFog at this
      simp only [Bool.and_eq_true, decide_eq_true_eq] at this
      omega
    · have := apart_all l x (fun y h => ho y (List.mem_cons_of_mem _ h)) (fun y h => hs 0 x y (by simp) (by simpa using h)) (fun i a b ha hb => hs (i + 1) a b (by simpa using ha) (by simpa using hb)) y hy
      unfold apart at this
      simp only [Bool.and_eq_true, Bool.or_eq_true, decide_eq_true_eq] at this
      omega
theorem fogs_spec {n : Nat} {l : List GLink} (h : areFogs n l = true) : (∀ k, Chain k l) ∧ ∀ x ∈ l, x.2.2.1 ≤ 100000 := by
  unfold areFogs at h
  simp only [Bool.and_eq_true, List.all_eq_true, List.mem_range] at h
  have ho : ∀ y ∈ l, okFog n y = true := fun y hy => by
    obtain ⟨i, hi, rfl⟩ := List.getElem_of_mem hy
    have := (h.1 i hi).1
    rwa [eachAt_eq hi] at this
  refine ⟨fun k => chain_of k l ho fun i a b ha hb => ?_, fun x hx => ?_⟩
  · obtain ⟨hi, rfl⟩ := List.getElem?_eq_some_iff.1 hb
    have := (h.1 (i + 1) hi).2
    rw [stepAt_eq hi, dec_f (by omega : ¬ i + 1 = 0), Bool.false_or] at this
    obtain ⟨hi2, rfl⟩ := List.getElem?_eq_some_iff.1 ha
    exact this
  · have := ho x hx
    unfold okFog at this
    simp only [Bool.and_eq_true, decide_eq_true_eq] at this
    omega
theorem pass_then {w : GNetwork} (hn : isNw w = true) {x : GParcel} {t v : Int} (h : pass w x t = some v) (hv : v ≤ 10000) : pass (w.1, w.2.1, v, w.2.2.2) x t = some v := by
  obtain ⟨p1, p2, p3, p4, p5, p6⟩ := isNw_parts hn
  obtain ⟨h1, h2⟩ := pass_time h
  obtain ⟨c1, c2⟩ := fogs_spec p2
  unfold pass at h ⊢
  cases hk : link w.1 x.2.2.2.1 t with
  | none => rw [hk] at h; cases h
  | some k =>
    rw [hk] at h
    simp only at h ⊢
    obtain ⟨_, _, d1, d2⟩ := link_ends p1 hk
    cases hd : decide (x.2.2.2.1 = x.2.2.2.2.1) with
    | true => rw [hd] at h; cases h
    | false =>
      rw [hd] at h
      simp only [cond_false, Option.some.injEq] at h ⊢
      rw [dec_f (by omega : ¬ v < x.2.2.2.2.2.1)]
      simp only [cond_false]
      have hs : ∀ s : Int, startV w.2.1 (k : Int) s (delay w.1 k) = v → 0 ≤ s → startV w.2.1 (k : Int) v (delay w.1 k) = v := fun s e h0 => by
        have hge := startV_ge w.2.1 (k : Int) s (delay w.1 k)
        have := start_again (k := (k : Int)) (sec := delay w.1 k) (by omega) (c1 k) (s := s) h0 (by omega) c2
        rwa [e] at this
      refine hs _ h ?_
      cases hq : decide (w.2.2.1 < x.2.2.2.2.2.1) with
      | true => have := of_decide_eq_true hq; simp only [cond_true]; omega
      | false => simp only [cond_false]; omega
theorem fire_eq (t : GParcel → Bool) (v : GParcel → Int) : ∀ (l : List GParcel) (out : List Int), l.foldl (fire t v) out = out ++ (l.filter t).map v
  | [], out => by simp
  | x :: l, out => by
    rw [List.foldl_cons, fire_eq t v l]
    unfold fire
    cases h : t x with
    | true => simp [h]
    | false => simp [h]
theorem group_filter {w : GNetwork} (hn : isNw w = true) {i k : Nat} (hi : i + k ≤ w.2.2.2.1.length) (h0 : 1 ≤ k) (hk : (P w.2.2.2.1 i).2.2.1 = (k : Int)) (hg : ∀ j, j < k → InG w.1.1.length (P w.2.2.2.1 i) j (P w.2.2.2.1 (i + j))) :
    (w.2.2.2.1.filter fun x => decide (x.1 = (P w.2.2.2.1 i).1)) = (w.2.2.2.1.drop i).take k := by
  have cs := conds hn
  have hil : i < w.2.2.2.1.length := by omega
  have hp0 := (hg 0 (by omega)).p
  rw [Nat.add_zero] at hp0
  have at_ : ∀ j, j < w.2.2.2.1.length → (P w.2.2.2.1 j).1 = (P w.2.2.2.1 i).1 → i ≤ j ∧ j < i + k := fun j hj e => by
    have h1 := same_first cs hj hil e
    have h2 := (cs j hj).al.p
    have h3 := (cs j hj).q.2.2.1
    rw [show j - (P w.2.2.2.1 j).2.1.toNat = i by omega, hk] at h3
    omega
  have e : w.2.2.2.1 = w.2.2.2.1.take i ++ ((w.2.2.2.1.drop i).take k ++ (w.2.2.2.1.drop i).drop k) := by rw [List.take_append_drop, List.take_append_drop]
  refine (congrArg (List.filter fun x => decide (x.1 = (P w.2.2.2.1 i).1)) e).trans ?_
  rw [List.filter_append, List.filter_append]
  have f1 : (w.2.2.2.1.take i).filter (fun x => decide (x.1 = (P w.2.2.2.1 i).1)) = [] := by
    rw [List.filter_eq_nil_iff]
    intro x hx hd
    obtain ⟨j, hj, rfl⟩ := List.getElem_of_mem hx
    rw [List.length_take] at hj
    rw [List.getElem_take, ← P_eq (by omega)] at hd
    have := at_ j (by omega) (of_decide_eq_true hd)
    omega
  have f2 : ((w.2.2.2.1.drop i).take k).filter (fun x => decide (x.1 = (P w.2.2.2.1 i).1)) = (w.2.2.2.1.drop i).take k := by
    rw [List.filter_eq_self]
    intro x hx
    obtain ⟨j, hj, rfl⟩ := List.getElem_of_mem hx
    rw [List.length_take, List.length_drop] at hj
    rw [List.getElem_take, List.getElem_drop, ← P_eq (by omega)]
    exact decide_eq_true (hg j (by omega)).m
  have f3 : ((w.2.2.2.1.drop i).drop k).filter (fun x => decide (x.1 = (P w.2.2.2.1 i).1)) = [] := by
    rw [List.filter_eq_nil_iff]
    intro x hx hd
    obtain ⟨j, hj, rfl⟩ := List.getElem_of_mem hx
    rw [List.length_drop, List.length_drop] at hj
    rw [List.getElem_drop, List.getElem_drop, ← P_eq (by omega)] at hd
    have := at_ (i + (k + j)) (by omega) (of_decide_eq_true hd)
    omega
  rw [f1, f2, f3]
  simp
theorem arr_known {w : GNetwork} (hn : isNw w = true) {m : Int} (ha : ArrAt w m) : (w.2.2.2.1.any fun x => decide (x.1 = m)) = true ∧ ∀ t, t < w.2.2.2.1.length → (P w.2.2.2.1 t).1 = m →
    (P w.2.2.2.1 t).2.2.2.1 = (P w.2.2.2.1 t).2.2.2.2.1 ∧ (P w.2.2.2.1 t).2.2.2.2.2.1 ≤ w.2.2.1 ∧ 0 ≤ (P w.2.2.2.1 t).2.1 ∧ (w.2.2.2.1.foldl (fire (fun x => decide (x.1 = m)) (fun x => x.2.2.2.1)) [])[(P w.2.2.2.1 t).2.1.toNat]? = some (P w.2.2.2.1 t).2.2.2.2.1 := by
  obtain ⟨i, k, hi, hik, k1, rfl, hk, hg, hc⟩ := ha
  have cs := conds hn
  refine ⟨List.any_eq_true.2 ⟨_, P_mem hi, decide_eq_true rfl⟩, fun t ht e => ?_⟩
  have hp0 := (hg 0 (by omega)).p
  rw [Nat.add_zero] at hp0
  have h1 := same_first cs ht hi e
  have h2 := (cs t ht).al.p
  have h3 := (cs t ht).q.2.2.1
  rw [show t - (P w.2.2.2.1 t).2.1.toNat = i by omega, hk] at h3
  obtain ⟨d, rfl⟩ : ∃ d, t = i + d := ⟨t - i, by omega⟩
  have hth := (cnt_all _ _ _ _).1 hc d (by omega)
  unfold there at hth
  simp only [Bool.and_eq_true, decide_eq_true_eq] at hth
  refine ⟨hth.1, hth.2, h2.1, ?_⟩
  rw [fire_eq, List.nil_append, group_filter hn hik k1 hk hg, show (P w.2.2.2.1 (i + d)).2.1.toNat = d by omega, List.getElem?_map, List.getElem?_take, if_pos (by omega), List.getElem?_drop, get_P (by omega)]
  simp only [Option.map_some]
  rw [hth.1]
theorem look_loop {σ ρ : Type} {n : Nat} (hn : n ≤ 1000000000) {f : σ → Option (σ ⊕ ρ)} (mk : Int → σ) {r : ρ} (step : ∀ i : Nat, i < n → f (mk (i : Int)) = some (.inl (mk (w64 ((i : Int) + 1))))) (fin : f (mk (n : Int)) = some (.inr r)) : loopE f (mk 0) = some r := by
  have : To (loopE f (mk 0)) (fun x => x = r) := by
    refine To.loop (fun k st => ∃ i : Nat, st = mk (i : Int) ∧ i + k = n) (n := n) ⟨0, rfl, by omega⟩ ?_
    rintro k st ⟨i, rfl, hi⟩
    by_cases h : i < n
    · rw [step i h]
      refine .ret (.on (k - 1) (by omega) ⟨i + 1, ?_, by omega⟩)
      rw [w64_of (by omega) (by omega)]; rfl
    · have : i = n := by omega
      subst this
      rw [fin]
      exact .ret (.end_ rfl)
  obtain ⟨x, e, rfl⟩ := this
  exact e
theorem big_eq (code more : List Int) : ∃ b, l_big code more = some b ∧ (b = false → code.length ≤ 1048576 ∧ more.length ≤ 1048576) := by
  unfold l_big
  by_cases h : 1048576 < (code.length : Int)
  · rw [dec_t h]; exact ⟨true, rfl, fun h => by cases h⟩
  · rw [dec_f h, w64_of (by omega) (by omega)]
    refine ⟨_, rfl, fun hb => ?_⟩
    have := of_decide_eq_false hb
    omega
theorem acted_pass (w : GNetwork) (m p t : Int) : acted w (2, m, p, t, 0, ()) = passed w (2, m, p, t, 0, ()) := by
  unfold acted
  simp
theorem bytes_of {l : List Int} (h : good (.slice (.int .u8)) l) : ∀ b ∈ l, 0 ≤ b ∧ b ≤ 255 := fun b hb => by
  have := h.2 b hb
  have h2 : wfI .u8 b := this
  simp [wfI, Lit.wf, IntKind.min, IntKind.max, IntKind.signed, IntKind.bits] at h2
  omega
theorem plain_Networks (code more : List Int) (hc : ∀ b ∈ code, 0 ≤ b ∧ b ≤ 255) (hm : ∀ b ∈ more, 0 ≤ b ∧ b ≤ 255) : l_FnNetworks code more = some true := by
  unfold l_FnNetworks
  obtain ⟨bg, eb, hb⟩ := big_eq code more
  rw [eb]
  simp only [Option.bind_some]
  cases bg with
  | true => rfl
  | false =>
  obtain ⟨hlc, hlm⟩ := hb rfl
  obtain ⟨w, d1, hw⟩ := t_allowed hc hlc
  obtain ⟨L, ok, s1, i1, rows, rfl, hL⟩ := allow_same hw.fine
  obtain ⟨t, one, s2, i2, nx, nx0⟩ := next_same hw.fine
  obtain ⟨A, b3, s3, i3, hAl, rfl, hA⟩ := arr_same hw.fine
  have hone : (bif one then some (!isNw w) else some false : Option Bool) = some false := by
    cases hn : isNw w with
    | true => cases one <;> rfl
    | false => rw [nx0 hn]; rfl
  have nb : ∀ b : Bool, (b != b) = false := fun b => by cases b <;> rfl
  simp only [cond_false, d1, i1, s1, i2, s2, i3, s3, Option.bind_some, i_isNw hw.fine, nb, sameLists_self rows, sameInts_self hAl, Bool.not_true, decide_true, hone]
  refine bind_eq (x := Sum.inl ()) ?_ ?_
  · cases hn : isNw w with
    | false => rfl
    | true =>
    have hL := hL hn
    have hA := hA hn
    have nx := nx hn
    have hall := rows.len
    obtain ⟨p1, p2, p3, p4, p5, p6⟩ := isNw_parts hn
    have cs := conds hn
    have ew : ((w.1.1, w.1.2.1, ()), w.2.1, w.2.2.1, w.2.2.2.1, ()) = w := rfl
    simp only [cond_true]
    refine bind_eq (x := Sum.inl (w.1.1, w.1.2.1, w.2.1, w.2.2.1, w.2.2.2.1, A)) ?_ ?_
    · refine look_loop (n := L.length) (by omega) (fun i => (w.1.1, w.1.2.1, w.2.1, w.2.2.1, w.2.2.2.1, A, i)) (fun i hi => ?_) (by simp)
      have hr := List.getElem_mem hi
      have hr2 : L[i] ∈ w.2.2.2.1.foldl (addAll w) [] := by rw [← hL]; exact hr
      obtain ⟨x, hx, j, hj, hcan, er⟩ := ((passes_mem _ _).1 hr2).resolve_left (by simp)
      have hpt := passed_can hn hx hcan
      obtain ⟨q1, q2⟩ := acted_ok hw hn (2, x.1, x.2.1, (j : Int), 0, ()) (by rw [acted_pass]; exact hpt)
      rw [acted_pass] at q1 q2
      have e0 : idx L[i] 0 = some x.1 := by rw [er]; rfl
      have e1 : idx L[i] 1 = some x.2.1 := by rw [er]; rfl
      have e2 : idx L[i] 2 = some (j : Int) := by rw [er]; rfl
      simp only [at_lt hi, cond_true, idx_get, List.getElem?_eq_getElem hi, Option.bind_some, e0, e1, e2, ew, (pass_eq hw x.1 x.2.1 (j : Int)).1, (pass_eq hw x.1 x.2.1 (j : Int)).2, hn, hpt, Bool.not_true, cond_false, pSame_self q2, i_isNw q2.fine, q1]
    simp only
    refine bind_eq (x := false) ?_ ?_
    · cases one with
      | false => rfl
      | true =>
        have h1 := nx.is_
        have h2 := nx.val rfl
        have h3 := of_decide_eq_true h1.symm
        obtain ⟨x, hx, j, hj, hp⟩ := nextV_at h3
        have := (pass_time hp).1
        simp only [cond_true]
        rw [dec_f (by omega)]
    simp only [cond_false]
    refine bind_eq (x := false) ?_ ?_
    · have hiff : (one = true ∧ t = w.2.2.1) ↔ 0 < L.length := by
        rw [hL, passes_some]
        constructor
        · rintro ⟨h1, h2⟩
          have h3 := nx.is_
          rw [h1] at h3
          obtain ⟨x, hx, j, hj, hp⟩ := nextV_at (of_decide_eq_true h3.symm)
          refine ⟨x, hx, j, hj, ?_⟩
          rw [hp]
          exact decide_eq_true (by rw [← nx.val h1]; exact h2)
        · rintro ⟨x, hx, j, hj, hcan⟩
          cases hp : pass w x (j : Int) with
          | none => rw [hp] at hcan; cases hcan
          | some u =>
            rw [hp] at hcan
            have hu : u = w.2.2.1 := of_decide_eq_true hcan
            have h1 := nextV_le hx hj hp
            have h2 : nextV w ≤ 10000 := by omega
            have h3 : one = true := by rw [nx.is_]; exact decide_eq_true h2
            refine ⟨h3, ?_⟩
            rw [nx.val h3]
            obtain ⟨x2, hx2, j2, hj2, hp2⟩ := nextV_at h2
            have := (pass_time hp2).1
            omega
      by_cases h0 : 0 < L.length
      · obtain ⟨h1, h2⟩ := hiff.2 h0
        rw [h1, dec_t (by omega : (0 : Int) < (L.length : Int))]
        simp only [cond_true, Option.bind_some, dec_t h2]
        rfl
      · rw [dec_f (by omega : ¬ (0 : Int) < (L.length : Int))]
        cases one with
        | false => rfl
        | true =>
          simp only [cond_true, Option.bind_some]
          rw [dec_f fun h => h0 (hiff.1 ⟨rfl, h⟩)]
          rfl
    simp only [cond_false]
    refine bind_eq (x := Sum.inl (w.1.1, w.1.2.1, w.2.1, w.2.2.1, w.2.2.2.1)) ?_ ?_
    · refine look_loop (n := A.length) (by omega) (fun i => (w.1.1, w.1.2.1, w.2.1, w.2.2.1, w.2.2.2.1, A, i)) (fun i hi => ?_) (by simp)
      obtain ⟨v, b, w1, w2, w3, w4, w5⟩ := s_where hw.fine A[i]
      obtain ⟨rfl, rfl⟩ := w4 hn
      obtain ⟨k1, k2⟩ := arr_known hn (hA A[i] (List.getElem_mem hi))
      simp only [at_lt hi, cond_true, dec_t (by omega : 0 ≤ (i : Int)), Bool.and_self, Int.toNat_natCast, List.getElem?_eq_getElem hi, Option.bind_some, ew, w1, w2, k1, Bool.not_true, cond_false, sameInts_self w3]
      refine bind_eq (x := Sum.inl (w.1.1, w.1.2.1, w.2.1, w.2.2.1, w.2.2.2.1, A)) ?_ rfl
      refine look_loop (n := w.2.2.2.1.length) (by omega) (fun j => (w.1.1, w.1.2.1, w.2.1, w.2.2.1, w.2.2.2.1, w.2.2.2.1.foldl (fire (fun x => decide (x.1 = A[i])) (fun x => x.2.2.2.1)) [], A, j)) (fun j hj => ?_) (by simp)
      simp only [at_lt hj, cond_true, idxP hj, Option.bind_some]
      by_cases hm : (P w.2.2.2.1 j).1 = A[i]
      · obtain ⟨g1, g2, g3, g4⟩ := k2 j hj hm
        have g5 : (P w.2.2.2.1 j).2.1 < ((w.2.2.2.1.foldl (fire (fun x => decide (x.1 = A[i])) (fun x => x.2.2.2.1)) []).length : Int) := by
          obtain ⟨h, _⟩ := List.getElem?_eq_some_iff.1 g4
          omega
        simp only [dec_t hm, cond_true, dec_t g1, Bool.not_true, cond_false, dec_f (by omega : ¬ w.2.2.1 < (P w.2.2.2.1 j).2.2.2.2.2.1), Option.bind_some, dec_t g3, dec_t g5, Bool.and_self, g4, decide_true]
      · simp only [dec_f hm, cond_false, Option.bind_some]
    simp only
    refine bind_eq (x := one && decide (w.2.2.1 < t)) (by cases one <;> rfl) ?_
    refine bind_eq (x := one && (decide (w.2.2.1 < t) && decide (w64 (t - w.2.2.1) ≤ 1000))) (by cases one <;> cases decide (w.2.2.1 < t) <;> rfl) ?_
    cases hq : (one && (decide (w.2.2.1 < t) && decide (w64 (t - w.2.2.1) ≤ 1000))) with
    | false => rfl
    | true =>
      simp only [Bool.and_eq_true, decide_eq_true_eq] at hq
      obtain ⟨q1, q2, q3⟩ := hq
      have h2 := nx.val q1
      have h3 := nx.is_
      rw [q1] at h3
      have h4 := of_decide_eq_true h3.symm
      obtain ⟨x, hx, j, hj, hp⟩ := nextV_at h4
      rw [w64_of (by omega) (by omega)] at q3 ⊢
      have hwt : waited w (t - w.2.2.1) = ((w.1, w.2.1, t, w.2.2.2), true) := by
        unfold waited inB
        rw [dec_t (by omega : 1 ≤ t - w.2.2.1), dec_t q3, dec_t (by omega : w.2.2.1 + (t - w.2.2.1) ≤ 10000), show w.2.2.1 + (t - w.2.2.1) = t by omega]
        rfl
      have hw2 : SmallW (w.1, w.2.1, t, w.2.2.2) := ⟨hw.n, hw.f, hw.p⟩
      have hn2 : isNw (w.1, w.2.1, t, w.2.2.2) = true := by
        have := (acted_ok hw hn (3, 0, 0, 0, t - w.2.2.1, ()) (by unfold acted; simp [hwt])).1
        unfold acted at this
        simpa [hwt] using this
      obtain ⟨L2, ok2, a1, a2, a3, rfl, a5⟩ := allow_same hw2.fine
      have hpos : 0 < L2.length := by
        rw [a5 hn2, passes_some]
        refine ⟨x, hx, j, hj, ?_⟩
        rw [h2] at *
        have := pass_then hn hp h4
        rw [this]
        exact decide_eq_true rfl
      simp only [cond_true, ew, (wait_eq hw (t - w.2.2.1)).2, hn, hwt, Option.bind_some, a2, hn2, Bool.not_true, cond_false, dec_f (by omega : ¬ (L2.length : Int) = 0)]
  · simp only
    obtain ⟨⟨u, m, p, tw⟩, d2, hu⟩ := t_passD hm hlm
    obtain ⟨⟨v, sec⟩, d3, hv⟩ := t_wait hm hlm
    simp only at hu hv
    rw [d2, d3]
    simp only [Option.bind_some, (pass_eq hu m p tw).1, (pass_eq hu m p tw).2, (wait_eq hv sec).1, (wait_eq hv sec).2]
    have sz1 : SmallW (bif isNw u then passed u (2, m, p, tw, 0, ()) else (zeroW, false)).1 := by
      cases isNw u with
      | true => exact passed_small hu _
      | false => exact zero_small
    have sz2 : SmallW (bif isNw v then waited v sec else (zeroW, false)).1 := by
      cases isNw v with
      | true => exact waited_small hv _
      | false => exact zero_small
    simp only [beq_self_eq_true, cond_true, pSame_self sz1, pSame_self sz2, Option.bind_some]
    refine bind_eq (x := true) ?_ rfl
    refine bind_eq (x := true) ?_ rfl
    cases hn : isNw v with
    | false => rfl
    | true =>
      simp only [cond_true]
      obtain ⟨p1, p2, p3, p4, p5, p6⟩ := isNw_parts hn
      unfold waited
      cases hb : (inB sec 1 1000 && decide (v.2.2.1 + sec ≤ 10000)) with
      | false => rfl
      | true =>
        simp only [inB, Bool.and_eq_true, decide_eq_true_eq] at hb
        simp only [cond_true, Bool.not_true, cond_false]
        rw [w64_of (by omega) (by omega)]
        simp
end Go.Proofs.Ytlalabdgkkfjpaa.Sh
