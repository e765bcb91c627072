/-
  The statement on acts: what the function of its law comes to.
-/
import Derived.Test.YtlalabdgkkfjpaaND6
namespace Go.Proofs.Ytlalabdgkkfjpaa.Sh
open Go Go.Ab Go.Proofs
set_option maxRecDepth 100000
noncomputable def ranW (w : GNetwork) (l : List GAct) : GNetwork × Int × Bool := bif isNw w && decide (l.length ≤ 100) then ranV w l else (zeroW, 0, false)
theorem run_eq {w : GNetwork} (hs : SmallW w) (l : List GAct) : s_RunActs w l = some (ranW w l) ∧ i_RunActs w l = some (ranW w l) := by
  unfold ranW
  cases hn : isNw w with
  | false =>
    unfold s_RunActs i_RunActs
    rw [s_isNw hs.fine, i_isNw hs.fine, hn]
    exact ⟨rfl, rfl⟩
  | true =>
    by_cases hl : l.length ≤ 100
    · rw [s_runs hs hn hl, i_runs hs hn hl, dec_t hl]
      exact ⟨rfl, rfl⟩
    · unfold s_RunActs i_RunActs
      rw [s_isNw hs.fine, i_isNw hs.fine, hn, dec_f hl]
      simp only [Option.bind_some, Bool.not_true, cond_false, dec_t (by omega : 100 < (l.length : Int)), cond_true]
      exact ⟨rfl, rfl⟩
def okAll : GNetwork → List GAct → Prop
  | _, [] => True
  | w, x :: l => (acted w x).2 = true ∧ okAll (acted w x).1 l
noncomputable def after : GNetwork → List GAct → GNetwork
  | w, [] => w
  | w, x :: l => after (acted w x).1 l
theorem okAll_app : ∀ (p q : List GAct) (w : GNetwork), okAll w (p ++ q) ↔ okAll w p ∧ okAll (after w p) q
  | [], q, w => by simp [okAll, after]
  | x :: p, q, w => by
    simp only [List.cons_append, okAll, after, okAll_app p q, and_assoc]
theorem after_app : ∀ (p q : List GAct) (w : GNetwork), after w (p ++ q) = after (after w p) q
  | [], _, _ => rfl
  | x :: p, q, w => after_app p q _
theorem runs_ok : ∀ (p : List GAct) (w : GNetwork) (n : Int), okAll w p → runs w p n = (after w p, n + (p.length : Int))
  | [], w, n, _ => by simp [runs, after]
  | x :: p, w, n, h => by
    unfold runs
    rw [h.1]
    simp only [cond_true]
    rw [runs_ok p _ _ h.2]
    simp only [after, List.length_cons]
    congr 1
    omega
theorem runs_is : ∀ (l : List GAct) (w : GNetwork) (n : Int), ∃ d, d ≤ l.length ∧ okAll w (l.take d) ∧ runs w l n = (after w (l.take d), n + (d : Int))
  | [], w, n => ⟨0, Nat.le_refl _, trivial, by simp [runs, after]⟩
  | x :: l, w, n => by
    unfold runs
    cases h : (acted w x).2 with
    | false => exact ⟨0, Nat.zero_le _, trivial, by simp [after]⟩
    | true =>
      obtain ⟨d, h1, h2, h3⟩ := runs_is l (acted w x).1 (n + 1)
      refine ⟨d + 1, by simpa using h1, ⟨h, h2⟩, ?_⟩
      simp only [cond_true]
      rw [h3]
      simp only [List.take_succ_cons, after]
      congr 1
      omega
theorem after_ok : ∀ (p : List GAct) (w : GNetwork), SmallW w → isNw w = true → okAll w p → isNw (after w p) = true ∧ SmallW (after w p)
  | [], _, hw, hn, _ => ⟨hn, hw⟩
  | x :: p, w, hw, hn, h => by
    obtain ⟨h1, h2⟩ := acted_ok hw hn x h.1
    exact after_ok p _ h2 h1 h.2
def keyOf (x : GParcel) : Int × Int := (x.1, x.2.1)
def keys (l : List GParcel) : List (Int × Int) := l.map keyOf
theorem keys_set {ps : List GParcel} {i : Nat} (hi : i < ps.length) {y : GParcel} (h : keyOf y = keyOf (P ps i)) : keys (ps.set i y) = keys ps := by
  unfold keys
  rw [List.map_set, h, P_eq hi]
  refine List.ext_getElem? fun j => ?_
  rw [List.getElem?_set]
  split
  · rename_i e; subst e; simp [hi]
  · rfl
theorem acted_keys {w : GNetwork} (hn : isNw w = true) (x : GAct) (h : (acted w x).2 = true) : (keys w.2.2.2.1).Sublist (keys (acted w x).1.2.2.2.1) := by
  obtain ⟨q1, q2, q3, q4, q5, q6⟩ := isNw_parts hn
  unfold acted at h ⊢
  by_cases h1 : x.1 = 1
  · rw [dec_t h1] at h ⊢
    simp only [cond_true] at h ⊢
    unfold accepted at h ⊢
    cases ho : okAcc w x.2.1 x.2.2.1 x.2.2.2.1 x.2.2.2.2.1 with
    | false => rw [ho] at h; cases h
    | true =>
      simp only [cond_true]
      unfold accW placed keys
      simp only [List.map_append]
      conv => lhs; rw [← List.take_append_drop (spot x.2.1 w.2.2.2.1) w.2.2.2.1]
      rw [List.map_append]
      exact List.Sublist.append (List.sublist_append_left _ _) (List.Sublist.refl _)
  rw [dec_f h1] at h ⊢
  by_cases h2 : x.1 = 2
  · rw [dec_t h2] at h ⊢
    simp only [cond_true, cond_false] at h ⊢
    unfold passed at h ⊢
    split at h
    · cases h
    · rename_i i hf
      have hi := firstAt_lt _ _ _ hf
      rw [Nat.zero_add] at hi
      split at h
      · cases h
      · rename_i k hl
        cases hcan : canV w.2.2.1 (pass w (P w.2.2.2.1 i) x.2.2.2.1) with
        | false => rw [hcan] at h; cases h
        | true =>
          simp only [cond_true]
          rw [keys_set hi (by rfl)]
          exact List.Sublist.refl _
  rw [dec_f h2] at h ⊢
  by_cases h3 : x.1 = 3
  · rw [dec_t h3] at h ⊢
    simp only [cond_true, cond_false] at h ⊢
    unfold waited at h ⊢
    cases hb : (inB x.2.2.2.2.1 1 1000 && decide (w.2.2.1 + x.2.2.2.2.1 ≤ 10000)) with
    | false => rw [hb] at h; cases h
    | true => exact List.Sublist.refl _
  · rw [dec_f h3] at h; cases h
theorem after_keys : ∀ (p : List GAct) (w : GNetwork), SmallW w → isNw w = true → okAll w p → (keys w.2.2.2.1).Sublist (keys (after w p).2.2.2.1)
  | [], _, _, _, _ => List.Sublist.refl _
  | x :: p, w, hw, hn, h => by
    obtain ⟨h1, h2⟩ := acted_ok hw hn x h.1
    exact (acted_keys hn x h.1).trans (after_keys p _ h2 h1 h.2)
theorem drop_keys {ps : List GParcel} {i : Nat} (h : i < ps.length) : keys (ps.drop i) = keyOf (P ps i) :: keys (ps.drop (i + 1)) := by
  rw [List.drop_eq_getElem_cons h, P_eq h]
  rfl
theorem drop_none {ps : List GParcel} {i : Nat} (h : ps.length ≤ i) : keys (ps.drop i) = [] := by rw [List.drop_eq_nil_of_le h]; rfl
theorem acc_where {w : GNetwork} {m a b k : Int} (ho : okAcc w m a b k = true) : ((accepted w m a b k).1.2.2.2.1.filter fun x => decide (x.1 = m)).map (fun x : GParcel => x.2.2.2.1) = List.replicate k.toNat a ∧ ((accepted w m a b k).1.2.2.2.1.any fun x => decide (x.1 = m)) = true ∧ 1 ≤ k ∧ k ≤ 9 := by
  have ho2 := ho
  unfold okAcc at ho2
  simp only [Bool.and_eq_true, Bool.not_eq_true', inB, decide_eq_true_eq] at ho2
  have hno := ho2.2.2.2.2.1
  have hk := ho2.2.2.2.1
  have none_ : ∀ l : List GParcel, (∀ x ∈ l, x ∈ w.2.2.2.1) → l.filter (fun x => decide (x.1 = m)) = [] := fun l hl => by
    rw [List.filter_eq_nil_iff]
    intro x hx hd
    have := List.any_eq_false.1 hno x (hl x hx)
    exact this hd
  have hN : ∀ x ∈ news m k a b w.2.2.1 k.toNat, x.1 = m ∧ x.2.2.2.1 = a := fun x hx => by
    unfold news at hx
    obtain ⟨d, _, rfl⟩ := List.mem_map.1 hx
    exact ⟨rfl, rfl⟩
  have hNl := news_len m k a b w.2.2.1 k.toNat
  unfold accepted
  rw [ho]
  simp only [cond_true, accW, placed]
  refine ⟨?_, ?_, hk⟩
  · rw [List.filter_append, List.filter_append, none_ _ (fun x hx => List.mem_of_mem_take hx), none_ _ (fun x hx => List.mem_of_mem_drop hx), List.filter_eq_self.2 fun x hx => decide_eq_true (hN x hx).1, List.nil_append, List.append_nil]
    rw [List.eq_replicate_iff]
    refine ⟨by rw [List.length_map, hNl], fun y hy => ?_⟩
    obtain ⟨x, hx, rfl⟩ := List.mem_map.1 hy
    exact (hN x hx).2
  · rw [List.any_eq_true]
    have hne : 0 < (news m k a b w.2.2.1 k.toNat).length := by omega
    exact ⟨(news m k a b w.2.2.1 k.toNat)[0], by simp, decide_eq_true (hN _ (List.getElem_mem hne)).1⟩
theorem acted_acc (w : GNetwork) (m a b k : Int) : acted w (1, m, a, b, k, ()) = accepted w m a b k := by
  unfold acted
  simp
theorem plain_Acts (code more : List Int) (hc : ∀ b ∈ code, 0 ≤ b ∧ b ≤ 255) (hm : ∀ b ∈ more, 0 ≤ b ∧ b ≤ 255) : l_FnActs code more = some true := by
  unfold l_FnActs
  obtain ⟨bg, eb, hb⟩ := big_eq code more
  rw [eb]
  simp only [Option.bind_some]
  cases bg with
  | true => rfl
  | false =>
  obtain ⟨hlc, hlm⟩ := hb rfl
  obtain ⟨⟨w, l⟩, d1, hw, hl⟩ := t_runD hc hlc
  simp only at hw hl
  have nb : ∀ b : Bool, (b != b) = false := fun b => by cases b <;> rfl
  have szr : SmallW (ranW w l).1 := by
    unfold ranW
    cases hq : (isNw w && decide (l.length ≤ 100)) with
    | false => exact zero_small
    | true =>
      rw [Bool.and_eq_true] at hq
      exact runs_small l w 0 hw hq.1
  simp only [cond_false, d1, Option.bind_some, (run_eq hw l).1, (run_eq hw l).2, nb, pSame_self szr, Bool.not_true, decide_true]
  refine bind_eq (x := Sum.inl ()) ?_ ?_
  · cases hq : (isNw w && decide (l.length ≤ 100)) with
    | false =>
      have e : ranW w l = (zeroW, 0, false) := by unfold ranW; rw [hq]; rfl
      rw [e]
      rfl
    | true =>
      have e : ranW w l = ranV w l := by unfold ranW; rw [hq]; rfl
      rw [Bool.and_eq_true] at hq
      obtain ⟨hn, h100⟩ := hq
      have h100 := of_decide_eq_true h100
      obtain ⟨d, hd, hok, er⟩ := runs_is l w 0
      have e2 : ranW w l = (after w (l.take d), (d : Int), true) := by rw [e]; unfold ranV; rw [er, Int.zero_add]
      rw [e2] at szr ⊢
      simp only at szr
      have hh : d / 2 ≤ d := Nat.div_le_self _ _
      have et : w64 (Int.tdiv (d : Int) 2) = ((d / 2 : Nat) : Int) := by
        rw [Int.tdiv_eq_ediv_of_nonneg (by omega), w64_of (by omega) (by omega)]; omega
      have s1 : sub l 0 ((d / 2 : Nat) : Int) = some (l.take (d / 2)) := by
        unfold sub
        rw [if_pos (by omega), Int.toNat_natCast]
        rfl
      have s2 : sub l ((d / 2 : Nat) : Int) (d : Int) = some ((l.take d).drop (d / 2)) := by
        unfold sub
        rw [if_pos (by omega), Int.toNat_natCast, Int.toNat_natCast]
      have ecut : l.take d = l.take (d / 2) ++ (l.take d).drop (d / 2) := by
        conv => lhs; rw [← List.take_append_drop (d / 2) (l.take d)]
        rw [List.take_take, Nat.min_eq_left hh]
      have hok2 := hok
      rw [ecut, okAll_app] at hok2
      obtain ⟨o1, o2⟩ := hok2
      obtain ⟨n1, z1⟩ := after_ok _ _ hw hn o1
      obtain ⟨n2, z2⟩ := after_ok _ _ hw hn hok
      have r1 : ranW w (l.take (d / 2)) = (after w (l.take (d / 2)), ((d / 2 : Nat) : Int), true) := by
        unfold ranW
        rw [hn, dec_t (by rw [List.length_take]; omega)]
        simp only [Bool.and_self, cond_true]
        unfold ranV
        rw [runs_ok _ _ _ o1, List.length_take, Nat.min_eq_left (by omega), Int.zero_add]
      have r2 : ranW (after w (l.take (d / 2))) ((l.take d).drop (d / 2)) = (after w (l.take d), ((d - d / 2 : Nat) : Int), true) := by
        unfold ranW
        rw [n1, dec_t (by rw [List.length_drop, List.length_take]; omega)]
        simp only [Bool.and_self, cond_true]
        unfold ranV
        rw [runs_ok _ _ _ o2, ← after_app, ← ecut, List.length_drop, List.length_take, Nat.min_eq_left hd, Int.zero_add]
      have hks := after_keys _ _ hw hn hok
      have hlen : w.2.2.2.1.length ≤ (after w (l.take d)).2.2.2.1.length := by simpa [keys] using hks.length_le
      have h40 := (isNw_parts n2).2.2.2.2.1
      simp only [cond_true, et, s1, s2, Option.bind_some, (run_eq hw (l.take (d / 2))).2, r1, (run_eq z1 ((l.take d).drop (d / 2))).2, r2, i_isNw z2.fine, n2, Bool.not_true, cond_false, decide_true, pSame_self szr, dec_f (by omega : ¬ ((after w (l.take d)).2.2.2.1.length : Int) < (w.2.2.2.1.length : Int))]
      rw [w64_of (x := (d : Int) - ((d / 2 : Nat) : Int)) (by omega) (by omega), dec_t (by omega : ((d - d / 2 : Nat) : Int) = (d : Int) - ((d / 2 : Nat) : Int))]
      simp only [Bool.not_true, cond_false, Option.bind_some]
      generalize (after w (l.take d)).2.2.2.1 = E at *
      have hloop : To (loopE (fun (st21 : (List GLink) × (List GLink) × (List GLink) × Int × (List GParcel) × Int × (List GParcel) × Int) => (
                  bif (decide (st21.2.2.2.2.2.2.2 < (E.length : Int))) then
                    bif decide (0 ≤ st21.2.2.2.2.2.2.2) && decide (st21.2.2.2.2.2.2.2 < (st21.2.2.2.2.2.2.1.length : Int)) then
                      (st21.2.2.2.2.2.2.1[(Int.toNat st21.2.2.2.2.2.2.2)]?).bind fun e22 =>
                      (bif (decide (st21.2.2.2.2.2.1 < (st21.2.2.2.2.1.length : Int))) then
                          (idx st21.2.2.2.2.1 st21.2.2.2.2.2.1).bind fun e23 =>
                          some (decide (e23.1 = e22.1))
                        else
                          some false).bind fun c24 =>
                      (bif c24 then
                          (idx st21.2.2.2.2.1 st21.2.2.2.2.2.1).bind fun e25 =>
                          some (decide (e25.2.1 = e22.2.1))
                        else
                          some false).bind fun c26 =>
                      bif c26 then
                        some (.inl (st21.1, st21.2.1, st21.2.2.1, st21.2.2.2.1, st21.2.2.2.2.1, (w64 (st21.2.2.2.2.2.1 + 1)), st21.2.2.2.2.2.2.1, (w64 (st21.2.2.2.2.2.2.2 + 1))))
                      else
                        some (.inl (st21.1, st21.2.1, st21.2.2.1, st21.2.2.2.1, st21.2.2.2.2.1, st21.2.2.2.2.2.1, st21.2.2.2.2.2.2.1, (w64 (st21.2.2.2.2.2.2.2 + 1))))
                    else
                      none
                  else
                    some (.inr (st21.1, st21.2.1, st21.2.2.1, st21.2.2.2.1, st21.2.2.2.2.1, st21.2.2.2.2.2.1)) : Option (((List GLink) × (List GLink) × (List GLink) × Int × (List GParcel) × Int × (List GParcel) × Int) ⊕ (((List GLink) × (List GLink) × (List GLink) × Int × (List GParcel) × Int))))) (w.1.1, w.1.2.1, w.2.1, w.2.2.1, w.2.2.2.1, 0, E, 0)) (fun o => o.2.2.2.2.2 = (o.2.2.2.2.1.length : Int)) := by
        refine To.loop (fun k st => ∃ i t : Nat, st = (w.1.1, w.1.2.1, w.2.1, w.2.2.1, w.2.2.2.1, (i : Int), E, (t : Int)) ∧ t + k = E.length ∧ i ≤ w.2.2.2.1.length ∧ (keys (w.2.2.2.1.drop i)).Sublist (keys (E.drop t))) (n := E.length) ⟨0, 0, rfl, by omega, by omega, by simpa using hks⟩ ?_
        rintro k st ⟨i, t, rfl, ht, hi, hsub⟩
        refine To.ite (fun hlt => ?_) (fun hge => .ret (.end_ ?_))
        · simp only at hlt
          have htl : t < E.length := by omega
          refine To.guard2 (by simp only; omega) (by simp only; omega) ?_
          simp only [Int.toNat_natCast]
          rw [get_P htl]
          simp only [Option.bind_some]
          rw [drop_keys htl] at hsub
          have e1 : w64 ((t : Int) + 1) = ((t + 1 : Nat) : Int) := by rw [w64_of (by omega) (by omega)]; rfl
          by_cases hil : i < w.2.2.2.1.length
          · have e2 : w64 ((i : Int) + 1) = ((i + 1 : Nat) : Int) := by rw [w64_of (by omega) (by omega)]; rfl
            rw [drop_keys hil] at hsub
            simp only [dec_t (by omega : (i : Int) < (w.2.2.2.1.length : Int)), cond_true, idxP hil, Option.bind_some, e1, e2]
            by_cases hk1 : (P w.2.2.2.1 i).1 = (P E t).1
            · rw [dec_t hk1]
              simp only [cond_true, Option.bind_some]
              by_cases hk2 : (P w.2.2.2.1 i).2.1 = (P E t).2.1
              · rw [dec_t hk2]
                have ek : keyOf (P w.2.2.2.1 i) = keyOf (P E t) := by unfold keyOf; rw [hk1, hk2]
                rw [ek, List.cons_sublist_cons] at hsub
                exact .ret (.on (k - 1) (by omega) ⟨i + 1, t + 1, rfl, by omega, by omega, hsub⟩)
              · rw [dec_f hk2]
                have ek : keyOf (P w.2.2.2.1 i) ≠ keyOf (P E t) := fun h => hk2 (congrArg (fun q : Int × Int => q.2) h)
                refine .ret (.on (k - 1) (by omega) ⟨i, t + 1, rfl, by omega, hi, ?_⟩)
                rw [drop_keys hil]
                rcases List.sublist_cons_iff.1 hsub with h | ⟨r, h, _⟩
                · exact h
                · exact absurd (List.cons.inj h).1 ek
            · rw [dec_f hk1]
              simp only [cond_false, Option.bind_some]
              have ek : keyOf (P w.2.2.2.1 i) ≠ keyOf (P E t) := fun h => hk1 (congrArg (fun q : Int × Int => q.1) h)
              refine .ret (.on (k - 1) (by omega) ⟨i, t + 1, rfl, by omega, hi, ?_⟩)
              rw [drop_keys hil]
              rcases List.sublist_cons_iff.1 hsub with h | ⟨r, h, _⟩
              · exact h
              · exact absurd (List.cons.inj h).1 ek
          · simp only [dec_f (by omega : ¬ (i : Int) < (w.2.2.2.1.length : Int)), cond_false, Option.bind_some, e1]
            refine .ret (.on (k - 1) (by omega) ⟨i, t + 1, rfl, by omega, hi, ?_⟩)
            rw [drop_none (by omega)]
            exact List.nil_sublist _
        · simp only at hge ⊢
          rw [drop_none (by omega : E.length ≤ t)] at hsub
          have := hsub.length_le
          simp only [keys, List.length_map, List.length_drop, List.length_nil] at this
          omega
      obtain ⟨o, eo, ho⟩ := hloop
      refine bind_eq eo ?_
      rw [dec_t ho]
      rfl
  · simp only
    obtain ⟨⟨u, m, a, b, k⟩, d2, hu⟩ := t_acceptD hm hlm
    obtain ⟨⟨n2, f2⟩, d3, hN, hF⟩ := t_newD hm hlm
    obtain ⟨⟨v, number⟩, d4, hv⟩ := t_whereD hm hlm
    simp only at hu hN hF hv
    have sz1 : SmallW (bif isNw u then accepted u m a b k else (zeroW, false)).1 := by
      cases hn : isNw u with
      | true => exact acc_small hu hn _ _ _ _
      | false => exact zero_small
    rw [d2]
    simp only [Option.bind_some, (acc_eq hu m a b k).1, (acc_eq hu m a b k).2, nb, pSame_self sz1, Bool.not_true, cond_false]
    refine bind_eq (x := Sum.inl ()) ?_ ?_
    · cases hn : isNw u with
      | false => rfl
      | true =>
        simp only [cond_true]
        cases ho : okAcc u m a b k with
        | false =>
          have e : accepted u m a b k = (zeroW, false) := by unfold accepted; rw [ho]; rfl
          rw [e]
          rfl
        | true =>
          have e : (accepted u m a b k).2 = true := by unfold accepted; rw [ho]; rfl
          obtain ⟨g1, g2⟩ := acted_ok hu hn (1, m, a, b, k, ()) (by rw [acted_acc]; exact e)
          rw [acted_acc] at g1 g2
          obtain ⟨x1, x2, x3, x4⟩ := acc_where ho
          obtain ⟨y, c, w1, w2, w3, w4, _⟩ := s_where g2.fine m
          obtain ⟨y1, rfl⟩ := w4 g1
          rw [fire_eq, List.nil_append, x1] at y1
          subst y1
          simp only [e, cond_true, w1, w2, x2, Option.bind_some, Bool.not_true, cond_false, sameInts_self w3, List.length_replicate, dec_t (by omega : ((k.toNat : Nat) : Int) = k), i_isNw g2.fine, g1]
          refine bind_eq (x := Sum.inl ()) ?_ rfl
          refine look_loop (n := k.toNat) (by omega) (fun i => (List.replicate k.toNat a, i)) (fun i hi => ?_) (by simp)
          have hr : (i : Int) < ((List.replicate k.toNat a).length : Int) := by rw [List.length_replicate]; omega
          have hg : (List.replicate k.toNat a)[i]? = some a := by rw [List.getElem?_replicate, if_pos hi]
          simp only [at_lt hi, cond_true, dec_t (by omega : 0 ≤ (i : Int)), dec_t hr, Bool.and_self, Int.toNat_natCast, hg, Option.bind_some, decide_true, Bool.not_true, cond_false]
    · simp only
      obtain ⟨z, c, w1, w2, w3, _, _⟩ := s_where hv.fine number
      have sz2 : SmallW (bif isNet n2 && areFogs n2.2.1.length f2 then ((n2, f2, 0, [], ()), true) else (zeroW, false)).1 := by
        cases (isNet n2 && areFogs n2.2.1.length f2) with
        | true => exact ⟨hN, hF, by simp⟩
        | false => exact zero_small
      rw [d3, d4]
      simp only [Option.bind_some, (new_same hN hF).1, (new_same hN hF).2, w1, w2, beq_self_eq_true, cond_true, pSame_self sz2, sameInts_self w3]
end Go.Proofs.Ytlalabdgkkfjpaa.Sh
