/-
  Books dealt anew: the program's is the specification's.
-/
import Derived.Test.YtlhplhjibadplaaSD2
namespace Go.Proofs.Ytlhplhjibadplaa.Sh.D
open Go Go.Ab

theorem sig_len {b : GBook} (hb : Q.isBook b = true) : ∀ x ∈ b.1, 1 ≤ x.2.1.length ∧ x.2.1.length ≤ 3 := by
  simp only [Q.isBook, Bool.and_eq_true, List.all_eq_true, Q.inB, decide_eq_true_eq] at hb
  intro x hx
  obtain ⟨i, hi, rfl⟩ := List.getElem_of_mem hx
  have := hb.1 i (List.mem_range.2 hi)
  have e : b.1[i]? = some b.1[i] := by simp [hi]
  simp only [Q.goodAt, e, Bool.and_eq_true, Q.isSignals, Q.inB, decide_eq_true_eq, List.all_eq_true] at this
  have h2 := this.1.1.2
  omega
def asked (b : GBook) (w : List Int) : Bool := Q.isBook b && (decide (w.length = b.1.length) && w.all fun x => Q.inB x 0 10000)
theorem len_dec (w : List Int) (b : GBook) : decide ((w.length : Int) = (b.1.length : Int)) = decide (w.length = b.1.length) := by
  by_cases h : w.length = b.1.length
  · rw [dec_t h, dec_t (by omega)]
  · rw [dec_f h, dec_f (by omega)]
theorem asked_s {b : GBook} (hb : Q.Fine b) {w : List Int} (hw : w.length ≤ maxLen) : s_msAsked b w = some (asked b w) := by
  unfold s_msAsked asked
  rw [Q.s_good hb]
  simp only [Option.bind_some, Q.s_all hw, len_dec]
  cases Q.isBook b <;> cases decide (w.length = b.1.length) <;> rfl
theorem weights_i {b : GBook} {w : List Int} (hw : w.length ≤ maxLen) : i_areBookWeights b w = some (decide (w.length = b.1.length) && w.all fun x => Q.inB x 0 10000) := by
  unfold i_areBookWeights
  simp only [Q.i_all hw, Option.bind_some, len_dec]
  cases decide (w.length = b.1.length) <;> rfl

theorem clone_small {l : List Int} (h : l.length ≤ 1000) : slices_Clone_int l = some l := by
  unfold slices_Clone_int
  have hl : decide (List.length l ≤ lim) = true := by unfold lim; exact dec_t (by omega)
  have hl2 : decide (List.length ([] : List Int) + List.length l ≤ lim) = true := by unfold lim; exact dec_t (by simp; omega)
  simp only [hl, hl2]
  cases l <;> simp [bothSame]

theorem bkOwn_eq {l : List GPhrase} (h : l.length ≤ 100) (ha : ∀ x ∈ l, x.2.1.length ≤ 100) : s_bkOwn l = some l := by
  unfold s_bkOwn
  obtain ⟨y, h1, h2⟩ := one_loop (n := l.length) (fun i (st : (List GPhrase) × Int) => st = (l.take i, (i : Int))) (fun z => z = l) (f := (fun (st2 : (List GPhrase) × Int) => (
      bif (decide (st2.2 < (l.length : Int))) then
        (idx l st2.2).bind fun e3 =>
        (s_l1Own e3.2.1).bind fun r4 =>
        bif decide (List.length st2.1 + List.length [(e3.1, r4, ())] ≤ lim) then
          some (.inl ((st2.1 ++ [(e3.1, r4, ())]), (w64 (st2.2 + 1))))
        else
          none
      else
        some (.inr st2.1) : Option (((List GPhrase) × Int) ⊕ ((List GPhrase))))))
    (fun i st hi e => by
      subst e
      left
      have hx : idx l (i : Int) = some (l[i]'hi) := by rw [idx_get]; simp [hi]
      have hl2 : decide (List.length (l.take i) + List.length [((l[i]'hi).1, (l[i]'hi).2.1, ())] ≤ lim) = true := by unfold lim; exact dec_t (by simp; omega)
      simp only [dec_t (show (i : Int) < (l.length : Int) by omega), cond_true, hx, Option.bind_some, own_small (l := (l[i]'hi).2.1) (by have := ha _ (List.getElem_mem hi); omega), hl2]
      rw [w64_of (by omega) (by omega)]
      exact ⟨_, rfl, by rw [List.take_succ_eq_append_getElem hi]; rfl⟩)
    (fun st e => by
      subst e
      exact ⟨_, by simp only [dec_f (Int.lt_irrefl (l.length : Int)), cond_false], List.take_length⟩) l.length 0 ([], 0) (by omega) rfl
  rw [h1, h2]
  rfl

theorem cloneBook_eq {b : GBook} (h : b.1.length ≤ 100) (ha : ∀ x ∈ b.1, x.2.1.length ≤ 100) : i_cloneBook b = some b := by
  have hlim : lim = 4294967296 := rfl
  unfold i_cloneBook
  rw [dec_t (show (0 : Int) ≤ (b.1.length : Int) by omega), dec_t (Int.le_refl _), dec_t (show (b.1.length : Int) ≤ (lim : Int) by omega)]
  simp only [Bool.and_self, cond_true]
  rw [for_loop (a := b.1) (fun (out : List GPhrase) (i : Int) => (([] : List GPhrase), out, i)) (fun (out : List GPhrase) i x => if i < out.length then some (.inl (out.set i x)) else none) (fun out => ([], out)) (List.replicate b.1.length ([], ([], ()))) ?_ ?_ ?_]
  · have : ∀ (r : List GPhrase) (pre suf : List GPhrase), suf.length = r.length → forRes (ρ := List GPhrase × List GPhrase) (fun (out : List GPhrase) i x => if i < out.length then some (.inl (out.set i x)) else none) (fun out => ([], out)) (pre ++ suf) pre.length r = some ([], pre ++ r) := by
      intro r
      induction r with
      | nil => intro pre suf h; rw [List.eq_nil_of_length_eq_zero h]; rfl
      | cons x r ih =>
        intro pre suf h
        cases suf with
        | nil => cases h
        | cons y suf =>
          simp only [forRes]
          rw [if_pos (by simp)]
          simp only [Option.bind_some]
          have e : (pre ++ y :: suf).set pre.length x = pre ++ [x] ++ suf := by rw [List.set_append_right _ _ (Nat.le_refl _)]; simp
          have := ih (pre ++ [x]) suf (by simpa using h)
          simp only [List.length_append, List.length_cons, List.length_nil, Nat.zero_add] at this
          rw [e, this]
          simp
    have t := this b.1 [] (List.replicate b.1.length ([], ([], ()))) (by simp)
    simp only [List.nil_append, List.length_nil] at t
    rw [t]
    rfl
  · rfl
  · intro out i x hi hx
    simp only [dec_t (show (i : Int) < (b.1.length : Int) by omega), cond_true, idx_get, hx, Option.bind_some, clone_small (l := x.2.1) (by have := ha x (List.mem_of_getElem? hx); omega), w64_of (x := (i : Int) + 1) (by omega) (by omega)]
    by_cases h2 : i < out.length
    · rw [if_pos h2, show (decide (0 ≤ (i : Int)) && decide ((i : Int) < (out.length : Int))) = true by simp; omega]
      rfl
    · rw [if_neg h2, show (decide (0 ≤ (i : Int)) && decide ((i : Int) < (out.length : Int))) = false by simp; omega]
      rfl
  · intro out
    simp only [dec_f (Int.lt_irrefl (b.1.length : Int)), cond_false]

/-- the lists are given anew -/
def dealt (b : GBook) (o : List Int) : List Int → List GPhrase → Nat → List GPhrase
  | [], ph, _ => ph
  | c :: cs, ph, i => dealt b o cs (match idx o (i : Int), idx ph c with
    | some n, some p => (match idx b.1 n with
      | some q => ph.set c.toNat (p.1, q.2.1, ())
      | none => ph)
    | _, _ => ph) (i + 1)

theorem deal_loop {b : GBook} {o cm : List Int} {own : List Int → Option (List Int)} (hown : ∀ l, l.length ≤ 1000 → own l = some l) (hs : ∀ x ∈ b.1, x.2.1.length ≤ 100) (ho : ∀ x ∈ o, 0 ≤ x ∧ x < (b.1.length : Int)) (hc : ∀ x ∈ cm, 0 ≤ x ∧ x < (b.1.length : Int)) (hl : o.length = cm.length) (hn : cm.length ≤ 1000)
    (f : (List GPhrase) × (List Int) × (List GPhrase) × (List Int) × Int → Option (((List GPhrase) × (List Int) × (List GPhrase) × (List Int) × Int) ⊕ (((List GPhrase) × (List GPhrase)))))
    (hf : ∀ st, f st = bif (decide (st.2.2.2.2 < (cm.length : Int))) then
          bif decide (0 ≤ st.2.2.2.2) && decide (st.2.2.2.2 < (st.2.2.2.1.length : Int)) then
            (st.2.2.2.1[(Int.toNat st.2.2.2.2)]?).bind fun e11 =>
            bif decide (0 ≤ st.2.2.2.2) && decide (st.2.2.2.2 < (st.2.1.length : Int)) then
              (st.2.1[(Int.toNat st.2.2.2.2)]?).bind fun e12 =>
              (idx b.1 e12).bind fun e13 =>
              (own e13.2.1).bind fun r14 =>
              bif decide (0 ≤ e11) && decide (e11 < (st.2.2.1.length : Int)) then
                (st.2.2.1[(Int.toNat e11)]?).bind fun e15 =>
                some (.inl (st.1, st.2.1, (st.2.2.1.set (Int.toNat e11) (e15.1, r14, ())), st.2.2.2.1, (w64 (st.2.2.2.2 + 1))))
              else
                none
            else
              none
          else
            none
        else
          some (.inr (st.1, st.2.2.1))) : ∀ (suf pre : List Int) (ph : List GPhrase), cm = pre ++ suf → ph.length = b.1.length → loopE f ([], o, ph, cm, (pre.length : Int)) = some ([], dealt b o suf ph pre.length)
  | [], pre, ph, e, _ => by
    rw [List.append_nil] at e
    refine loopE_done ?_
    rw [hf, e]
    simp only [dec_f (Int.lt_irrefl (pre.length : Int)), cond_false]
    rfl
  | c :: suf, pre, ph, e, hp => by
    have hlen : cm.length = pre.length + (suf.length + 1) := by rw [e]; simp
    have hi : pre.length < o.length := by omega
    have r1 := hc c (by rw [e]; simp)
    have r2 := ho _ (List.getElem_mem hi)
    have hx : cm[pre.length]? = some c := by rw [e]; simp
    have hy : o[pre.length]? = some (o[pre.length]'hi) := by simp [hi]
    obtain ⟨m, hm⟩ : ∃ m : Nat, c = (m : Int) := ⟨c.toNat, by omega⟩
    obtain ⟨n, hn'⟩ : ∃ n : Nat, o[pre.length]'hi = (n : Int) := ⟨(o[pre.length]'hi).toNat, by omega⟩
    have hnb : n < b.1.length := by omega
    have hmp : m < ph.length := by omega
    have hz : idx b.1 (n : Int) = some (b.1[n]'hnb) := by rw [idx_get]; simp [hnb]
    have hq : ph[m]? = some (ph[m]'hmp) := by simp [hmp]
    have hq' : idx ph (m : Int) = some (ph[m]'hmp) := by rw [idx_get]; exact hq
    have hy' : idx o (pre.length : Int) = some (n : Int) := by rw [idx_get, ← hn']; simp [hi]
    have ih := deal_loop hown hs ho hc hl hn f hf suf (pre ++ [c]) (ph.set m ((ph[m]'hmp).1, (b.1[n]'hnb).2.1, ())) (by rw [e]; simp) (by simp; exact hp)
    rw [loopE_step (a' := ([], o, ph.set m ((ph[m]'hmp).1, (b.1[n]'hnb).2.1, ()), cm, ((pre ++ [c]).length : Int)))]
    · rw [ih]
      simp only [dealt, hy', hm, hq', hz, Int.toNat_natCast, List.length_append, List.length_cons, List.length_nil]
    · rw [hf]
      simp only [dec_t (show (pre.length : Int) < (cm.length : Int) by omega), cond_true, hx, Option.bind_some, dec_t (show (0 : Int) ≤ (pre.length : Int) by omega), dec_t (show (pre.length : Int) < (o.length : Int) by omega), Bool.and_self, hy, hn', hz, hown _ (show (b.1[n]'hnb).2.1.length ≤ 1000 by have := hs _ (List.getElem_mem hnb); omega), hm,
        dec_t (show (0 : Int) ≤ (m : Int) by omega), dec_t (show (m : Int) < (ph.length : Int) by omega), Int.toNat_natCast, hq]
      rw [w64_of (by omega) (by omega)]
      simp

theorem dealt_len (b : GBook) (o : List Int) : ∀ (cs : List Int) (ph : List GPhrase) (i : Nat), (dealt b o cs ph i).length = ph.length
  | [], _, _ => rfl
  | c :: cs, ph, i => by
    unfold dealt
    rw [dealt_len b o cs]
    split
    · split <;> simp
    · rfl
theorem dealt_sig {b : GBook} {o : List Int} {N : Nat} (hb : ∀ x ∈ b.1, x.2.1.length ≤ N) : ∀ (cs : List Int) (ph : List GPhrase) (i : Nat), (∀ x ∈ ph, x.2.1.length ≤ N) → ∀ x ∈ dealt b o cs ph i, x.2.1.length ≤ N
  | [], _, _, h => h
  | c :: cs, ph, i, h => by
    unfold dealt
    refine dealt_sig hb cs _ _ fun x hx => ?_
    split at hx
    · rename_i n p _ _
      split at hx
      · rename_i q hq
        rcases List.mem_or_eq_of_mem_set hx with hx | rfl
        · exact h x hx
        · have : q ∈ b.1 := by
            unfold idx at hq
            split at hq
            · cases hq
            · exact List.mem_of_getElem? hq
          exact hb q this
      · exact h x hx
    · exact h x hx

theorem idx_mem {α : Type} {l : List α} {x : Int} {p : α} (h : idx l x = some p) : p ∈ l := by
  unfold idx at h
  split at h
  · cases h
  · exact List.mem_of_getElem? h
theorem dealt_txt {b : GBook} {o : List Int} : ∀ (cs : List Int) (ph : List GPhrase) (i : Nat), (∀ x ∈ ph, x.1.length ≤ maxLen) → ∀ x ∈ dealt b o cs ph i, x.1.length ≤ maxLen
  | [], _, _, h => h
  | c :: cs, ph, i, h => by
    unfold dealt
    refine dealt_txt cs _ _ fun x hx => ?_
    split at hx
    · rename_i n p _ hp
      split at hx
      · rename_i q hq
        rcases List.mem_or_eq_of_mem_set hx with hx | rfl
        · exact h x hx
        · exact h p (idx_mem hp)
      · exact h x hx
    · exact h x hx
theorem deal_same {b : GBook} (hb : Q.Fine b) {w : List Int} (hw : w.length ≤ 1048576) :
    (asked b w = false ∧ s_DealAnew b w = some (([], ()), false) ∧ i_DealAnew b w = some (([], ()), false)) ∨
    (asked b w = true ∧ ∃ o cm, o.Perm (ids b.1.length) ∧ o.Pairwise (kLt (lenOf b)) ∧ cm.Perm (ids b.1.length) ∧ cm.Pairwise (kLt (kW w)) ∧ s_DealAnew b w = some ((dealt b o cm b.1 0, ()), true) ∧ i_DealAnew b w = some ((dealt b o cm b.1 0, ()), true)) := by
  have hw' : w.length ≤ maxLen := by unfold maxLen; omega
  unfold s_DealAnew i_DealAnew
  rw [asked_s hb hw', Q.i_good hb]
  simp only [Option.bind_some, weights_i hw']
  cases ha : asked b w with
  | false =>
    refine .inl ⟨rfl, rfl, ?_⟩
    unfold asked at ha
    cases hk : Q.isBook b with
    | false => rfl
    | true =>
      rw [hk, Bool.true_and] at ha
      simp only [Bool.not_true, cond_false, ha]
      rfl
  | true =>
    right
    have ha' := ha
    unfold asked at ha'
    simp only [Bool.and_eq_true, decide_eq_true_eq] at ha'
    obtain ⟨k1, k2, k3⟩ := ha'
    have hsig := sig_len k1
    have h40 : b.1.length ≤ 40 := by
      have := k1
      simp only [Q.isBook, Bool.and_eq_true, Q.inB, decide_eq_true_eq] at this
      omega
    have hs : ∀ x ∈ b.1, x.2.1.length ≤ 100 := fun x hx => by have := hsig x hx; omega
    obtain ⟨C1, e1, p1, q1⟩ := sort_len h40
    obtain ⟨C2, e2, p2, q2⟩ := sort_w (w := w) (by omega)
    obtain ⟨cm, e3, p3, q3⟩ := order_eq (w := w) (by omega)
    have hcm : cm = C2 := sorted_eq (kOrd _) (p3.trans p2.symm) q3 q2
    subst hcm
    have hshort : (flt b 1 b.1.length ++ flt b 2 b.1.length ++ flt b 3 b.1.length) = C1 := by
      refine sorted_eq (kOrd _) (List.Perm.trans ?_ p1.symm) short_sorted q1
      exact three_perm (lenOf b) (ids b.1.length) fun x hx => by
        obtain ⟨p, hp, hm⟩ := idx_some hx
        have := hsig p hm
        unfold lenOf
        rw [hp]
        simp only
        omega
    have hids : ids w.length = ids b.1.length := by rw [k2]
    rw [hids] at e2 p3
    refine ⟨rfl, C1, cm, p1, q1, p3, q3, ?_, ?_⟩
    · simp only [Bool.not_true, cond_false]
      have l1 := flt_len b 1 b.1.length
      have l2 := flt_len b 2 b.1.length
      have pick : loopE (fun (st3 : (List GPhrase) × (List Int) × Int) => (
        bif (decide (st3.2.2 ≤ 3)) then
          (loopE (fun (st5 : (List GPhrase) × (List Int) × Int) => (
              bif (decide (st5.2.2 < (b.1.length : Int))) then
                (idx b.1 st5.2.2).bind fun e6 =>
                bif (decide ((e6.2.1.length : Int) = st3.2.2)) then
                  bif decide (List.length st5.2.1 + List.length [st5.2.2] ≤ lim) then
                    some (.inl (st5.1, (st5.2.1 ++ [st5.2.2]), (w64 (st5.2.2 + 1))))
                  else
                    none
                else
                  some (.inl (st5.1, st5.2.1, (w64 (st5.2.2 + 1))))
              else
                some (.inr (st5.1, st5.2.1)) : Option (((List GPhrase) × (List Int) × Int) ⊕ (((List GPhrase) × (List Int)))))) (st3.1, st3.2.1, 0)).bind fun o7 =>
          some (.inl (o7.1, o7.2, (w64 (st3.2.2 + 1))))
        else
          some (.inr (st3.1, st3.2.1)) : Option (((List GPhrase) × (List Int) × Int) ⊕ (((List GPhrase) × (List Int)))))) ([], [], 1) = some ([], C1) := by
        rw [loopE_step (a' := ([], flt b 1 b.1.length, 2)) (by
          simp only [dec_t (show (1 : Int) ≤ 3 by decide), cond_true]
          rw [pick_eq h40 1 [] (by simp) []]
          simp only [Option.bind_some, List.nil_append]
          rw [w64_of (by decide) (by decide)]
          rfl), loopE_step (a' := ([], flt b 1 b.1.length ++ flt b 2 b.1.length, 3)) (by
          simp only [dec_t (show (2 : Int) ≤ 3 by decide), cond_true]
          rw [pick_eq h40 2 _ (by omega) []]
          simp only [Option.bind_some]
          rw [w64_of (by decide) (by decide)]
          rfl), loopE_step (a' := ([], flt b 1 b.1.length ++ flt b 2 b.1.length ++ flt b 3 b.1.length, 4)) (by
          simp only [dec_t (show (3 : Int) ≤ 3 by decide), cond_true]
          rw [pick_eq h40 3 _ (by rw [List.length_append]; omega) []]
          simp only [Option.bind_some]
          rw [w64_of (by decide) (by decide)]
          rfl), loopE_done (b := ([], C1)) (by
          simp only [dec_f (show ¬ (4 : Int) ≤ 3 by decide), cond_false, hshort])]
      rw [pick]
      simp only [Option.bind_some, bkOwn_eq (l := b.1) (by omega) hs, e3]
      have := deal_loop (b := b) (o := C1) (cm := cm) (own := s_l1Own) (fun l h => own_small h) hs (fun x hx => ids_mem.1 (p1.mem_iff.1 hx)) (fun x hx => ids_mem.1 (p3.mem_iff.1 hx)) (by rw [p1.length_eq, p3.length_eq]) (by rw [p3.length_eq, ids_len]; omega) _ (fun st => rfl) cm [] b.1 rfl rfl
      rw [show ((([] : List Int).length : Nat) : Int) = 0 from rfl] at this
      rw [this]
      rfl
    · have hall : (decide (w.length = b.1.length) && w.all fun x => Q.inB x 0 10000) = true := by rw [dec_t k2, k3]; rfl
      rw [k1, hall]
      simp only [Bool.not_true, cond_false, Option.bind_some]
      rw [first_eq (n := w.length) (by omega)]
      simp only [Option.bind_some]
      rw [hids, e1]
      simp only [Option.bind_some, e2]
      rw [cloneBook_eq (by omega) hs]
      simp only [Option.bind_some]
      have := deal_loop (b := b) (o := C1) (cm := cm) (own := slices_Clone_int) (fun l h => clone_small h) hs (fun x hx => ids_mem.1 (p1.mem_iff.1 hx)) (fun x hx => ids_mem.1 (p3.mem_iff.1 hx)) (by rw [p1.length_eq, p3.length_eq]) (by rw [p3.length_eq, ids_len]; omega) _ (fun st => rfl) cm [] b.1 rfl rfl
      rw [show ((([] : List Int).length : Nat) : Int) = 0 from rfl] at this
      rw [this]
      rfl
end Go.Proofs.Ytlhplhjibadplaa.Sh.D
