/-
  OnDutyAt.
-/
import Derived.Test.YtkemmodgpafkmaaGreatDoorSPH
import Derived.Lib.AtoiTie
import Derived.Lib.ItoaMem
namespace Go.Proofs.YtkemmodgpafkmaaGreatDoor.Sh
open Go Go.Ab Go.Proofs Go.Shelf Go.RowKit Go.Sort
def onS (h : Int) (y : GTower) : Bool := decide (y.2.1 ≤ h) && decide (h < y.2.2.1)
def onL (h : Int) (l : List GTower) : List Int := (l.filter (onS h)).map (·.1)
theorem areSh_len {l : List GTower} (h : areSh l = true) : l.length ≤ 60 := by
  unfold areSh at h
  simp only [Bool.and_eq_true, decide_eq_true_eq] at h
  omega
theorem areSh_ok {l : List GTower} (h : areSh l = true) : (∀ y ∈ l, okS y = true) ∧ l.Pairwise fun a b => clash b a = false := by
  unfold areSh at h
  simp only [Bool.and_eq_true, List.all_eq_true, List.mem_range, decide_eq_true_eq] at h
  have at_ : ∀ (i : Nat) (hi : i < l.length), okS l[i] = true ∧ freeS l i = true := fun i hi => by
    have := h.1 i hi
    unfold shAt at this
    rw [eachAt_eq hi] at this
    simp only [Bool.and_eq_true] at this
    exact ⟨this.1, this.2.2⟩
  refine ⟨fun y hy => ?_, ?_⟩
  · obtain ⟨i, hi, rfl⟩ := List.getElem_of_mem hy
    exact (at_ i hi).1
  · rw [List.pairwise_iff_getElem]
    intro i j hi hj hij
    have := (at_ j hj).2
    rw [freeS_eq hj, List.all_eq_true] at this
    have h2 := this l[i] (List.mem_take_iff_getElem.2 ⟨i, by omega, rfl⟩)
    simpa using h2
theorem on_nodup {l : List GTower} (h : areSh l = true) (hr : Int) : (onL hr l).Pairwise (· ≠ ·) := by
  unfold onL
  rw [List.pairwise_map]
  have h2 := (areSh_ok h).2
  refine (h2.filter (onS hr)).imp_of_mem fun {a b} ha hb hc => ?_
  have ha := (List.mem_filter.1 ha).2
  have hb := (List.mem_filter.1 hb).2
  unfold onS at ha hb
  unfold clash at hc
  simp only [Bool.and_eq_true, decide_eq_true_eq, Bool.and_eq_false_iff, decide_eq_false_iff_not] at ha hb hc
  omega
theorem put_perm {xs : List Int} {n : Int} (h : n ∉ xs) : (putI xs n).Perm (xs ++ [n]) := by
  have hn : (xs.any fun x => decide (n = x)) = false := by
    rw [List.any_eq_false]
    intro x hx he
    have := of_decide_eq_true he
    subst this
    exact h hx
  have hp : putI xs n = lowP xs n ++ n :: highP xs n := by unfold putI; rw [hn]; rfl
  rw [hp]
  have e := low_high xs n
  conv => rhs; rw [← e]
  rw [List.append_assoc]
  exact (List.perm_append_comm (l₁ := [n]) (l₂ := highP xs n)).append_left _
theorem put_fold : ∀ (l acc : List Int), acc.Pairwise (· < ·) → (acc ++ l).Pairwise (· ≠ ·) → (l.foldl putI acc).Perm (acc ++ l) ∧ (l.foldl putI acc).Pairwise (· < ·)
  | [], acc, h, _ => ⟨by simp, h⟩
  | n :: l, acc, h, hd => by
    have hn : n ∉ acc := fun hm => by
      rw [List.pairwise_append] at hd
      exact hd.2.2 n hm n (by simp) rfl
    have hp := put_perm hn
    have hd2 : (putI acc n ++ l).Pairwise (· ≠ ·) := by
      have : (putI acc n ++ l).Perm (acc ++ n :: l) := by
        have := hp.append_right l
        simpa using this
      exact this.symm.pairwise hd (fun h => h.symm)
    obtain ⟨h1, h2⟩ := put_fold l (putI acc n) (put_pair h) hd2
    refine ⟨h1.trans ?_, h2⟩
    have := hp.append_right l
    simpa using this
def dutyV (l : List GTower) (h : Int) : List Int × Bool := bif areSh l && inB h 0 167 then ((onL h l).foldl putI [], true) else ([], false)
theorem on_fold {α : Type} (g : List α → Int → List α) (h : Int) : ∀ (l : List GTower) (acc : List α), l.foldl (fun a y => bif onS h y then g a y.1 else a) acc = (onL h l).foldl g acc
  | [], _ => rfl
  | y :: l, acc => by
    rw [List.foldl_cons, on_fold g h l]
    unfold onL
    rw [List.filter_cons]
    cases onS h y <;> rfl
theorem i_duty {l : List GTower} (hl : l.length ≤ 1048576) (h : Int) : i_OnDutyAt l h = some (dutyV l h) := by
  have hlm : l.length ≤ maxLen := by unfold maxLen; omega
  unfold i_OnDutyAt dutyV
  simp only [i_areSh hlm, Option.bind_some, within_eq]
  cases ha : areSh l with
  | false => rfl
  | true =>
  cases hh : inB h 0 167 with
  | false => rfl
  | true =>
    have h60 := areSh_len ha
    simp only [Bool.not_true, cond_false, Option.bind_some, Bool.and_self, cond_true]
    have hloop := fold_loop (l := l) (f := (fun (st5 : (List Int) × Int) => (
 bif (decide (st5.2 < (l.length : Int))) then
 (idx l st5.2).bind fun e6 =>
 (bif (decide (e6.2.1 ≤ h)) then
 some (decide (h < e6.2.2.1))
 else
 some false).bind fun c7 =>
 bif c7 then
 bif decide (List.length st5.1 + List.length [e6.1] ≤ lim) then
 some (.inl ((st5.1 ++ [e6.1]), (w64 (st5.2 + 1))))
 else
 none
 else
 some (.inl (st5.1, (w64 (st5.2 + 1))))
 else
 some (.inr st5.1) : Option (((List Int) × Int) ⊕ ((List Int)))))) Prod.mk (fun a y => bif onS h y then a ++ [y.1] else a) (fun s => s) (fun i s => s.length ≤ i) [] (by simp) (fun s i y hy hi hI => by
        refine ⟨?_, ?_⟩
        · simp only [at_lt hi, cond_true, idx_get, hy, Option.bind_some, up hlm hi]
          rw [show ((bif decide (y.2.1 ≤ h) then some (decide (h < y.2.2.1)) else some false) : Option Bool) = some (onS h y) by unfold onS; cases decide (y.2.1 ≤ h) <;> rfl, Option.bind_some]
          cases onS h y with
          | false => rfl
          | true => rw [lim_ok (by simp; omega)]; rfl
        · cases onS h y
          · show s.length ≤ _; omega
          · simp; omega) (fun s _ => by simp)
    rw [hloop.1, on_fold (fun a n => a ++ [n])]
    rw [foldl_snoc, List.nil_append, Option.bind_some]
    obtain ⟨p1, p2⟩ := put_fold (onL h l) [] List.Pairwise.nil (by rw [List.nil_append]; exact on_nodup ha h)
    rw [List.nil_append] at p1
    have hlen : (onL h l).length ≤ 60 := by unfold onL; rw [List.length_map]; exact Nat.le_trans (List.length_filter_le _ _) h60
    unfold sortIntF sortL
    rw [if_pos (by omega), Option.bind_some]
    have e : (onL h l).mergeSort leI = (onL h l).foldl putI [] := by
      refine sorted_is (lt := fun a b : Int => a < b) (fun a b h1 h2 => by omega) ((List.mergeSort_perm _ _).trans p1.symm) ?_ p2
      exact (List.pairwise_mergeSort (le := leI) (fun a b c h1 h2 => by simp only [leI, decide_eq_true_eq] at *; omega) (fun a b => by simp only [leI, Bool.or_eq_true, decide_eq_true_eq]; omega) (onL h l)).imp fun {a b} h => by
        have : a ≤ b := by simpa [leI] using h
        omega
    exact congrArg (fun z => some (z, true)) e
theorem s_duty {l : List GTower} (hl : l.length ≤ 1048576) (h : Int) : s_OnDutyAt l h = some (dutyV l h) := by
  have hlm : l.length ≤ maxLen := by unfold maxLen; omega
  unfold s_OnDutyAt dutyV s_shHour
  simp only [s_areSh hlm, Option.bind_some, l1In_eq]
  cases ha : areSh l with
  | false => rfl
  | true =>
  cases hh : inB h 0 167 with
  | false => rfl
  | true =>
    have h60 := areSh_len ha
    have hok := (areSh_ok ha).1
    simp only [Bool.not_true, cond_false, Option.bind_some, Bool.and_self, cond_true]
    unfold s_shOn
    have hloop := fold_loop (l := l) (f := (fun (st2 : (List Int) × Int) => (
 bif (decide (st2.2 < (l.length : Int))) then
 (idx l st2.2).bind fun e3 =>
 (s_l1In h e3.2.1 (w64 (e3.2.2.1 - 1))).bind fun r4 =>
 bif r4 then
 (putSame st2.1 e3.1).bind fun c5 =>
 bif c5 then
 some (.inl (st2.1, (w64 (st2.2 + 1))))
 else
 (putNew st2.1 e3.1).bind fun r6 =>
 some (.inl (r6, (w64 (st2.2 + 1))))
 else
 some (.inl (st2.1, (w64 (st2.2 + 1))))
 else
 some (.inr st2.1) : Option (((List Int) × Int) ⊕ ((List Int)))))) Prod.mk (fun a y => bif onS h y then putI a y.1 else a) (fun s => s) (fun i s => s.length ≤ i ∧ s.Pairwise (· < ·)) [] ⟨by simp, List.Pairwise.nil⟩ (fun s i y hy hi hI => by
        have ho := hok y (List.mem_of_getElem? hy)
        unfold okS inB at ho
        simp only [Bool.and_eq_true, decide_eq_true_eq] at ho
        obtain ⟨f1, f2⟩ := put_facts hI.2 (by omega) y.1
        refine ⟨?_, ?_⟩
        · simp only [at_lt hi, cond_true, idx_get, hy, Option.bind_some, up hlm hi, l1In_eq]
          rw [show inB h y.2.1 (w64 (y.2.2.1 - 1)) = onS h y by
            rw [w64_of (by omega) (by omega)]
            unfold inB onS
            congr 1
            by_cases hc : h < y.2.2.1
            · rw [decide_eq_true hc, decide_eq_true (by omega)]
            · rw [decide_eq_false hc, decide_eq_false (by omega)]]
          cases onS h y with
          | false => rfl
          | true =>
            simp only [cond_true, f1, Option.bind_some]
            cases hany : s.any fun x => decide (y.1 = x) with
            | true =>
              have : putI s y.1 = s := by unfold putI; rw [hany]; rfl
              rw [this]; rfl
            | false => rw [cond_false, f2 hany]; rfl
        · cases onS h y
          · exact ⟨by show s.length ≤ _; have := hI.1; omega, hI.2⟩
          · exact ⟨by show (putI s y.1).length ≤ _; have := put_len s y.1; have := hI.1; omega, put_pair hI.2⟩) (fun s _ => by simp)
    rw [hloop.1, on_fold putI]
    rfl
end Go.Proofs.YtkemmodgpafkmaaGreatDoor.Sh
namespace Go.Proofs.YtkemmodgpafkmaaGreatDoor.Sh
open Go Go.Ab Go.Proofs Go.Lib
def isDig (b : UInt8) : Bool := decide (48 ≤ b.toNat) && decide (b.toNat ≤ 57)
def val (s : Bytes) : Nat := s.foldl (fun a b => 10 * a + (b.toNat - 48)) 0
def plainN (s : Bytes) : Bool := s.all isDig && (decide (1 ≤ s.length) && !(decide (s.head? = some 48) && decide (1 < s.length)))
theorem head_app {t l : Bytes} (h : t ≠ []) : (t ++ l).head? = t.head? := by
  cases t with
  | nil => exact absurd rfl h
  | cons _ _ => rfl
theorem isDig_iff {b : UInt8} : isDig b = true ↔ 48 ≤ b.toNat ∧ b.toNat ≤ 57 := by unfold isDig; simp
theorem val_snoc (t : Bytes) (d : UInt8) : val (t ++ [d]) = 10 * val t + (d.toNat - 48) := by unfold val; rw [List.foldl_append]; rfl
theorem dig_nat {k : Nat} (h : k < 10) : (UInt8.ofNat (48 + k)).toNat = 48 + k := by
  rw [UInt8.toNat_ofNat']; omega
theorem dig_is {k : Nat} (h : k < 10) : isDig (UInt8.ofNat (48 + k)) = true := by rw [isDig_iff, dig_nat h]; omega
theorem dec_facts (u : Nat) : (decDigits u).all isDig = true ∧ 1 ≤ (decDigits u).length ∧ val (decDigits u) = u ∧ (1 ≤ u → (decDigits u).head? ≠ some 48) := by
  induction u using Nat.strongRecOn with
  | _ u ih =>
    by_cases h : u < 10
    · rw [decDigits_one h]
      refine ⟨by rw [List.all_cons, dig_is h]; rfl, by simp, ?_, fun h1 hh => ?_⟩
      · show 10 * 0 + ((UInt8.ofNat (48 + u)).toNat - 48) = u
        rw [dig_nat h]; omega
      · simp only [List.head?_cons, Option.some.injEq] at hh
        have := congrArg UInt8.toNat hh
        rw [dig_nat h] at this
        have e : (48 : UInt8).toNat = 48 := rfl
        omega
    · obtain ⟨a1, a2, a3, a4⟩ := ih (u / 10) (by omega)
      rw [decDigits, dif_neg h]
      have hm : u % 10 < 10 := by omega
      refine ⟨by rw [List.all_append, a1, List.all_cons, dig_is hm]; rfl, by simp, ?_, fun _ hh => ?_⟩
      · rw [val_snoc, a3, dig_nat hm]; omega
      · rw [head_app (by intro e; rw [e] at a2; simp at a2)] at hh
        exact a4 (by omega) hh
theorem dec_plain (u : Nat) : plainN (decDigits u) = true := by
  obtain ⟨a1, a2, a3, a4⟩ := dec_facts u
  unfold plainN
  rw [a1, decide_eq_true a2]
  by_cases h : 1 ≤ u
  · rw [decide_eq_false (a4 h)]; rfl
  · have : u = 0 := by omega
    subst this
    rw [decDigits_one (by omega)]
    rfl
theorem plain_dec : ∀ (n : Nat) (s : Bytes), s.length = n → plainN s = true → decDigits (val s) = s
  | 0, s, hn, hp => by
    have : s = [] := List.eq_nil_of_length_eq_zero hn
    subst this
    cases hp
  | n + 1, s, hn, hp => by
    have hne : s ≠ [] := by intro e; rw [e] at hn; cases hn
    obtain ⟨t, d, rfl⟩ : ∃ t d, s = t ++ [d] := ⟨s.dropLast, s.getLast hne, (List.dropLast_concat_getLast hne).symm⟩
    have ht : t.length = n := by simpa using hn
    unfold plainN at hp
    simp only [Bool.and_eq_true, List.all_append, List.all_cons, List.all_nil, Bool.and_true] at hp
    obtain ⟨⟨h1, h2⟩, _, h4⟩ := hp
    have hd := isDig_iff.1 h2
    rw [val_snoc]
    have ed : UInt8.ofNat (48 + (d.toNat - 48)) = d := by
      apply UInt8.toNat_inj.1
      rw [dig_nat (by omega)]; omega
    by_cases hz : t = []
    · subst hz
      have e : 10 * val [] + (d.toNat - 48) = d.toNat - 48 := by simp [val]
      rw [e, decDigits_one (by omega), ed]; rfl
    · have hl : 1 ≤ t.length := by cases t; exact absurd rfl hz; simp
      have hh : t.head? ≠ some 48 := fun hh => by
        rw [head_app hz, hh] at h4
        simp only [decide_true, Bool.true_and, Bool.not_eq_true', decide_eq_false_iff_not, List.length_append, List.length_singleton] at h4
        omega
      have hpt : plainN t = true := by
        unfold plainN
        rw [h1, decide_eq_true hl, decide_eq_false hh]; rfl
      have ih := plain_dec n t ht hpt
      have hv : 1 ≤ val t := by
        apply Classical.byContradiction
        intro hc
        have : val t = 0 := by omega
        rw [this, decDigits_one (by omega)] at ih
        rw [← ih] at hh
        exact hh rfl
      rw [decDigits, dif_neg (by omega), show (10 * val t + (d.toNat - 48)) / 10 = val t by omega, show (10 * val t + (d.toNat - 48)) % 10 = d.toNat - 48 by omega, ih, ed]
theorem decFrom_val : ∀ (s : Bytes) (acc : Nat), decFrom acc s = if s.all isDig = true then some (s.foldl (fun a b => 10 * a + (b.toNat - 48)) acc) else none
  | [], acc => rfl
  | b :: s, acc => by
    unfold decFrom digitVal
    by_cases h : 48 ≤ b.toNat ∧ b.toNat ≤ 57
    · rw [if_pos h]
      simp only []
      rw [decFrom_val s, List.all_cons, isDig_iff.2 h, Bool.true_and, List.foldl_cons, Nat.mul_comm acc 10]
    · rw [if_neg h]
      have : isDig b = false := by cases hb : isDig b with | false => rfl | true => exact absurd (isDig_iff.1 hb) h
      rw [List.all_cons, this]; rfl
theorem read_plain {s : Bytes} (hp : plainN s = true) (hl : s.length ≤ 18) : readV s = ((val s : Int), true) := by
  have hd := plain_dec s.length s rfl hp
  unfold plainN at hp
  simp only [Bool.and_eq_true, decide_eq_true_eq] at hp
  obtain ⟨h1, h2, _⟩ := hp
  have ha : atoiAll s = .ok (val s : Int) := by
    rw [atoiAll_short s hl]
    cases s with
    | nil => simp at h2
    | cons b r =>
      have hb := isDig_iff.1 (List.all_eq_true.1 h1 b (by simp))
      have n45 : (b == 45) = false := by
        rw [beq_eq_false_iff_ne]; rintro rfl; have e : (45 : UInt8).toNat = 45 := rfl; omega
      have n43 : (b == 43) = false := by
        rw [beq_eq_false_iff_ne]; rintro rfl; have e : (43 : UInt8).toNat = 43 := rfl; omega
      unfold atoi decNat
      simp only [n45, n43, List.isEmpty_cons, Bool.false_eq_true, if_false]
      rw [decFrom_val, if_pos h1]
      rfl
  unfold readV
  rw [ha]
  simp only []
  rw [if_neg]
  rintro (h | h)
  · omega
  · exact h (by rw [itoa_nonneg]; exact hd)
theorem read_of {s : Bytes} {v : Int} (h : readV s = (v, true)) : 0 ≤ v ∧ plainN s = true ∧ val s = v.toNat ∧ s = decDigits v.toNat := by
  unfold readV at h
  split at h
  · rename_i w hw
    split at h
    · cases h
    · rename_i hc
      cases h
      have h0 : 0 ≤ v := by
        apply Classical.byContradiction; intro hn; exact hc (.inl (by omega))
      have hs : itoa v = s := by
        apply Classical.byContradiction; intro hn; exact hc (.inr hn)
      have e : s = decDigits v.toNat := by rw [← hs]; unfold itoa; rw [if_neg (by omega)]
      refine ⟨h0, ?_, ?_, e⟩
      · rw [e]; exact dec_plain _
      · rw [e]; exact (dec_facts _).2.2.1
  · cases h
def rdV (s : Bytes) : Int := if plainN s = true ∧ s.length ≤ 6 then (val s : Int) else -1
theorem rd_loop {s : Bytes} (hl : s.length ≤ 6) {f : Int × Int → Option ((Int × Int) ⊕ (Int ⊕ Int))}
    (hf : ∀ (i : Nat) (x : UInt8) (a : Int), s[i]? = some x → i < s.length → f (a, (i : Int)) = some (bif !isDig x then .inr (.inr (-1)) else .inl (w64 (w64 (10 * a) + w64 (IntKind.u8.wrap ((x.toNat : Int) - 48))), (i : Int) + 1)))
    (hend : ∀ a : Int, f (a, (s.length : Int)) = some (.inr (.inl a))) :
    ∀ (r pre : Bytes) (a : Nat), s = pre ++ r → a < 10 ^ pre.length → loopE f ((a : Int), (pre.length : Int)) = some (if r.all isDig = true then .inl ((r.foldl (fun a b => 10 * a + (b.toNat - 48)) a : Nat) : Int) else .inr (-1))
  | [], pre, a, e, _ => by
    rw [List.append_nil] at e
    subst e
    rw [loopE_done (hend a)]
    rfl
  | x :: r, pre, a, e, ha => by
    have hlen : pre.length + (r.length + 1) = s.length := by rw [e]; simp
    have hx : s[pre.length]? = some x := by rw [e]; simp
    have h := hf pre.length x a hx (by omega)
    cases hd : isDig x with
    | false =>
      rw [hd] at h
      rw [loopE_done h, List.all_cons, hd]
      rfl
    | true =>
      rw [hd] at h
      have hd' := isDig_iff.1 hd
      have hp : 10 ^ pre.length ≤ 10 ^ 5 := Nat.pow_le_pow_right (by omega) (by omega)
      have ew : IntKind.u8.wrap ((x.toNat : Int) - 48) = (x.toNat : Int) - 48 := by
        unfold IntKind.wrap
        simp only [IntKind.signed, IntKind.bits]
        simp
        omega
      have e2 : w64 (w64 (10 * (a : Int)) + w64 (IntKind.u8.wrap ((x.toNat : Int) - 48))) = ((10 * a + (x.toNat - 48) : Nat) : Int) := by
        rw [ew, w64_of (x := 10 * (a : Int)) (by omega) (by omega), w64_of (x := (x.toNat : Int) - 48) (by omega) (by omega), w64_of (by omega) (by omega)]
        omega
      rw [e2] at h
      rw [loopE_step h]
      have ih := rd_loop hl hf hend r (pre ++ [x]) (10 * a + (x.toNat - 48)) (by rw [e]; simp) (by
        rw [List.length_append, List.length_singleton, Nat.pow_succ]; omega)
      rw [show ((pre ++ [x]).length : Int) = (pre.length : Int) + 1 by simp] at ih
      rw [ih, List.all_cons, hd, Bool.true_and, List.foldl_cons]
theorem s_read {s : Bytes} (hl : s.length ≤ maxLen) : s_l1Read s = some (rdV s) := by
  unfold s_l1Read rdV
  simp only [l1In_eq, Option.bind_some]
  by_cases h6 : 1 ≤ s.length ∧ s.length ≤ 6
  rotate_left
  · rw [show inB (s.length : Int) 1 6 = false by unfold inB; simp; omega, if_neg]
    · rfl
    · rintro ⟨h1, h2⟩
      unfold plainN at h1
      simp only [Bool.and_eq_true, decide_eq_true_eq] at h1
      omega
  · rw [show inB (s.length : Int) 1 6 = true by unfold inB; simp; omega]
    cases s with
    | nil => exact absurd h6.1 (by simp)
    | cons b r =>
      rw [show idx (b :: r) 0 = some b from rfl]
      simp only [Bool.not_true, cond_false, Option.bind_some]
      have hb : decide ((b.toNat : Int) = 48) = decide (b = 48) := by
        by_cases e : b = 48
        · subst e; rfl
        · rw [decide_eq_false e, decide_eq_false]
          intro h
          exact e (UInt8.toNat_inj.1 (show b.toNat = (48 : UInt8).toNat by have e48 : (48 : UInt8).toNat = 48 := rfl; omega))
      have hc : ((bif decide ((b.toNat : Int) = 48) then some (decide (1 < ((b :: r).length : Int))) else some false) : Option Bool) = some (decide ((b :: r).head? = some 48) && decide (1 < (b :: r).length)) := by
        rw [hb, show decide ((b :: r).head? = some 48) = decide (b = 48) by simp, show decide (1 < ((b :: r).length : Int)) = decide (1 < (b :: r).length) from decide_eq_decide.2 (by omega)]
        cases decide (b = 48) <;> rfl
      rw [hc]
      simp only [Option.bind_some]
      cases hz : (decide ((b :: r).head? = some 48) && decide (1 < (b :: r).length)) with
      | true =>
        rw [if_neg]
        · rfl
        · rintro ⟨h1, _⟩
          unfold plainN at h1
          rw [hz] at h1
          simp at h1
      | false =>
        have hloop := rd_loop (s := b :: r) h6.2 (f := (fun (st6 : Int × Int) => (
 bif (decide (st6.2 < ((b :: r).length : Int))) then
 (idx (b :: r) st6.2).bind fun b7 =>
 (bif (decide ((b7.toNat : Int) < 48)) then
 some true
 else
 (idx (b :: r) st6.2).bind fun b8 =>
 some (decide (57 < (b8.toNat : Int)))).bind fun c9 =>
 bif c9 then
 some (.inr (.inr (-1)))
 else
 (idx (b :: r) st6.2).bind fun b10 =>
 some (.inl ((w64 ((w64 (10 * st6.1)) + (w64 (IntKind.u8.wrap ((b10.toNat : Int) - 48))))), (w64 (st6.2 + 1))))
 else
 some (.inr (.inl st6.1)) : Option ((Int × Int) ⊕ (Int ⊕ Int))))) (fun i x a hx hi => by
          simp only [at_lt hi, cond_true, idx_get, hx, Option.bind_some, up hl hi]
          unfold isDig
          by_cases h1 : x.toNat < 48
          · rw [decide_eq_true (show (x.toNat : Int) < 48 by omega), decide_eq_false (show ¬ 48 ≤ x.toNat by omega)]; rfl
          · rw [decide_eq_false (show ¬ (x.toNat : Int) < 48 by omega), decide_eq_true (show 48 ≤ x.toNat by omega)]
            by_cases h2 : 57 < x.toNat
            · rw [decide_eq_false (show ¬ x.toNat ≤ 57 by omega)]
              simp only [cond_false, Option.bind_some, decide_eq_true (show (57 : Int) < (x.toNat : Int) by omega)]; rfl
            · rw [decide_eq_true (show x.toNat ≤ 57 by omega)]
              simp only [cond_false, Option.bind_some, decide_eq_false (show ¬ (57 : Int) < (x.toNat : Int) by omega)]; rfl) (fun a => by simp) (b :: r) [] 0 (by simp) (by simp)
        rw [show ((0 : Nat) : Int) = 0 from rfl, show (([] : Bytes).length : Int) = 0 from rfl] at hloop
        rw [cond_false, hloop]
        simp only [Option.bind_some]
        have hpl : plainN (b :: r) = (b :: r).all isDig := by
          unfold plainN
          rw [hz, decide_eq_true h6.1]; simp
        rw [hpl]
        cases hall : (b :: r).all isDig with
        | true => rw [if_pos rfl, if_pos ⟨rfl, h6.2⟩]; rfl
        | false => rw [if_neg (by simp), if_neg (by simp)]
theorem dec_len {n : Nat} (h : n ≤ 99999) : (decDigits n).length ≤ 5 := by
  rw [decDigits_length]
  have big : ∀ k, nDigits k = if k < 10 then 1 else nDigits (k / 10) + 1 := fun k => by
    by_cases h : k < 10
    · rw [if_pos h, nDigits_small h]
    · rw [if_neg h, nDigits_big h]
  rw [big]; split
  · omega
  · rw [big]; split
    · omega
    · rw [big]; split
      · omega
      · rw [big]; split
        · omega
        · rw [big]; split <;> omega
theorem read_same (s : Bytes) : (decide ((readV s).2 = true) && decide ((readV s).1 ≤ 99999)) = inB (rdV s) 0 99999 ∧ (inB (rdV s) 0 99999 = true → (readV s).1 = rdV s) := by
  by_cases h : plainN s = true ∧ s.length ≤ 6
  · have hr := read_plain h.1 (by omega : s.length ≤ 18)
    unfold rdV
    rw [if_pos h, hr]
    exact ⟨by unfold inB; simp, fun _ => rfl⟩
  · have hv : rdV s = -1 := if_neg h
    rw [hv]
    refine ⟨?_, fun hc => by cases hc⟩
    rw [show inB (-1) 0 99999 = false from rfl]
    cases hr : readV s with
    | mk v b =>
      cases b with
      | false => rfl
      | true =>
        obtain ⟨h0, h1, h2, h3⟩ := read_of hr
        have hn : ¬ v ≤ 99999 := fun hle => h ⟨h1, by rw [h3]; have := dec_len (n := v.toNat) (by omega); omega⟩
        simp [hn]
end Go.Proofs.YtkemmodgpafkmaaGreatDoor.Sh
namespace Go.Proofs.YtkemmodgpafkmaaGreatDoor.Sh
open Go Go.Ab Go.Proofs
def wants (w : Bytes) : Option (Int × Int) :=
  if w = w_towers then some (0, 0) else
  if w = w_code then some (0, 0) else
  if w = w_fail then some (1, 1) else
  if w = w_accept then some (2, 2) else
  if w = w_tower then some (3, 3) else
  if w = w_phrase then some (1, 3) else
  if w = w_read then some (1, 20) else
  if w = w_hide then some (1, 20) else
  if w = w_link then some (3, 3) else
  if w = w_fog then some (3, 3) else
  if w = w_first then some (3, 3) else
  if w = w_way then some (3, 3) else
  if w = w_shift then some (3, 3) else
  if w = w_duty then some (1, 1) else
  if w = w_arrived then some (2, 2) else
  if w = w_where then some (1, 1) else
  none
set_option maxRecDepth 100000 in
set_option maxHeartbeats 4000000 in
theorem count_s (w : Bytes) : s_csCount w = some ((wants w).getD (-1, -1)) := by
  by_cases h_towers : w = w_towers
  · subst h_towers; rfl
  by_cases h_code : w = w_code
  · subst h_code; rfl
  by_cases h_fail : w = w_fail
  · subst h_fail; rfl
  by_cases h_accept : w = w_accept
  · subst h_accept; rfl
  by_cases h_tower : w = w_tower
  · subst h_tower; rfl
  by_cases h_phrase : w = w_phrase
  · subst h_phrase; rfl
  by_cases h_read : w = w_read
  · subst h_read; rfl
  by_cases h_hide : w = w_hide
  · subst h_hide; rfl
  by_cases h_link : w = w_link
  · subst h_link; rfl
  by_cases h_fog : w = w_fog
  · subst h_fog; rfl
  by_cases h_first : w = w_first
  · subst h_first; rfl
  by_cases h_way : w = w_way
  · subst h_way; rfl
  by_cases h_shift : w = w_shift
  · subst h_shift; rfl
  by_cases h_duty : w = w_duty
  · subst h_duty; rfl
  by_cases h_arrived : w = w_arrived
  · subst h_arrived; rfl
  by_cases h_where : w = w_where
  · subst h_where; rfl
  unfold s_csCount wants
  simp only [decide_eq_false h_towers, decide_eq_false h_code, decide_eq_false h_fail, decide_eq_false h_accept, decide_eq_false h_tower, decide_eq_false h_phrase, decide_eq_false h_read, decide_eq_false h_hide, decide_eq_false h_link, decide_eq_false h_fog, decide_eq_false h_first, decide_eq_false h_way, decide_eq_false h_shift, decide_eq_false h_duty, decide_eq_false h_arrived, decide_eq_false h_where, if_neg h_towers, if_neg h_code, if_neg h_fail, if_neg h_accept, if_neg h_tower, if_neg h_phrase, if_neg h_read, if_neg h_hide, if_neg h_link, if_neg h_fog, if_neg h_first, if_neg h_way, if_neg h_shift, if_neg h_duty, if_neg h_arrived, if_neg h_where, cond_false, Option.bind_some, Option.getD_none]
set_option maxRecDepth 100000 in
set_option maxHeartbeats 4000000 in
theorem least_i (w : Bytes) : i_leastNumbers w = some (((wants w).map (·.1)).getD 1073741824) := by
  by_cases h_towers : w = w_towers
  · subst h_towers; rfl
  by_cases h_code : w = w_code
  · subst h_code; rfl
  by_cases h_fail : w = w_fail
  · subst h_fail; rfl
  by_cases h_accept : w = w_accept
  · subst h_accept; rfl
  by_cases h_tower : w = w_tower
  · subst h_tower; rfl
  by_cases h_phrase : w = w_phrase
  · subst h_phrase; rfl
  by_cases h_read : w = w_read
  · subst h_read; rfl
  by_cases h_hide : w = w_hide
  · subst h_hide; rfl
  by_cases h_link : w = w_link
  · subst h_link; rfl
  by_cases h_fog : w = w_fog
  · subst h_fog; rfl
  by_cases h_first : w = w_first
  · subst h_first; rfl
  by_cases h_way : w = w_way
  · subst h_way; rfl
  by_cases h_shift : w = w_shift
  · subst h_shift; rfl
  by_cases h_duty : w = w_duty
  · subst h_duty; rfl
  by_cases h_arrived : w = w_arrived
  · subst h_arrived; rfl
  by_cases h_where : w = w_where
  · subst h_where; rfl
  unfold i_leastNumbers wants
  simp only [decide_eq_false h_towers, decide_eq_false h_code, decide_eq_false h_fail, decide_eq_false h_accept, decide_eq_false h_tower, decide_eq_false h_phrase, decide_eq_false h_read, decide_eq_false h_hide, decide_eq_false h_link, decide_eq_false h_fog, decide_eq_false h_first, decide_eq_false h_way, decide_eq_false h_shift, decide_eq_false h_duty, decide_eq_false h_arrived, decide_eq_false h_where, if_neg h_towers, if_neg h_code, if_neg h_fail, if_neg h_accept, if_neg h_tower, if_neg h_phrase, if_neg h_read, if_neg h_hide, if_neg h_link, if_neg h_fog, if_neg h_first, if_neg h_way, if_neg h_shift, if_neg h_duty, if_neg h_arrived, if_neg h_where, cond_false, Option.map_none, Option.getD_none]
set_option maxRecDepth 100000 in
set_option maxHeartbeats 4000000 in
theorem most_i (w : Bytes) : i_mostNumbers w = some (((wants w).map (·.2)).getD 1073741824) := by
  by_cases h_towers : w = w_towers
  · subst h_towers; rfl
  by_cases h_code : w = w_code
  · subst h_code; rfl
  by_cases h_fail : w = w_fail
  · subst h_fail; rfl
  by_cases h_accept : w = w_accept
  · subst h_accept; rfl
  by_cases h_tower : w = w_tower
  · subst h_tower; rfl
  by_cases h_phrase : w = w_phrase
  · subst h_phrase; rfl
  by_cases h_read : w = w_read
  · subst h_read; rfl
  by_cases h_hide : w = w_hide
  · subst h_hide; rfl
  by_cases h_link : w = w_link
  · subst h_link; rfl
  by_cases h_fog : w = w_fog
  · subst h_fog; rfl
  by_cases h_first : w = w_first
  · subst h_first; rfl
  by_cases h_way : w = w_way
  · subst h_way; rfl
  by_cases h_shift : w = w_shift
  · subst h_shift; rfl
  by_cases h_duty : w = w_duty
  · subst h_duty; rfl
  by_cases h_arrived : w = w_arrived
  · subst h_arrived; rfl
  by_cases h_where : w = w_where
  · subst h_where; rfl
  unfold i_mostNumbers
  rw [least_i]
  unfold wants
  simp only [decide_eq_false h_phrase, decide_eq_false h_read, decide_eq_false h_hide, if_neg h_towers, if_neg h_code, if_neg h_fail, if_neg h_accept, if_neg h_tower, if_neg h_phrase, if_neg h_read, if_neg h_hide, if_neg h_link, if_neg h_fog, if_neg h_first, if_neg h_way, if_neg h_shift, if_neg h_duty, if_neg h_arrived, if_neg h_where, cond_false, Option.map_none, Option.getD_none, Option.bind_some]
theorem wants_same (w : Bytes) (n : Nat) (hn : n ≤ 3000) : inB (n : Int) (((wants w).map (·.1)).getD 1073741824) (((wants w).map (·.2)).getD 1073741824) = inB (n : Int) ((wants w).getD (-1, -1)).1 ((wants w).getD (-1, -1)).2 := by
  cases wants w with
  | some p => rfl
  | none =>
    simp only [Option.map_none, Option.getD_none]
    unfold inB
    rw [decide_eq_false (show ¬ (1073741824 : Int) ≤ (n : Int) by omega), decide_eq_false (show ¬ (n : Int) ≤ -1 by omega), Bool.and_false, Bool.false_and]
end Go.Proofs.YtkemmodgpafkmaaGreatDoor.Sh
namespace Go.Proofs.YtkemmodgpafkmaaGreatDoor.Sh
open Go Go.Ab Go.Proofs Go.Lib
def wordsJ (l : List Int) : Bytes := join (l.map itoa) [32]
theorem join_snoc (x : Bytes) (r : List Bytes) (y sep : Bytes) : join (x :: r ++ [y]) sep = join (x :: r) sep ++ (sep ++ y) := by
  induction r generalizing x with
  | nil => simp [join, List.intercalate]
  | cons z r ih =>
    have e1 : ∀ (a b : Bytes) (t : List Bytes), join (a :: b :: t) sep = a ++ (sep ++ join (b :: t) sep) := fun a b t => by simp [join, List.intercalate, List.intersperse]
    show join (x :: z :: (r ++ [y])) sep = _
    rw [e1, e1, show (z :: (r ++ [y])) = z :: r ++ [y] from rfl, ih z]
    simp
theorem words_snoc {pre : List Int} (h : pre ≠ []) (x : Int) : wordsJ (pre ++ [x]) = wordsJ pre ++ [32] ++ itoa x := by
  cases pre with
  | nil => exact absurd rfl h
  | cons a r =>
    unfold wordsJ
    rw [List.map_append, List.map_cons, List.map_singleton, join_snoc, List.append_assoc]
theorem words_len : ∀ (l : List Int), (∀ x ∈ l, 0 ≤ x ∧ x ≤ 9223372036854775807) → (wordsJ l).length ≤ 22 * l.length
  | [], _ => by simp [wordsJ, join, List.intercalate]
  | x :: l, h => by
    have hx := itoa_length_le x (by have := (h x (by simp)).1; omega) (h x (by simp)).2
    cases l with
    | nil => simp [wordsJ, join, List.intercalate]; omega
    | cons y l =>
      have ih := words_len (y :: l) (fun z hz => h z (List.mem_cons_of_mem _ hz))
      have e1 : wordsJ (x :: y :: l) = itoa x ++ ([32] ++ wordsJ (y :: l)) := by simp [wordsJ, join, List.intercalate]
      rw [e1]
      simp only [List.length_append, List.length_cons, List.length_nil] at ih ⊢
      omega
theorem itoa_ne {x : Int} (h : 0 ≤ x) : itoa x ≠ [] := by
  unfold itoa
  rw [if_neg (by omega)]
  intro e
  have := (dec_facts x.toNat).2.1
  rw [e] at this
  simp at this
theorem words_ne {l : List Int} (h : l ≠ []) (h0 : ∀ x ∈ l, 0 ≤ x) : wordsJ l ≠ [] := by
  cases l with
  | nil => exact absurd rfl h
  | cons x l =>
    have hx := itoa_ne (h0 x (by simp))
    cases l with
    | nil => simpa [wordsJ, join, List.intercalate] using hx
    | cons y l =>
      have e1 : wordsJ (x :: y :: l) = itoa x ++ ([32] ++ wordsJ (y :: l)) := by simp [wordsJ, join, List.intercalate]
      rw [e1]
      simp
theorem i_words {l : List Int} (hl : l.length ≤ 100000) (h : ∀ x ∈ l, 0 ≤ x ∧ x ≤ 9223372036854775807) : i_joinNumbers l [32] = some (wordsJ l) := by
  rw [joinNumbers_eq (by omega)]
  unfold joinF
  have := words_len l h
  have hw : (join (l.map itoa) [32]).length ≤ 22 * l.length := this
  rw [if_pos ⟨by rw [List.length_map]; omega, by omega⟩]
  rfl
theorem s_words {l : List Int} (hl : l.length ≤ 100000) (h : ∀ x ∈ l, 0 ≤ x ∧ x ≤ 9223372036854775807) : s_csWords l = some (if l = [] then w_none else wordsJ l) := by
  have hlm : l.length ≤ maxLen := by unfold maxLen; omega
  unfold s_csWords
  have main : ∀ (r pre : List Int), l = pre ++ r → loopE (fun (st2 : Bytes × Int) => (
 bif (decide (st2.2 < (l.length : Int))) then
 (idx l st2.2).bind fun e3 =>
 bif (decide (0 < st2.2)) then
 bif decide (List.length st2.1 + List.length ([32] : Bytes) ≤ lim) then
 (s_l1Num e3).bind fun r4 =>
 bif decide (List.length (st2.1 ++ ([32] : Bytes)) + List.length r4 ≤ lim) then
 some (.inl (((st2.1 ++ ([32] : Bytes)) ++ r4), (w64 (st2.2 + 1))))
 else
 none
 else
 none
 else
 (s_l1Num e3).bind fun r5 =>
 bif decide (List.length st2.1 + List.length r5 ≤ lim) then
 some (.inl ((st2.1 ++ r5), (w64 (st2.2 + 1))))
 else
 none
 else
 some (.inr st2.1) : Option ((Bytes × Int) ⊕ (Bytes)))) (wordsJ pre, (pre.length : Int)) = some (wordsJ l) := by
    intro r
    induction r with
    | nil =>
      intro pre e
      rw [List.append_nil] at e
      subst e
      exact loopE_done (by simp)
    | cons x r ih =>
      intro pre e
      have hi : pre.length < l.length := by rw [e]; simp
      have hx : l[pre.length]? = some x := by rw [e]; simp
      have hb := h x (List.mem_of_getElem? hx)
      have hw := words_len pre (fun z hz => h z (by rw [e]; exact List.mem_append_left _ hz))
      have hi2 := itoa_length_le x (by omega) hb.2
      have ih' := ih (pre ++ [x]) (by rw [e]; simp)
      rw [show ((pre ++ [x]).length : Int) = (pre.length : Int) + 1 by simp] at ih'
      by_cases h0 : pre = []
      · subst h0
        rw [loopE_step (a' := (wordsJ ([] ++ [x]), (([] : List Int).length : Int) + 1)) ?_]
        · exact ih'
        · simp only [at_lt hi, cond_true, idx_get, hx, Option.bind_some, num_eq hb.1 hb.2, up hlm hi]
          rw [show decide ((0 : Int) < (([] : List Int).length : Int)) = false from rfl, cond_false, show wordsJ [] = [] from rfl, lim_ok (by simp; omega), cond_true]
          simp [wordsJ, join, List.intercalate]
      · have hp : 0 < pre.length := List.length_pos_iff.2 h0
        rw [loopE_step (a' := (wordsJ (pre ++ [x]), (pre.length : Int) + 1)) ?_]
        · exact ih'
        · simp only [at_lt hi, cond_true, idx_get, hx, Option.bind_some, num_eq hb.1 hb.2, up hlm hi, decide_eq_true (show (0 : Int) < (pre.length : Int) by omega)]
          rw [lim_ok (by simp; omega), cond_true, lim_ok (by simp; omega), cond_true, words_snoc h0]
  have := main l [] rfl
  rw [show wordsJ [] = [] from rfl, show (([] : List Int).length : Int) = 0 from rfl] at this
  refine bind_eq this ?_
  by_cases h0 : l = []
  · subst h0; rfl
  · rw [if_neg h0, decide_eq_false (words_ne h0 fun x hx => (h x hx).1)]; rfl
end Go.Proofs.YtkemmodgpafkmaaGreatDoor.Sh
namespace Go.Proofs.YtkemmodgpafkmaaGreatDoor.Sh
open Go Go.Ab Go.Proofs
def addT (n : GNet) (x : GTower) : GNet := (n.1 ++ [x], n.2)
theorem fine_addT {n : GNet} (h : isNet n = true) (x : GTower) : FineN (addT n x) := by
  have := net_sz h
  refine ⟨?_, ?_⟩
  · show (n.1 ++ [x]).length ≤ _
    simp; unfold maxLen; omega
  · show n.2.1.length ≤ _
    unfold maxLen; omega
theorem letters_s {s : Bytes} (h : s.length ≤ maxLen) : s_csLetters s = some (s.all Q.low && inB (s.length : Int) 1 40) := by
  unfold s_csLetters
  rw [all_loop (l := s) Q.low false ?_ ?_]
  · cases s.all Q.low with
    | false => rfl
    | true => simp only [cond_true, Option.bind_some, l1In_eq, Bool.true_and]
  · intro i x hx hi'
    simp only [idx_get, hx, Option.bind_some, at_lt hi', up h hi', Q.low]
    cases decide ((x.toNat : Int) < 97) <;> cases decide (122 < (x.toNat : Int)) <;> rfl
  · simp
theorem letters_i {s : Bytes} (h : s.length ≤ maxLen) : i_isScriptWord s = some (s.all Q.low && inB (s.length : Int) 1 40) := by
  unfold i_isScriptWord inB
  simp only [Q.i_small h]
  cases decide ((1 : Int) ≤ (s.length : Int)) <;> cases decide ((s.length : Int) ≤ 40) <;> cases s.all Q.low <;> rfl
end Go.Proofs.YtkemmodgpafkmaaGreatDoor.Sh
namespace Go.Ab
theorem copy_check {α β ρ : Type} (t : α → Bool) (g : α → β) (fin : List β → ρ) (bad : ρ) : ∀ (r : List α) (pre suf : List β), suf.length = r.length →
    forRes (fun (out : List β) i x => bif t x then (if i < out.length then some (.inl (out.set i (g x))) else none) else some (.inr bad)) fin (pre ++ suf) pre.length r = some (bif r.all t then fin (pre ++ r.map g) else bad)
  | [], pre, suf, h => by
    have : suf = [] := List.eq_nil_of_length_eq_zero h
    subst this
    simp [forRes]
  | x :: r, pre, suf, h => by
    cases suf with
    | nil => cases h
    | cons y suf =>
      simp only [forRes, List.all_cons]
      cases t x with
      | false => rfl
      | true =>
        have ih := copy_check t g fin bad r (pre ++ [g x]) suf (by simpa using h)
        rw [cond_true, if_pos (by simp)]
        simp only [Option.bind_some, Bool.true_and]
        have e : (pre ++ y :: suf).set pre.length (g x) = pre ++ [g x] ++ suf := by simp
        rw [e]
        simpa using ih
end Go.Ab
namespace Go.Proofs.YtkemmodgpafkmaaGreatDoor.Sh
open Go Go.Ab Go.Proofs
def isNum (s : Bytes) : Bool := inB (rdV s) 0 99999
def badP : Bytes × List Int × Bool := ([], [], false)
theorem s_nums {ws : List Bytes} (hl : ws.length ≤ 100000) (hs : ∀ s ∈ ws, s.length ≤ maxLen) : loopE (fun (st13 : (List Int) × Int) => (
 bif (decide (st13.2 < (ws.length : Int))) then
 (idx ws st13.2).bind fun e14 =>
 (s_l1Read e14).bind fun r15 =>
 (s_l1In r15 0 99999).bind fun r16 =>
 bif (!r16) then
 some (.inr (.inr ([], [], false)))
 else
 bif decide (List.length st13.1 + List.length [r15] ≤ lim) then
 some (.inl ((st13.1 ++ [r15]), (w64 (st13.2 + 1))))
 else
 none
 else
 some (.inr (.inl st13.1)) : Option (((List Int) × Int) ⊕ ((List Int) ⊕ (Bytes × (List Int) × Bool))))) ([], 0) = some (bif ws.all isNum then .inl (ws.map rdV) else .inr badP) := by
  have hlm : ws.length ≤ maxLen := by unfold maxLen; omega
  have main : ∀ (r pre : List Bytes) (out : List Int), ws = pre ++ r → out.length = pre.length → loopE (fun (st13 : (List Int) × Int) => (
 bif (decide (st13.2 < (ws.length : Int))) then
 (idx ws st13.2).bind fun e14 =>
 (s_l1Read e14).bind fun r15 =>
 (s_l1In r15 0 99999).bind fun r16 =>
 bif (!r16) then
 some (.inr (.inr ([], [], false)))
 else
 bif decide (List.length st13.1 + List.length [r15] ≤ lim) then
 some (.inl ((st13.1 ++ [r15]), (w64 (st13.2 + 1))))
 else
 none
 else
 some (.inr (.inl st13.1)) : Option (((List Int) × Int) ⊕ ((List Int) ⊕ (Bytes × (List Int) × Bool))))) (out, (pre.length : Int)) = some (bif r.all isNum then .inl (out ++ r.map rdV) else .inr badP) := by
    intro r
    induction r with
    | nil =>
      intro pre out e _
      rw [List.append_nil] at e
      subst e
      exact loopE_done (by simp)
    | cons x r ih =>
      intro pre out e ho
      have hi : pre.length < ws.length := by rw [e]; simp
      have hx : ws[pre.length]? = some x := by rw [e]; simp
      rw [List.all_cons]
      cases hn : isNum x with
      | false =>
        refine loopE_done ?_
        simp only [at_lt hi, cond_true, idx_get, hx, Option.bind_some, s_read (hs x (List.mem_of_getElem? hx)), l1In_eq]
        unfold isNum at hn
        rw [hn]
        rfl
      | true =>
        have ih' := ih (pre ++ [x]) (out ++ [rdV x]) (by rw [e]; simp) (by simp [ho])
        rw [show ((pre ++ [x]).length : Int) = (pre.length : Int) + 1 by simp] at ih'
        rw [loopE_step (a' := (out ++ [rdV x], (pre.length : Int) + 1)) ?_, ih']
        · simp
        · simp only [at_lt hi, cond_true, idx_get, hx, Option.bind_some, s_read (hs x (List.mem_of_getElem? hx)), l1In_eq, up hlm hi]
          unfold isNum at hn
          rw [hn, Bool.not_true, cond_false, lim_ok (by simp; omega), cond_true]
  exact main ws [] [] rfl rfl
end Go.Proofs.YtkemmodgpafkmaaGreatDoor.Sh
namespace Go.Proofs.YtkemmodgpafkmaaGreatDoor.Sh
open Go Go.Ab Go.Proofs
def mixG (a e : Int) : Int := Int.tmod (w64 ((Int.tmod (w64 ((w64 ((w64 (19 * a)) + e)) + 23)) 1000003) * (w64 ((w64 (Int.tdiv (Int.tmod (w64 ((w64 ((w64 (19 * a)) + e)) + 23)) 1000003) 16)) + 11)))) 1000003
theorem mix_same {k : List Int} (h : k.length ≤ 1000) : i_mixOf k = s_kyMix k := by
  unfold i_mixOf s_kyMix s_l1Own
  rw [cloneInt (by omega), lim_ok (n := k.length) (by omega)]
  rfl
theorem mixG_in {a e : Int} (ha : 0 ≤ a ∧ a < 1000003) (he : 0 ≤ e ∧ e ≤ 1000000000) : 0 ≤ mixG a e ∧ mixG a e < 1000003 := by
  unfold mixG
  rw [w64_of (x := 19 * a) (by omega) (by omega), w64_of (x := 19 * a + e) (by omega) (by omega), w64_of (x := 19 * a + e + 23) (by omega) (by omega)]
  rw [Int.tmod_eq_emod_of_nonneg (a := 19 * a + e + 23) (by omega)]
  generalize hx : (19 * a + e + 23) % 1000003 = x
  have hx0 : 0 ≤ x ∧ x < 1000003 := by omega
  rw [Int.tdiv_eq_ediv_of_nonneg hx0.1]
  generalize hy : x / 16 = y
  have hy0 : 0 ≤ y ∧ y ≤ 62501 := by omega
  rw [w64_of (x := y) (by omega) (by omega), w64_of (x := y + 11) (by omega) (by omega)]
  have h1 : 0 ≤ x * (y + 11) := Int.mul_nonneg hx0.1 (by omega)
  have h2 : x * (y + 11) ≤ 1000003 * 62512 := Int.mul_le_mul (by omega) (by omega) (by omega) (by omega)
  rw [w64_of (by omega) (by omega), Int.tmod_eq_emod_of_nonneg h1]
  omega
def mixV (k : List Int) : Int := (k ++ [3, 7]).foldl mixG (6907 + (k.length : Int))
theorem mix_s {k : List Int} (h : k.length ≤ 1000) (hk : ∀ e ∈ k, 0 ≤ e ∧ e ≤ 1000000000) : s_kyMix k = some (mixV k) ∧ 0 ≤ mixV k ∧ mixV k < 1000003 := by
  have hb : ∀ e ∈ k ++ [3, 7], 0 ≤ e ∧ e ≤ 1000000000 := fun e he => by
    rcases List.mem_append.1 he with he | he
    · exact hk e he
    · simp only [List.mem_cons, List.not_mem_nil, or_false] at he
      rcases he with rfl | rfl <;> omega
  have hlm : (k ++ [3, 7]).length ≤ maxLen := by simp; unfold maxLen; omega
  unfold s_kyMix s_l1Own
  rw [lim_ok (n := k.length) (by omega)]
  simp only [cond_true, Option.bind_some]
  rw [lim_ok (by simp; omega), cond_true, w64_of (by omega) (by omega)]
  have hloop := fold_loop (l := k ++ [3, 7]) (f := (fun (st3 : Int × (List Int) × Int) => (
 bif (decide (st3.2.2 < ((k ++ [3, 7]).length : Int))) then
 bif decide (0 ≤ st3.2.2) && decide (st3.2.2 < (st3.2.1.length : Int)) then
 (st3.2.1[(Int.toNat st3.2.2)]?).bind fun e4 =>
 some (.inl (mixG st3.1 e4, st3.2.1, (w64 (st3.2.2 + 1))))
 else
 none
 else
 some (.inr st3.1) : Option ((Int × (List Int) × Int) ⊕ (Int))))) (fun (a i : Int) => (a, k ++ [3, 7], i)) mixG (fun a => a) (fun _ a => 0 ≤ a ∧ a < 1000003) (6907 + (k.length : Int)) ⟨by omega, by omega⟩ (fun a i e he hi hI => ⟨by
      simp only [at_lt hi, cond_true, show decide ((0 : Int) ≤ (i : Int)) = true from decide_eq_true (by omega), Bool.and_self, Int.toNat_natCast, he, Option.bind_some, up hlm hi], mixG_in hI (hb e (List.mem_of_getElem? he))⟩) (fun a _ => by simp)
  exact ⟨bind_eq hloop.1 rfl, hloop.2⟩
def keyAt (b : GKeyBook) (p : Int) (k : Nat) : Int := Int.tmod (mixV [b.1, p, (k : Int)]) 60
def pageV (b : GKeyBook) (p : Int) : List Int := (List.range 20).map (keyAt b p)
structure KeyIn (b : GKeyBook) (p : Int) : Prop where
  s : 0 ≤ b.1 ∧ b.1 ≤ 1000000000
  p : 0 ≤ p ∧ p ≤ 1000000000
theorem KeyIn.mix {b : GKeyBook} {p : Int} (h : KeyIn b p) {k : Nat} (hk : k < 20) : s_kyMix [b.1, p, (k : Int)] = some (mixV [b.1, p, (k : Int)]) ∧ 0 ≤ mixV [b.1, p, (k : Int)] ∧ mixV [b.1, p, (k : Int)] < 1000003 :=
  mix_s (by simp) fun e he => by
    simp only [List.mem_cons, List.not_mem_nil, or_false] at he
    rcases he with rfl | rfl | rfl
    · exact h.s
    · exact h.p
    · omega
theorem KeyIn.at {b : GKeyBook} {p : Int} (h : KeyIn b p) {k : Nat} (hk : k < 20) : 0 ≤ keyAt b p k ∧ keyAt b p k < 60 := by
  obtain ⟨_, h1, h2⟩ := h.mix hk
  unfold keyAt
  rw [Int.tmod_eq_emod_of_nonneg h1]
  omega
theorem s_page {b : GKeyBook} {p : Int} (h : KeyIn b p) : s_kyPage b p = some (pageV b p) := by
  unfold s_kyPage
  have hloop := fold_loop (l := List.range 20) (f := (fun (st2 : (List Int) × Int) => (
 bif (decide (st2.2 < 20)) then
 (s_kyMix [b.1, p, st2.2]).bind fun r3 =>
 bif decide (List.length st2.1 + List.length [(Int.tmod r3 60)] ≤ lim) then
 some (.inl ((st2.1 ++ [(Int.tmod r3 60)]), (w64 (st2.2 + 1))))
 else
 none
 else
 some (.inr st2.1) : Option (((List Int) × Int) ⊕ ((List Int)))))) Prod.mk (fun a k => a ++ [keyAt b p k]) (fun s => s) (fun i s => s.length = i) [] rfl (fun s i x hx hi hI => by
      rw [List.length_range] at hi
      rw [List.getElem?_range hi] at hx
      cases hx
      refine ⟨?_, by simp [hI]⟩
      simp only [decide_eq_true (show (i : Int) < 20 by omega), cond_true, (h.mix hi).1, Option.bind_some]
      rw [lim_ok (by simp; omega), w64_of (by omega) (by omega)]
      rfl) (fun s _ => by simp)
  refine bind_eq hloop.1 ?_
  have : ∀ (l : List Nat) (acc : List Int), l.foldl (fun a k => a ++ [keyAt b p k]) acc = acc ++ l.map (keyAt b p) := by
    intro l
    induction l with
    | nil => intro acc; simp
    | cons x l ih => intro acc; rw [List.foldl_cons, ih]; simp
  rw [this]
  rfl
theorem i_page {b : GKeyBook} {p : Int} (h : KeyIn b p) : i_pageOf b p = some (pageV b p) := by
  unfold i_pageOf
  have hloop := copy_loop_mk (l := List.range 20) (z := (0 : Int)) (f := (fun (st2 : (List Int) × Int) => (
 bif (decide (st2.2 < ((List.replicate (Int.toNat 20) (0 : Int)).length : Int))) then
 (i_mixOf [b.1, p, st2.2]).bind fun r3 =>
 bif decide (0 ≤ st2.2) && decide (st2.2 < (st2.1.length : Int)) then
 some (.inl ((st2.1.set (Int.toNat st2.2) (Int.tmod r3 60)), (w64 (st2.2 + 1))))
 else
 none
 else
 some (.inr st2.1) : Option (((List Int) × Int) ⊕ ((List Int)))))) Prod.mk (fun s => s) (keyAt b p) (by simp) (fun out i x hx hi => by
      rw [List.length_range] at hi
      rw [List.getElem?_range hi] at hx
      cases hx
      simp only [show decide ((i : Int) < ((List.replicate (Int.toNat 20) (0 : Int)).length : Int)) = true from decide_eq_true (by simp; omega), cond_true, mix_same (k := [b.1, p, (i : Int)]) (by simp), (h.mix hi).1, Option.bind_some]
      rfl) (fun out => by simp)
  rw [show ((List.range 20).length : Int) = 20 by simp] at hloop
  rw [show (decide (0 ≤ 20) && decide (20 ≤ 20) && decide (20 ≤ lim)) = true from rfl, cond_true]
  exact bind_eq hloop rfl
end Go.Proofs.YtkemmodgpafkmaaGreatDoor.Sh
namespace Go.Proofs.YtkemmodgpafkmaaGreatDoor.Sh
open Go Go.Ab Go.Proofs
def keyL (k : Nat) : List Int := (List.range k).map fun (j : Nat) => (j : Int)
def kb (k : Nat) : GKeyBook := (7, 10, keyL k, ())
theorem keyL_len (k : Nat) : (keyL k).length = k := by simp [keyL]
theorem keyL_at {k i : Nat} (h : i < k) : (keyL k)[i]? = some (i : Int) := by simp [keyL, h]
theorem keyL_rise : ∀ k : Nat, k ≤ 10 → rising (keyL k) 0 9 = true := by decide
theorem keyL_rise2 : ∀ k : Nat, k ≤ 10 → ((keyL k).all (fun x => inB x 0 9) && (List.range (keyL k).length).all (risesAt (keyL k))) = true := by decide
theorem s_kb {k : Nat} (hk : k ≤ 10) : s_kyGood (kb k) = some true := by
  unfold s_kyGood kb
  simp only [l1In_eq, Option.bind_some]
  rw [show inB 7 0 1000000000 = true from rfl, show inB 10 1 60 = true from rfl]
  simp only [cond_true, Option.bind_some]
  rw [show w64 ((10 : Int) - 1) = 9 from rfl, s_rising (by rw [keyL_len]; unfold maxLen; omega), keyL_rise k hk]
  rfl
theorem i_kb {k : Nat} (hk : k ≤ 10) : i_IsKeyBook (kb k) = some true := by
  have hl : (keyL k).length ≤ maxLen := by rw [keyL_len]; unfold maxLen; omega
  have h := keyL_rise2 k hk
  rw [Bool.and_eq_true] at h
  unfold i_IsKeyBook kb
  simp only [within_eq, Option.bind_some]
  rw [show inB 7 0 1000000000 = true from rfl, show inB 10 1 60 = true from rfl]
  simp only [cond_true, Option.bind_some]
  rw [show w64 ((10 : Int) - 1) = 9 from rfl, i_all hl, h.1]
  simp only [cond_true, Option.bind_some, i_incr hl, h.2]
theorem keyL_succ (k : Nat) : keyL (k + 1) = keyL k ++ [(k : Int)] := by simp [keyL, List.range_succ]
theorem keyL_pair (k : Nat) : (keyL k).Pairwise (· < ·) := by
  unfold keyL
  rw [List.pairwise_map]
  exact List.pairwise_lt_range.imp fun h => by omega
theorem use_i {k : Nat} (hk : k ≤ 10) : i_usePage (kb k) (k : Int) = some (kb (k + 1)) := by
  unfold i_usePage kb
  simp only [cloneInt (l := keyL k) (by rw [keyL_len]; omega), Option.bind_some]
  rw [lim_ok (by simp [keyL_len]; omega), cond_true]
  have hs : sortIntF (keyL k ++ [(k : Int)]) = some (keyL (k + 1)) := by
    unfold sortIntF sortL
    rw [if_pos (by simp [keyL_len]; omega)]
    congr 1
    rw [← keyL_succ]
    refine sorted_is (lt := fun a b : Int => a < b) (fun a b h1 h2 => by omega) (List.mergeSort_perm _ _) ?_ (keyL_pair (k + 1))
    exact (List.pairwise_mergeSort (le := leI) (fun a b c h1 h2 => by simp only [leI, decide_eq_true_eq] at *; omega) (fun a b => by simp only [leI, Bool.or_eq_true, decide_eq_true_eq]; omega) _).imp fun {a b} h => by
      have : a ≤ b := by simpa [leI] using h
      omega
  rw [hs]
  rfl
theorem next_i {k : Nat} (hk : k ≤ 10) : i_UseNextPage (kb k) = some (if k = 10 then ((0, 0, [], ()), 0, false) else (kb (k + 1), (k : Int), true)) := by
  unfold i_UseNextPage
  simp only [i_kb hk, Option.bind_some, Bool.not_true, cond_false]
  have hl := keyL_len k
  have hd : decide (((kb k).2.2.1.length : Int) = (kb k).2.1) = decide (k = 10) := by
    show decide (((keyL k).length : Int) = 10) = _
    rw [hl]
    exact decide_eq_decide.2 (by omega)
  rw [hd]
  by_cases h10 : k = 10
  · rw [decide_eq_true h10, if_pos h10]; rfl
  · rw [decide_eq_false h10, if_neg h10, cond_false]
    have hw := while_loop (keyL k) (fun _ => true) (fun i => ((0 : Int), (0 : Int), ([] : List Int), i)) (fun i => ((0 : Int), (0 : Int), ([] : List Int), i)) (f := (fun (st4 : Int × Int × (List Int) × Int) => (
 (bif (decide (st4.2.2.2 < ((kb k).2.2.1.length : Int))) then
 (idx (kb k).2.2.1 st4.2.2.2).bind fun e5 =>
 some (decide (e5 = st4.2.2.2))
 else
 some false).bind fun c6 =>
 bif c6 then
 some (.inl (st4.1, st4.2.1, st4.2.2.1, (w64 (st4.2.2.2 + 1))))
 else
 some (.inr (st4.1, st4.2.1, st4.2.2.1, st4.2.2.2)) : Option ((Int × Int × (List Int) × Int) ⊕ ((Int × Int × (List Int) × Int))))))
      (fun i y hy hi => by
        have hi' : i < (kb k).2.2.1.length := hi
        have hik : i < k := by rw [hl] at hi; exact hi
        have hy2 : (kb k).2.2.1[i]? = some (i : Int) := keyL_at hik
        simp only [at_lt hi', cond_true, idx_get, hy2, Option.bind_some, decide_true]
        rw [w64_of (by omega) (by omega)]) (by
        show (bif decide (((keyL k).length : Int) < ((keyL k).length : Int)) then _ else some false).bind _ = _
        simp) (keyL k).length 0 (by omega)
    rw [show ((0 : Nat) : Int) = 0 from rfl] at hw
    refine bind_eq hw ?_
    have ht : ∀ l : List Int, l.takeWhile (fun _ => true) = l := fun l => by induction l with | nil => rfl | cons x l ih => rw [List.takeWhile_cons, if_pos rfl, ih]
    simp only [List.drop_zero, Nat.zero_add, ht, hl]
    rw [use_i hk]
    rfl
theorem has_s {k : Nat} (hk : k ≤ 10) (j : Nat) : s_l1Has (keyL k) (j : Int) = some (decide (j < k)) := by
  have hl := keyL_len k
  have hlm : (keyL k).length ≤ maxLen := by rw [hl]; unfold maxLen; omega
  unfold s_l1Has
  rw [all_loop (l := keyL k) (fun e => !decide (e = (j : Int))) true ?_ ?_]
  · have : ((keyL k).all fun e => !decide (e = (j : Int))) = !decide (j < k) := by
      by_cases h : j < k
      · rw [decide_eq_true h]
        rw [Bool.not_true, List.all_eq_false]
        exact ⟨(j : Int), List.mem_of_getElem? (keyL_at h), by simp⟩
      · rw [decide_eq_false h, Bool.not_false, List.all_eq_true]
        intro e he
        obtain ⟨i, hi, rfl⟩ := List.getElem_of_mem he
        rw [hl] at hi
        have := keyL_at hi
        rw [List.getElem?_eq_getElem (by rw [hl]; exact hi)] at this
        rw [Option.some.inj this]
        simp
        omega
    rw [this]
    cases decide (j < k) <;> rfl
  · intro i x hx hi
    simp only [idx_get, hx, Option.bind_some, at_lt hi, up hlm hi, cond_true]
    cases decide (x = (j : Int)) <;> rfl
  · simp
theorem free_s {k : Nat} (hk : k ≤ 10) : s_kyFree (kb k) = some (k : Int) := by
  unfold s_kyFree
  have main : ∀ (d j : Nat), j + d = k → loopE (fun (st2 : Int) => (
 (bif (decide (st2 < (kb k).2.1)) then
 (s_l1Has (kb k).2.2.1 st2).bind fun r3 =>
 some r3
 else
 some false).bind fun c4 =>
 bif c4 then
 some (.inl (w64 (st2 + 1)))
 else
 some (.inr st2) : Option ((Int) ⊕ (Int)))) (j : Int) = some (k : Int) := by
    intro d
    induction d with
    | zero =>
      intro j e
      obtain rfl : j = k := by omega
      refine loopE_done ?_
      show ((bif decide ((j : Int) < 10) then (s_l1Has (keyL j) (j : Int)).bind fun r3 => some r3 else some false).bind _) = _
      rw [has_s hk]
      cases decide ((j : Int) < 10) <;> simp
    | succ d ih =>
      intro j e
      rw [loopE_step (a' := ((j + 1 : Nat) : Int)) ?_]
      · exact ih (j + 1) (by omega)
      · show ((bif decide ((j : Int) < 10) then (s_l1Has (keyL k) (j : Int)).bind fun r3 => some r3 else some false).bind _) = _
        rw [has_s hk, decide_eq_true (show (j : Int) < 10 by omega), decide_eq_true (show j < k by omega)]
        simp only [cond_true, Option.bind_some]
        rw [w64_of (by omega) (by omega)]
        rfl
  have := main k 0 (by omega)
  rw [show ((0 : Nat) : Int) = 0 from rfl] at this
  exact bind_eq this rfl
theorem put_key (k : Nat) : putI (keyL k) (k : Int) = keyL (k + 1) := by
  have hn : ((keyL k).any fun x => decide ((k : Int) = x)) = false := by
    rw [List.any_eq_false]
    intro x hx
    unfold keyL at hx
    obtain ⟨j, hj, rfl⟩ := List.mem_map.1 hx
    have := List.mem_range.1 hj
    simp; omega
  have hp : putI (keyL k) (k : Int) = lowP (keyL k) (k : Int) ++ (k : Int) :: highP (keyL k) (k : Int) := by unfold putI; rw [hn]; rfl
  have hall : ∀ x ∈ keyL k, decide (x < (k : Int)) = true := fun x hx => by
    unfold keyL at hx
    obtain ⟨j, hj, rfl⟩ := List.mem_map.1 hx
    have := List.mem_range.1 hj
    simp; omega
  have hlo : lowP (keyL k) (k : Int) = keyL k := by
    unfold lowP
    have : ∀ l : List Int, (∀ x ∈ l, decide (x < (k : Int)) = true) → l.takeWhile (fun x => decide (x < (k : Int))) = l := by
      intro l
      induction l with
      | nil => intro _; rfl
      | cons x l ih => intro h; rw [List.takeWhile_cons, if_pos (h x (by simp)), ih fun y hy => h y (List.mem_cons_of_mem _ hy)]
    exact this _ hall
  have hhi : highP (keyL k) (k : Int) = [] := by
    have e := low_high (keyL k) (k : Int)
    rw [hlo] at e
    simpa using e
  rw [hp, hlo, hhi, keyL_succ]
theorem use_s {k : Nat} (hk : k ≤ 10) : s_kyUse (kb k) (k : Int) = some (kb (k + 1)) := by
  unfold s_kyUse kb
  obtain ⟨_, f2⟩ := put_facts (keyL_pair k) (by rw [keyL_len]; omega) (k : Int)
  have hn : ((keyL k).any fun x => decide ((k : Int) = x)) = false := by
    rw [List.any_eq_false]
    intro x hx
    unfold keyL at hx
    obtain ⟨j, hj, rfl⟩ := List.mem_map.1 hx
    have := List.mem_range.1 hj
    simp; omega
  simp only [f2 hn, Option.bind_some, put_key]
end Go.Proofs.YtkemmodgpafkmaaGreatDoor.Sh
namespace Go.Proofs.YtkemmodgpafkmaaGreatDoor.Sh
open Go Go.Ab Go.Proofs
def usesK (k : Nat) : GKeyBook × List Int × Bool := if k = 10 then ((0, 0, [], ()), [], false) else (kb (k + 1), [(k : Int)], true)
theorem s_use {k : Nat} (hk : k ≤ 10) {n : Nat} (h1 : 1 ≤ n) (h2 : n ≤ 20) : s_UseForLength (kb k) (n : Int) = some (usesK k) := by
  unfold s_UseForLength s_l1Own
  simp only [s_kb hk, Option.bind_some, Bool.not_true, cond_false, l1In_eq]
  rw [show inB (n : Int) 0 1200 = true by unfold inB; simp; omega]
  simp only [Bool.not_true, cond_false, show (kb k).2.2.1 = keyL k from rfl, show (kb k).1 = 7 from rfl, show (kb k).2.1 = 10 from rfl]
  rw [lim_ok (n := (keyL k).length) (by rw [keyL_len]; omega)]
  simp only [cond_true, Option.bind_some]
  unfold usesK
  by_cases h10 : k = 10
  · subst h10
    rw [if_pos rfl, loopE_done (b := .inr (0, 0, [], [], false)) ?_]
    · rfl
    · simp only [decide_eq_true (show (0 : Int) < (n : Int) by omega), cond_true]
      rw [show ((7, 10, keyL 10, ()) : GKeyBook) = kb 10 from rfl, free_s (by omega)]
      rfl
  · rw [if_neg h10, loopE_step (a' := (w64 ((n : Int) - 20), 0, 0, [], 7, 10, keyL (k + 1), [(k : Int)])) ?_, loopE_done (b := .inl (0, 0, [], 7, 10, keyL (k + 1), [(k : Int)])) ?_]
    · rfl
    · simp only []
      rw [w64_of (by omega) (by omega), decide_eq_false (show ¬ (0 : Int) < (n : Int) - 20 by omega)]
      rfl
    · simp only [decide_eq_true (show (0 : Int) < (n : Int) by omega), cond_true]
      rw [show ((7, 10, keyL k, ()) : GKeyBook) = kb k from rfl, free_s hk]
      simp only [Option.bind_some]
      rw [decide_eq_false (show ¬ (k : Int) = 10 by omega), cond_false, use_s hk]
      rfl
theorem i_use {k : Nat} (hk : k ≤ 10) {n : Nat} (h1 : 1 ≤ n) (h2 : n ≤ 20) : i_UseForLength (kb k) (n : Int) = some (usesK k) := by
  unfold i_UseForLength
  simp only [i_kb hk, Option.bind_some, Bool.not_true, cond_false, within_eq]
  rw [show inB (n : Int) 0 1200 = true by unfold inB; simp; omega]
  simp only [Bool.not_true, cond_false, show (kb k).2.2.1 = keyL k from rfl, show (kb k).1 = 7 from rfl, show (kb k).2.1 = 10 from rfl, cloneInt (l := keyL k) (by rw [keyL_len]; omega), Option.bind_some]
  have hp : w64 (Int.tdiv (w64 ((w64 ((n : Int) + 20)) - 1)) 20) = 1 := by
    rw [w64_of (x := (n : Int) + 20) (by omega) (by omega), w64_of (x := (n : Int) + 20 - 1) (by omega) (by omega), Int.tdiv_eq_ediv_of_nonneg (by omega)]
    rw [show ((n : Int) + 20 - 1) / 20 = 1 by omega]
    rfl
  rw [hp]
  unfold usesK
  by_cases h10 : k = 10
  · subst h10
    rw [if_pos rfl, loopE_done (b := .inr (0, 0, [], [], false)) ?_]
    · rfl
    · simp only [show decide ((0 : Int) < 1) = true from rfl, cond_true]
      rw [show ((7, 10, keyL 10, ()) : GKeyBook) = kb 10 from rfl, next_i (by omega)]
      rfl
  · rw [if_neg h10, loopE_step (a' := (7, 10, keyL (k + 1), 0, 0, [], [(k : Int)], 1)) ?_, loopE_done (b := .inl (7, 10, keyL (k + 1), 0, 0, [], [(k : Int)])) ?_]
    · rfl
    · rfl
    · simp only [show decide ((0 : Int) < 1) = true from rfl, cond_true]
      rw [show ((7, 10, keyL k, ()) : GKeyBook) = kb k from rfl, next_i hk, if_neg h10]
      rfl
end Go.Proofs.YtkemmodgpafkmaaGreatDoor.Sh
namespace Go.Proofs.YtkemmodgpafkmaaGreatDoor.Sh
open Go Go.Ab Go.Proofs
def hidN (P ns : List Int) (i : Nat) : Int := (ns.getD i 1 - 1 + P.getD i 0) % 60 + 1
def hidV (P ns : List Int) : List Int := (List.range ns.length).map (hidN P ns)
theorem pageV_len (b : GKeyBook) (p : Int) : (pageV b p).length = 20 := by simp [pageV]
theorem page_at {b : GKeyBook} {p : Int} (h : KeyIn b p) {i : Nat} (hi : i < 20) : ∃ v, (pageV b p)[i]? = some v ∧ 0 ≤ v ∧ v < 60 :=
  ⟨keyAt b p i, by simp [pageV, hi], h.at hi⟩
theorem numbers_i {b : GKeyBook} {p : Int} (h : KeyIn b p) : i_numbersOf b [p] = some (pageV b p) := by
  unfold i_numbersOf
  rw [loopE_step (a' := (pageV b p, 1)) ?_, loopE_done (b := pageV b p) ?_]
  · rfl
  · rfl
  · simp only [show decide ((0 : Int) < (([p] : List Int).length : Int)) = true from rfl, cond_true, show idx [p] 0 = some p from rfl, Option.bind_some, i_page h]
    rw [lim_ok (by rw [pageV_len]; simp)]
    rfl
theorem shifted_i {P ns : List Int} (hP : ∀ i : Nat, i < 20 → ∃ v, P[i]? = some v ∧ 0 ≤ v ∧ v < 60) (hl : ns.length ≤ 20) (hn : ∀ x ∈ ns, 1 ≤ x ∧ x ≤ 60) : i_shifted ns P 1 = some (hidV P ns) := by
  have hlm : ns.length ≤ maxLen := by unfold maxLen; omega
  unfold i_shifted
  rw [copy_guard (by omega), cond_true]
  have hloop := copy_loop_mk (l := List.range ns.length) (z := (0 : Int)) (f := (fun (st2 : (List Int) × Int) => (
 bif (decide (st2.2 < (ns.length : Int))) then
 (idx ns st2.2).bind fun e3 =>
 (idx P st2.2).bind fun e4 =>
 bif decide (0 ≤ st2.2) && decide (st2.2 < (st2.1.length : Int)) then
 some (.inl ((st2.1.set (Int.toNat st2.2) (w64 ((Int.tmod (w64 ((w64 ((w64 (e3 - 1)) + (w64 (1 * e4)))) + 60)) 60) + 1))), (w64 (st2.2 + 1))))
 else
 none
 else
 some (.inr st2.1) : Option (((List Int) × Int) ⊕ ((List Int)))))) Prod.mk (fun s => s) (hidN P ns) (by simp; omega) (fun out i x hx hi => by
      rw [List.length_range] at hi
      rw [List.getElem?_range hi] at hx
      cases hx
      obtain ⟨v, hv, v0, v1⟩ := hP i (by omega)
      have he : ns[i]? = some ns[i] := List.getElem?_eq_getElem hi
      have hb := hn _ (List.getElem_mem hi)
      simp only [at_lt hi, cond_true, idx_get, he, hv, Option.bind_some]
      have e : w64 ((Int.tmod (w64 ((w64 ((w64 (ns[i] - 1)) + (w64 (1 * v)))) + 60)) 60) + 1) = hidN P ns i := by
        have h1 : ns.getD i 1 = ns[i] := by simp [List.getD, he]
        have h2 : P.getD i 0 = v := by simp [List.getD, hv]
        unfold hidN
        rw [h1, h2, Int.one_mul, w64_of (x := ns[i] - 1) (by omega) (by omega), w64_of (x := v) (by omega) (by omega), w64_of (x := ns[i] - 1 + v) (by omega) (by omega), w64_of (x := ns[i] - 1 + v + 60) (by omega) (by omega), Int.tmod_eq_emod_of_nonneg (by omega), w64_of (by omega) (by omega)]
        omega
      rw [e]) (fun out => by simp)
  rw [List.length_range] at hloop
  exact bind_eq hloop rfl
theorem scAdd_s {P ns : List Int} (hP : ∀ i : Nat, i < 20 → ∃ v, P[i]? = some v ∧ 0 ≤ v ∧ v < 60) (hl : ns.length ≤ 20) (hn : ∀ x ∈ ns, 1 ≤ x ∧ x ≤ 60) : s_scAdd P ns 1 = some (hidV P ns) := by
  have hlm : ns.length ≤ maxLen := by unfold maxLen; omega
  unfold s_scAdd
  have hloop := fold_loop (l := List.range ns.length) (f := (fun (st2 : (List Int) × Int) => (
 bif (decide (st2.2 < (ns.length : Int))) then
 (idx ns st2.2).bind fun e3 =>
 (idx P st2.2).bind fun e4 =>
 bif decide (List.length st2.1 + List.length [(w64 ((Int.tmod (w64 ((Int.tmod (w64 ((w64 (e3 - 1)) + (w64 (1 * e4)))) 60) + 60)) 60) + 1))] ≤ lim) then
 some (.inl ((st2.1 ++ [(w64 ((Int.tmod (w64 ((Int.tmod (w64 ((w64 (e3 - 1)) + (w64 (1 * e4)))) 60) + 60)) 60) + 1))]), (w64 (st2.2 + 1))))
 else
 none
 else
 some (.inr st2.1) : Option (((List Int) × Int) ⊕ ((List Int)))))) Prod.mk (fun a k => a ++ [hidN P ns k]) (fun s => s) (fun i s => s.length = i) [] rfl (fun s i x hx hi hI => by
      rw [List.length_range] at hi
      rw [List.getElem?_range hi] at hx
      cases hx
      refine ⟨?_, by simp [hI]⟩
      obtain ⟨v, hv, v0, v1⟩ := hP i (by omega)
      have he : ns[i]? = some ns[i] := List.getElem?_eq_getElem hi
      have hb := hn _ (List.getElem_mem hi)
      simp only [at_lt hi, cond_true, idx_get, he, hv, Option.bind_some, up hlm hi]
      have e : w64 ((Int.tmod (w64 ((Int.tmod (w64 ((w64 (ns[i] - 1)) + (w64 (1 * v)))) 60) + 60)) 60) + 1) = hidN P ns i := by
        have h1 : ns.getD i 1 = ns[i] := by simp [List.getD, he]
        have h2 : P.getD i 0 = v := by simp [List.getD, hv]
        unfold hidN
        rw [h1, h2, Int.one_mul, w64_of (x := ns[i] - 1) (by omega) (by omega), w64_of (x := v) (by omega) (by omega), w64_of (x := ns[i] - 1 + v) (by omega) (by omega), Int.tmod_eq_emod_of_nonneg (a := ns[i] - 1 + v) (by omega), w64_of (x := (ns[i] - 1 + v) % 60 + 60) (by omega) (by omega), Int.tmod_eq_emod_of_nonneg (by omega), w64_of (by omega) (by omega)]
        omega
      rw [e, lim_ok (by simp; omega)]
      rfl) (fun s _ => by simp)
  rw [List.length_range] at hloop
  refine bind_eq hloop.1 ?_
  have : ∀ (l : List Nat) (acc : List Int), l.foldl (fun a k => a ++ [hidN P ns k]) acc = acc ++ l.map (hidN P ns) := by
    intro l
    induction l with
    | nil => intro acc; simp
    | cons x l ih => intro acc; rw [List.foldl_cons, ih]; simp
  rw [this]
  rfl
theorem scAll_s {b : GKeyBook} {p : Int} (h : KeyIn b p) {ns : List Int} (hl : ns.length ≤ 20) (hn : ∀ x ∈ ns, 1 ≤ x ∧ x ≤ 60) : s_scAll b [p] ns 1 = some (hidV (pageV b p) ns) := by
  unfold s_scAll
  have hlen : (hidV (pageV b p) ns).length ≤ 20 := by simp [hidV, hl]
  rw [loopE_step (a' := (hidV (pageV b p) ns, 1)) ?_, loopE_done (b := hidV (pageV b p) ns) ?_]
  · rfl
  · rfl
  · simp only [show decide ((0 : Int) < (([p] : List Int).length : Int)) = true from rfl, cond_true, show idx [p] 0 = some p from rfl, Option.bind_some, s_page h, least_eq]
    rw [show w64 ((w64 ((0 : Int) + 1)) * 20) = 20 from rfl, show w64 ((0 : Int) * 20) = 0 from rfl, show min (ns.length : Int) 20 = (ns.length : Int) by omega, sub_take (Nat.le_refl _), List.take_length, Option.bind_some, scAdd_s (fun i hi => page_at h hi) hl hn, Option.bind_some, lim_ok (by simp; omega)]
    rfl
theorem kb_in {k : Nat} (hk : k ≤ 10) : KeyIn (kb k) (k : Int) := ⟨⟨by show (0 : Int) ≤ 7; omega, by show (7 : Int) ≤ 1000000000; omega⟩, ⟨by omega, by omega⟩⟩
def hideV (k : Nat) (ns : List Int) : GKeyBook × GSecret × Bool :=
  bif ns.all (fun x => inB x 1 60) then (if k = 10 then ((0, 0, [], ()), ([], [], ()), false) else (kb (k + 1), ([(k : Int)], hidV (pageV (kb k) (k : Int)) ns, ()), true)) else ((0, 0, [], ()), ([], [], ()), false)
theorem in_iff {l : List Int} (h : (l.all fun x => inB x 1 60) = true) : ∀ x ∈ l, 1 ≤ x ∧ x ≤ 60 := fun x hx => by
  have := List.all_eq_true.1 h x hx
  unfold inB at this
  simpa using this
theorem i_hide {k : Nat} (hk : k ≤ 10) {ns : List Int} (h1 : 1 ≤ ns.length) (hl : ns.length ≤ 20) : i_HideMessage (kb k) ns = some (hideV k ns) := by
  unfold i_HideMessage hideV
  rw [decide_eq_false (show ¬ (60 : Int) < (ns.length : Int) by omega)]
  simp only [cond_false, i_all (l := ns) (by unfold maxLen; omega), Option.bind_some]
  cases ha : (ns.all fun x => inB x 1 60) with
  | false => rfl
  | true =>
    simp only [Bool.not_true, cond_false, cond_true, i_use hk h1 hl, Option.bind_some]
    unfold usesK
    by_cases h10 : k = 10
    · rw [if_pos h10, if_pos h10]; rfl
    · rw [if_neg h10, if_neg h10]
      have hin := kb_in hk
      simp only [Bool.not_true, cond_false, numbers_i hin, shifted_i (fun i hi => page_at hin hi) hl (in_iff ha), Option.bind_some]
theorem s_hideV {k : Nat} (hk : k ≤ 10) {ns : List Int} (h1 : 1 ≤ ns.length) (hl : ns.length ≤ 20) : s_HideMessage (kb k) ns = some (hideV k ns) := by
  unfold s_HideMessage hideV s_scContents
  have hq : s_l1All ns 1 60 = some (ns.all fun x => inB x 1 60) := Q.s_all (by unfold maxLen; omega)
  rw [decide_eq_false (show ¬ (60 : Int) < (ns.length : Int) by omega)]
  simp only [cond_false, hq, Option.bind_some]
  cases ha : (ns.all fun x => inB x 1 60) with
  | false => rfl
  | true =>
    simp only [Bool.not_true, cond_false, cond_true, s_use hk h1 hl, Option.bind_some]
    unfold usesK
    by_cases h10 : k = 10
    · rw [if_pos h10, if_pos h10]; rfl
    · rw [if_neg h10, if_neg h10]
      simp only [Bool.not_true, cond_false, scAll_s (kb_in hk) hl (in_iff ha), Option.bind_some]
end Go.Proofs.YtkemmodgpafkmaaGreatDoor.Sh
namespace Go.Proofs.YtkemmodgpafkmaaGreatDoor.Sh
open Go Go.Ab Go.Proofs Go.Lib
theorem sgLine_s {l : List Int} (hl : l.length ≤ 100000) (h : ∀ x ∈ l, 0 ≤ x ∧ x ≤ 9223372036854775807) : s_sgLine l = some (wordsJ l) := by
  have hlm : l.length ≤ maxLen := by unfold maxLen; omega
  unfold s_sgLine
  have main : ∀ (r pre : List Int), l = pre ++ r → loopE (fun (st2 : Bytes × Int) => (
 bif (decide (st2.2 < (l.length : Int))) then
 (idx l st2.2).bind fun e3 =>
 bif (decide (0 < st2.2)) then
 bif decide (List.length st2.1 + List.length ([32] : Bytes) ≤ lim) then
 (s_l1Num e3).bind fun r4 =>
 bif decide (List.length (st2.1 ++ ([32] : Bytes)) + List.length r4 ≤ lim) then
 some (.inl (((st2.1 ++ ([32] : Bytes)) ++ r4), (w64 (st2.2 + 1))))
 else
 none
 else
 none
 else
 (s_l1Num e3).bind fun r5 =>
 bif decide (List.length st2.1 + List.length r5 ≤ lim) then
 some (.inl ((st2.1 ++ r5), (w64 (st2.2 + 1))))
 else
 none
 else
 some (.inr st2.1) : Option ((Bytes × Int) ⊕ (Bytes)))) (wordsJ pre, (pre.length : Int)) = some (wordsJ l) := by
    intro r
    induction r with
    | nil =>
      intro pre e
      rw [List.append_nil] at e
      subst e
      exact loopE_done (by simp)
    | cons x r ih =>
      intro pre e
      have hi : pre.length < l.length := by rw [e]; simp
      have hx : l[pre.length]? = some x := by rw [e]; simp
      have hb := h x (List.mem_of_getElem? hx)
      have hw := words_len pre (fun z hz => h z (by rw [e]; exact List.mem_append_left _ hz))
      have hi2 := itoa_length_le x (by omega) hb.2
      have ih' := ih (pre ++ [x]) (by rw [e]; simp)
      rw [show ((pre ++ [x]).length : Int) = (pre.length : Int) + 1 by simp] at ih'
      by_cases h0 : pre = []
      · subst h0
        rw [loopE_step (a' := (wordsJ ([] ++ [x]), (([] : List Int).length : Int) + 1)) ?_]
        · exact ih'
        · simp only [at_lt hi, cond_true, idx_get, hx, Option.bind_some, num_eq hb.1 hb.2, up hlm hi]
          rw [show decide ((0 : Int) < (([] : List Int).length : Int)) = false from rfl, cond_false, show wordsJ [] = [] from rfl, lim_ok (by simp; omega), cond_true]
          simp [wordsJ, join, List.intercalate]
      · have hp : 0 < pre.length := List.length_pos_iff.2 h0
        rw [loopE_step (a' := (wordsJ (pre ++ [x]), (pre.length : Int) + 1)) ?_]
        · exact ih'
        · simp only [at_lt hi, cond_true, idx_get, hx, Option.bind_some, num_eq hb.1 hb.2, up hlm hi, decide_eq_true (show (0 : Int) < (pre.length : Int) by omega)]
          rw [lim_ok (by simp; omega), cond_true, lim_ok (by simp; omega), cond_true, words_snoc h0]
  have := main l [] rfl
  rw [show wordsJ [] = [] from rfl, show (([] : List Int).length : Int) = 0 from rfl] at this
  exact bind_eq this rfl
theorem joinOne {x : Int} (h0 : 0 ≤ x) (h1 : x ≤ 9223372036854775807) (sep : Bytes) : i_joinNumbers [x] sep = some (itoa x) := by
  rw [joinNumbers_eq (by simp)]
  unfold joinF
  have e : join ([x].map itoa) sep = itoa x := by simp [join, List.intercalate]
  have := itoa_length_le x (by omega) h1
  rw [e, if_pos ⟨by simp, by omega⟩]
def secretV (k : Nat) (ns : List Int) : Bytes := itoa (k : Int) ++ [58] ++ wordsJ ns
theorem s_secret {k : Nat} (hk : k ≤ 59) {ns : List Int} (hl : ns.length ≤ 60) (hn : ∀ x ∈ ns, 1 ≤ x ∧ x ≤ 60) : s_scText ([(k : Int)], ns, ()) = some (secretV k ns) := by
  have hb : ∀ x ∈ ns, 0 ≤ x ∧ x ≤ 9223372036854775807 := fun x hx => by have := hn x hx; omega
  have hw := words_len ns hb
  have hi := itoa_length_le (k : Int) (by omega) (by omega)
  unfold s_scText
  rw [loopE_step (a' := (itoa (k : Int), 1)) ?_, loopE_done (b := itoa (k : Int)) ?_]
  · simp only [Option.bind_some, sgLine_s (l := ns) (by omega) hb]
    rw [lim_ok (by simp; omega), cond_true, lim_ok (by simp; omega), cond_true]
    rfl
  · rfl
  · simp only [show decide ((0 : Int) < (([(k : Int)] : List Int).length : Int)) = true from rfl, cond_true, show idx [(k : Int)] 0 = some (k : Int) from rfl, Option.bind_some, show decide ((0 : Int) < 0) = false from rfl, cond_false, num_eq (n := (k : Int)) (by omega) (by omega)]
    rw [lim_ok (by simp; omega), cond_true]
    rfl
theorem i_secret {k : Nat} (hk : k ≤ 59) {ns : List Int} (h1 : 1 ≤ ns.length) (hl : ns.length ≤ 20) (hn : ∀ x ∈ ns, 1 ≤ x ∧ x ≤ 60) : i_SecretText ([(k : Int)], ns, ()) = some (secretV k ns, true) := by
  have hb : ∀ x ∈ ns, 0 ≤ x ∧ x ≤ 9223372036854775807 := fun x hx => by have := hn x hx; omega
  have hw := words_len ns hb
  have hi := itoa_length_le (k : Int) (by omega) (by omega)
  have ha : (ns.all fun x => inB x 1 60) = true := by
    rw [List.all_eq_true]
    intro x hx
    have := hn x hx
    unfold inB
    simp
    omega
  have hs : i_IsSecret ([(k : Int)], ns, ()) = some true := by
    unfold i_IsSecret i_neededPages
    rw [decide_eq_false (show ¬ (60 : Int) < (ns.length : Int) by omega)]
    simp only [cond_false, i_all (l := ns) (by unfold maxLen; omega), ha, Option.bind_some, Bool.not_true]
    have hp : w64 (Int.tdiv (w64 ((w64 ((ns.length : Int) + 20)) - 1)) 20) = 1 := by
      rw [w64_of (x := (ns.length : Int) + 20) (by omega) (by omega), w64_of (x := (ns.length : Int) + 20 - 1) (by omega) (by omega), Int.tdiv_eq_ediv_of_nonneg (by omega)]
      rw [show ((ns.length : Int) + 20 - 1) / 20 = 1 by omega]
      rfl
    rw [hp, show decide ((([(k : Int)] : List Int).length : Int) = 1) = true from rfl]
    simp only [Bool.not_true, cond_false, Option.bind_some, i_all (l := [(k : Int)]) (by unfold maxLen; simp)]
    rw [show ([(k : Int)].all fun x => inB x 0 59) = true by unfold inB; simp; omega]
    simp only [Bool.not_true, cond_false, Option.bind_some, cloneInt (l := [(k : Int)]) (by simp)]
    rw [show sortIntF [(k : Int)] = some [(k : Int)] by unfold sortIntF sortL; rw [if_pos (by simp)]; simp]
    rw [Option.bind_some, i_incr (by unfold maxLen; simp), Option.bind_some]
    rfl
  unfold i_SecretText
  simp only [hs, Option.bind_some, Bool.not_true, cond_false, joinOne (x := (k : Int)) (by omega) (by omega)]
  rw [lim_ok (by simp; omega), cond_true, i_words (by omega) hb, Option.bind_some, lim_ok (by simp; omega), cond_true]
  rfl
end Go.Proofs.YtkemmodgpafkmaaGreatDoor.Sh
