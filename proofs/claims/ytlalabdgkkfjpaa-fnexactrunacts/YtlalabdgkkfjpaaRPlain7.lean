/-
  Networks in plain Lean: ArrivedMessages.
-/
import Derived.Test.YtlalabdgkkfjpaaRPlain6
namespace Go.Proofs.Ytlalabdgkkfjpaa.Sh
open Go Go.Ab Go.Proofs

def there (T : Int) (x : GParcel) : Bool := decide (x.2.2.2.1 = x.2.2.2.2.1) && decide (x.2.2.2.2.2.1 ≤ T)
theorem away_eq (x : GParcel) (w : GNetwork) : i_ArrivedMessages_1 x w = some (!there w.2.2.1 x) := by
  unfold i_ArrivedMessages_1 there
  rw [not_lt w.2.2.1]
  cases decide (x.2.2.2.1 = x.2.2.2.2.1) <;> cases decide (x.2.2.2.2.2.1 ≤ w.2.2.1) <;> rfl
theorem away_any {l : List GParcel} (hl : l.length ≤ maxLen) (w : GNetwork) : slices_ContainsFunc_Parcel_101 l (w, ()) = some (l.any fun x => !there w.2.2.1 x) := by
  unfold slices_ContainsFunc_Parcel_101 slices_IndexFunc_Parcel_101
  rw [find_loop (l := l) (fun x => !there w.2.2.1 x) ?_ ?_]
  · rw [← find_or (fun x => !there w.2.2.1 x) l 0]
    cases firstAt (fun x => !there w.2.2.1 x) l 0 with
    | none => rfl
    | some i => simp only [Option.bind_some, dec_t (by omega : 0 ≤ (i : Int)), Option.isSome_some]
  · intro i x hx hi
    simp only [idx_get, hx, Option.bind_some, at_lt hi, up hl hi, cond_true, away_eq]
    cases there w.2.2.1 x <;> rfl
  · simp

def cnt (T : Int) (ps : List GParcel) (i j : Nat) : Nat := (List.range j).countP fun d => there T (P ps (i + d))
theorem cnt_succ (T : Int) (ps : List GParcel) (i j : Nat) : cnt T ps i (j + 1) = cnt T ps i j + (bif there T (P ps (i + j)) then 1 else 0) := by
  unfold cnt
  rw [List.range_succ, List.countP_append]
  simp only [List.countP_cons, List.countP_nil, Nat.zero_add]
  cases there T (P ps (i + j)) <;> rfl
theorem cnt_le (T : Int) (ps : List GParcel) (i j : Nat) : cnt T ps i j ≤ j := by
  have := List.countP_le_length (p := fun d => there T (P ps (i + d))) (l := List.range j)
  simpa [cnt] using this
theorem cnt_all (T : Int) (ps : List GParcel) (i j : Nat) : cnt T ps i j = j ↔ ∀ d, d < j → there T (P ps (i + d)) = true := by
  have := List.countP_eq_length (p := fun d => there T (P ps (i + d))) (l := List.range j)
  simpa [cnt] using this

noncomputable abbrev sArr (w : GNetwork) (st3 : (List Int) × Int × Int) : Option (((List Int) × Int × Int) ⊕ ((List Int))) :=
        bif (decide (st3.2.2 < (w.2.2.2.1.length : Int))) then
          (idx w.2.2.2.1 st3.2.2).bind fun e4 =>
          (bif (decide (e4.2.1 = 0)) then
              some (st3.1, (0 : Int), e4.1, e4.2.1, e4.2.2.1, e4.2.2.2.1, e4.2.2.2.2.1, e4.2.2.2.2.2.1)
            else
              some (st3.1, st3.2.1, e4.1, e4.2.1, e4.2.2.1, e4.2.2.2.1, e4.2.2.2.2.1, e4.2.2.2.2.2.1)).bind fun j5 =>
          (bif (decide (j5.2.2.2.2.2.1 = j5.2.2.2.2.2.2.1)) then
              some (decide (j5.2.2.2.2.2.2.2 ≤ w.2.2.1))
            else
              some false).bind fun c6 =>
          bif c6 then
            bif (decide ((w64 (j5.2.1 + 1)) = j5.2.2.2.2.1)) then
              bif decide (List.length j5.1 + List.length [j5.2.2.1] ≤ lim) then
                some (.inl ((j5.1 ++ [j5.2.2.1]), (w64 (j5.2.1 + 1)), (w64 (st3.2.2 + 1))))
              else
                none
            else
              some (.inl (j5.1, (w64 (j5.2.1 + 1)), (w64 (st3.2.2 + 1))))
          else
            bif (decide (j5.2.1 = j5.2.2.2.2.1)) then
              bif decide (List.length j5.1 + List.length [j5.2.2.1] ≤ lim) then
                some (.inl ((j5.1 ++ [j5.2.2.1]), j5.2.1, (w64 (st3.2.2 + 1))))
              else
                none
            else
              some (.inl (j5.1, j5.2.1, (w64 (st3.2.2 + 1))))
        else
          some (.inr st3.1)
noncomputable abbrev iArr (w : GNetwork) (st3 : (List Int) × Int) : Option (((List Int) × Int) ⊕ ((List Int))) :=
        bif (decide (st3.2 < (w.2.2.2.1.length : Int))) then
          (idx w.2.2.2.1 st3.2).bind fun e4 =>
          (sub w.2.2.2.1 st3.2 (w64 (st3.2 + e4.2.2.1))).bind fun l5 =>
          (slices_ContainsFunc_Parcel_101 l5 (w, ())).bind fun r6 =>
          bif (!r6) then
            (idx l5 0).bind fun e7 =>
            bif decide (List.length st3.1 + List.length [e7.1] ≤ lim) then
              (idx w.2.2.2.1 st3.2).bind fun e8 =>
              some (.inl ((st3.1 ++ [e7.1]), (w64 (st3.2 + e8.2.2.1))))
            else
              none
          else
            (idx w.2.2.2.1 st3.2).bind fun e9 =>
            some (.inl (st3.1, (w64 (st3.2 + e9.2.2.1))))
        else
          some (.inr st3.1)

theorem sArr_step (w : GNetwork) (hl : w.2.2.2.1.length ≤ 40) {i : Nat} (hi : i < w.2.2.2.1.length) (out : List Int) (ho : out.length ≤ 1000) (a : Int) (ha : 0 ≤ a ∧ a ≤ 1000) (a' : Int)
    (h' : a' = (bif decide ((P w.2.2.2.1 i).2.1 = 0) then 0 else a) + (bif there w.2.2.1 (P w.2.2.2.1 i) then 1 else 0)) :
    sArr w (out, a, (i : Int)) = some (.inl ((bif decide (a' = (P w.2.2.2.1 i).2.2.1) then out ++ [(P w.2.2.2.1 i).1] else out), a', (i : Int) + 1)) := by
  unfold sArr
  simp only [at_lt hi, cond_true, idxP hi, Option.bind_some]
  generalize P w.2.2.2.1 i = x at *
  have el := lim_ok (n := out.length + [x.1].length) (by simp; omega)
  have ei : w64 ((i : Int) + 1) = (i : Int) + 1 := w64_of (by omega) (by omega)
  obtain ⟨a0, e0, b0⟩ : ∃ a0, (bif decide (x.2.1 = 0) then 0 else a) = a0 ∧ 0 ≤ a0 ∧ a0 ≤ 1000 := by
    cases decide (x.2.1 = 0) with
    | true => exact ⟨0, rfl, by omega, by omega⟩
    | false => exact ⟨a, rfl, ha.1, ha.2⟩
  have ej : (bif (decide (x.2.1 = 0)) then
              some (out, (0 : Int), x.1, x.2.1, x.2.2.1, x.2.2.2.1, x.2.2.2.2.1, x.2.2.2.2.2.1)
            else
              some (out, a, x.1, x.2.1, x.2.2.1, x.2.2.2.1, x.2.2.2.2.1, x.2.2.2.2.2.1)) = some (out, a0, x.1, x.2.1, x.2.2.1, x.2.2.2.1, x.2.2.2.2.1, x.2.2.2.2.2.1) := by
    rw [← e0]; cases decide (x.2.1 = 0) <;> rfl
  rw [ej]
  rw [e0] at h'
  have et : (bif (decide (x.2.2.2.1 = x.2.2.2.2.1)) then some (decide (x.2.2.2.2.2.1 ≤ w.2.2.1)) else some false) = some (there w.2.2.1 x) := by
    unfold there; cases decide (x.2.2.2.1 = x.2.2.2.2.1) <;> rfl
  simp only [Option.bind_some]
  rw [et]
  subst h'
  simp only [Option.bind_some]
  cases there w.2.2.1 x with
  | true =>
    simp only [cond_true, w64_of (x := a0 + 1) (by omega) (by omega), el, ei]
    cases decide (a0 + 1 = x.2.2.1) <;> rfl
  | false =>
    simp only [cond_false, Int.add_zero, cond_true, el, ei]
    cases decide (a0 = x.2.2.1) <;> rfl

theorem arr_group {w : GNetwork} (hl : w.2.2.2.1.length ≤ 40) {i k : Nat} (k1 : 1 ≤ k) (k9 : k ≤ 9) (hik : i + k ≤ w.2.2.2.1.length) (hk : (P w.2.2.2.1 i).2.2.1 = (k : Int))
    (hg : ∀ j, j < k → InG w.1.1.length (P w.2.2.2.1 i) j (P w.2.2.2.1 (i + j))) (out : List Int) (ho : out.length ≤ 900) (a : Int) (ha : 0 ≤ a ∧ a ≤ 1000) :
    ∀ j, j < k → loopE (sArr w) (out, a, (i : Int)) = loopE (sArr w) ((bif decide (j + 1 = k) && decide (cnt w.2.2.1 w.2.2.2.1 i k = k) then out ++ [(P w.2.2.2.1 i).1] else out), (cnt w.2.2.1 w.2.2.2.1 i (j + 1) : Int), (((i + (j + 1) : Nat)) : Int)) := by
  intro j
  induction j with
  | zero =>
    intro h
    have g := hg 0 h
    have hp := g.p
    have hc := cnt_succ w.2.2.1 w.2.2.2.1 i 0
    have h0 : cnt w.2.2.1 w.2.2.2.1 i 0 = 0 := rfl
    rw [h0] at hc
    simp only [Nat.add_zero] at hp hc
    rw [loopE_step (sArr_step w hl (by omega) out (by omega) a ha (cnt w.2.2.1 w.2.2.2.1 i (0 + 1) : Int) (by
      rw [hc, hp]
      cases there w.2.2.1 (P w.2.2.2.1 i) <;> simp))]
    have e : decide ((cnt w.2.2.1 w.2.2.2.1 i (0 + 1) : Int) = (P w.2.2.2.1 i).2.2.1) = (decide (0 + 1 = k) && decide (cnt w.2.2.1 w.2.2.2.1 i k = k)) := by
      rw [hk]
      have := cnt_le w.2.2.1 w.2.2.2.1 i (0 + 1)
      rw [Bool.eq_iff_iff]
      simp only [Bool.and_eq_true, decide_eq_true_eq]
      constructor
      · intro h; have : 0 + 1 = k := by omega
        refine ⟨this, ?_⟩; subst this; omega
      · rintro ⟨h1, h2⟩; subst h1; omega
    rw [e]
    rfl
  | succ j ih =>
    intro h
    rw [ih (by omega), dec_f (by omega : ¬ j + 1 = k)]
    have g := hg (j + 1) h
    have hc := cnt_succ w.2.2.1 w.2.2.2.1 i (j + 1)
    have hle := cnt_le w.2.2.1 w.2.2.2.1 i (j + 1)
    simp only [Bool.false_and, cond_false]
    rw [loopE_step (sArr_step w hl (by omega) out (by omega) _ (by omega) (cnt w.2.2.1 w.2.2.2.1 i (j + 1 + 1) : Int) (by
      rw [hc, g.p, dec_f (by omega : ¬ ((j + 1 : Nat) : Int) = 0)]
      cases there w.2.2.1 (P w.2.2.2.1 (i + (j + 1))) <;> simp))]
    have e : decide ((cnt w.2.2.1 w.2.2.2.1 i (j + 1 + 1) : Int) = (P w.2.2.2.1 (i + (j + 1))).2.2.1) = (decide (j + 1 + 1 = k) && decide (cnt w.2.2.1 w.2.2.2.1 i k = k)) := by
      rw [g.k, hk]
      have := cnt_le w.2.2.1 w.2.2.2.1 i (j + 1 + 1)
      rw [Bool.eq_iff_iff]
      simp only [Bool.and_eq_true, decide_eq_true_eq]
      constructor
      · intro h; have : j + 1 + 1 = k := by omega
        refine ⟨this, ?_⟩; subst this; omega
      · rintro ⟨h1, h2⟩; subst h1; omega
    rw [e, g.m]
    rfl

theorem own_any {T : Int} {ps : List GParcel} {i k : Nat} (h : i + k ≤ ps.length) : (((ps.take (i + k)).drop i).any fun x => !there T x) = !decide (cnt T ps i k = k) := by
  rw [Bool.eq_iff_iff]
  simp only [List.any_eq_true, Bool.not_eq_true', decide_eq_false_iff_not, cnt_all]
  constructor
  · rintro ⟨x, hx, h2⟩ hall
    obtain ⟨d, hd, rfl⟩ := List.getElem_of_mem hx
    simp only [List.length_drop, List.length_take] at hd
    have := hall d (by omega)
    rw [List.getElem_drop, List.getElem_take] at h2
    unfold P at this
    rw [List.getD_eq_getElem?_getD, List.getElem?_eq_getElem (by omega)] at this
    simp only [Option.getD_some] at this
    rw [this] at h2
    cases h2
  · intro hn
    refine Classical.byContradiction fun hc => hn fun d hd => ?_
    cases ht : there T (P ps (i + d)) with
    | true => rfl
    | false =>
      exfalso
      apply hc
      refine ⟨P ps (i + d), ?_, ht⟩
      have e : P ps (i + d) = ((ps.take (i + k)).drop i)[d]'(by simp; omega) := by
        unfold P
        rw [List.getElem_drop, List.getElem_take, List.getD_eq_getElem?_getD, List.getElem?_eq_getElem (by omega)]
        rfl
      rw [e]
      exact List.getElem_mem _

theorem arr_both {w : GNetwork} (hl : w.2.2.2.1.length ≤ 40) {last : Int} {i : Nat} (h : Groups w.1.1.length w.2.2.2.1 last i) :
    ∀ (out : List Int) (a : Int), 0 ≤ a ∧ a ≤ 1000 → i ≤ w.2.2.2.1.length → out.length ≤ i → ∃ v, loopE (sArr w) (out, a, (i : Int)) = some v ∧ loopE (iArr w) (out, (i : Int)) = some v ∧ v.length ≤ 40 := by
  induction h with
  | nil =>
    intro out a ha _ ho
    exact ⟨out, loopE_done (by simp [sArr]), loopE_done (by simp [iArr]), by omega⟩
  | @step last i k h hm h9 hk k1 k9 hik hg r ih =>
    intro out a ha _ ho
    have hs := arr_group hl k1 k9 hik hk hg out (by omega) a ha (k - 1) (by omega)
    rw [show k - 1 + 1 = k by omega, dec_t (rfl : k = k), Bool.true_and] at hs
    rw [hs]
    have hi : iArr w (out, (i : Int)) = some (.inl ((bif decide (cnt w.2.2.1 w.2.2.2.1 i k = k) then out ++ [(P w.2.2.2.1 i).1] else out), ((i + k : Nat) : Int))) := by
      unfold iArr
      have e1 : w64 ((i : Int) + (k : Int)) = ((i + k : Nat) : Int) := by rw [w64_of (by omega) (by omega)]; omega
      have e2 : sub w.2.2.2.1 (i : Int) ((i + k : Nat) : Int) = some ((w.2.2.2.1.take (i + k)).drop i) := by
        unfold sub
        rw [if_pos (by omega)]
        simp only [Int.toNat_natCast]
      have e3 : idx ((w.2.2.2.1.take (i + k)).drop i) 0 = some (P w.2.2.2.1 i) := by
        have := idx_get (xs := (w.2.2.2.1.take (i + k)).drop i) (i := 0)
        rw [show ((0 : Nat) : Int) = 0 from rfl] at this
        rw [this]
        unfold P
        rw [List.getElem?_drop, Nat.add_zero, List.getElem?_take, if_pos (by omega), List.getD_eq_getElem?_getD, List.getElem?_eq_getElem h]
        rfl
      have el := lim_ok (n := out.length + [(P w.2.2.2.1 i).1].length) (by simp; omega)
      simp only [at_lt h, cond_true, idxP h, Option.bind_some, hk, e1, e2]
      rw [away_any (by unfold maxLen; simp; omega), own_any hik]
      simp only [Option.bind_some, Bool.not_not, e3, el, cond_true]
      cases decide (cnt w.2.2.1 w.2.2.2.1 i k = k) <;> rfl
    rw [loopE_step hi]
    have := cnt_le w.2.2.1 w.2.2.2.1 i k
    refine ih _ _ (by omega) hik ?_
    cases decide (cnt w.2.2.1 w.2.2.2.1 i k = k) <;> simp <;> omega

theorem arr_same {w : GNetwork} (hw : FineW w) : ∃ v b, s_ArrivedMessages w = some (v, b) ∧ i_ArrivedMessages w = some (v, b) ∧ v.length ≤ 1048576 := by
  unfold s_ArrivedMessages i_ArrivedMessages
  rw [s_isNw hw, i_isNw hw]
  simp only [Option.bind_some]
  cases hn : isNw w with
  | false => exact ⟨[], false, rfl, rfl, by simp⟩
  | true =>
  obtain ⟨hg, hl⟩ := isNw_groups hn
  obtain ⟨v, h1, h2, h3⟩ := arr_both hl hg [] 0 (by omega) (by omega) (by simp)
  refine ⟨v, true, ?_, ?_, by omega⟩
  · exact bind_eq h1 rfl
  · exact bind_eq h2 rfl

/-- FnExactArrivedMessages -/
theorem plain_ArrivedMessages (w : GNetwork) (hw : FineW w) : l_FnExactArrivedMessages w = some true := by
  unfold l_FnExactArrivedMessages
  obtain ⟨r, hr, h2⟩ := szNetwork hw
  rw [hr]
  simp only [Option.bind_some]
  by_cases h3 : r < 0
  · rw [dec_t h3]; rfl
  rw [dec_f h3]
  have hs : SmallW w := h2.resolve_left h3
  obtain ⟨v, b, e1, e2, hv⟩ := arr_same hw
  have hc := cntW_le hs
  simp only [toNetwork hs, eqNetwork hw, e1, e2, eqIntS (big hv), markNetwork hs (k := 1) (by omega) (by omega), markIntS hv (k := 1) (by omega) (by omega), heldIntS hv (k := 1) (by omega) (by omega), Option.bind_some, cond_false, Bool.not_true, bne_self_eq_false,
    dec_f (by omega : ¬ (1 + (cntW w : Int)) < 0), dec_f (by omega : ¬ (1 + (v.length : Int)) < 0), decide_true]
end Go.Proofs.Ytlalabdgkkfjpaa.Sh
