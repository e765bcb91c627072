/-
  A number is put into a rising list: by sorting, or in its place.
-/
import Derived.Test.YteocijadidgagaaLPlain3
import Derived.KernelRfl
namespace Go.Proofs.Yteocijadidgagaa.Sh
open Go Go.Ab Go.Proofs

theorem less_eq (x y : Int) : cmp_Less_int x y = some (decide (x < y)) := by
  unfold cmp_Less_int cmp_isNaN_int
  simp

set_option maxRecDepth 100000 in
theorem bits_all : (List.range 13).all (fun n => (math_bits_Len (IntKind.u64.wrap (n : Int))).isSome) = true := by kernel_rfl
theorem bits_ok {n : Nat} (h : n < 13) : ∃ r, math_bits_Len (IntKind.u64.wrap (n : Int)) = some r := by
  have := bits_all
  rw [List.all_eq_true] at this
  exact Option.isSome_iff_exists.1 (this n (List.mem_range.2 h))

/-- rising numbers, any two of them -/
theorem rises_pair {l : List Int} : (List.range l.length).all (risesAt l) = true ↔ l.Pairwise (· < ·) := by
  rw [List.pairwise_iff_getElem]
  constructor
  · intro H i j hi hj hij
    simp only [List.all_eq_true, List.mem_range] at H
    have step : ∀ k (hk : k + 1 < l.length), l[k]'(by omega) < l[k + 1]'hk := fun k hk => by
      have := H (k + 1) hk
      rw [risesAt_eq hk] at this
      simp only [Nat.add_sub_cancel, Bool.or_eq_true, decide_eq_true_eq, Bool.not_eq_true', decide_eq_false_iff_not] at this
      rcases this with h | h
      · omega
      · omega
    have far : ∀ (d : Nat) (h : i + d + 1 < l.length), l[i]'hi < l[i + d + 1]'h := fun d => by
      induction d with
      | zero => intro h; exact step i h
      | succ d ih => intro h; exact Int.lt_trans (ih (by omega)) (step (i + d + 1) h)
    have e : i + (j - i - 1) + 1 = j := by omega
    have := far (j - i - 1) (by omega)
    simp only [e] at this
    exact this
  · intro H
    simp only [List.all_eq_true, List.mem_range]
    intro i hi
    rw [risesAt_eq hi]
    by_cases h0 : i = 0
    · simp [h0]
    · have := H (i - 1) i (by omega) hi (by omega)
      simp only [Bool.or_eq_true, decide_eq_true_eq, Bool.not_eq_true', decide_eq_false_iff_not]
      right; omega

def lowP (xs : List Int) (n : Int) : List Int := xs.takeWhile fun x => decide (x < n)
def highP (xs : List Int) (n : Int) : List Int := xs.dropWhile fun x => decide (x < n)
theorem low_high (xs : List Int) (n : Int) : lowP xs n ++ highP xs n = xs := List.takeWhile_append_dropWhile
theorem low_lt {xs : List Int} {n x : Int} (h : x ∈ lowP xs n) : x < n := by
  induction xs with
  | nil => cases h
  | cons y xs ih =>
    unfold lowP at h ih
    rw [List.takeWhile_cons] at h
    split at h
    · rename_i hy
      rcases List.mem_cons.1 h with rfl | h
      · exact of_decide_eq_true hy
      · exact ih h
    · cases h
theorem high_gt {xs : List Int} (hs : xs.Pairwise (· < ·)) {n x : Int} (hn : n ∉ xs) (h : x ∈ highP xs n) : n < x := by
  induction xs with
  | nil => cases h
  | cons y xs ih =>
    unfold highP at h ih
    rw [List.dropWhile_cons] at h
    rw [List.pairwise_cons] at hs
    split at h
    · exact ih hs.2 (fun hm => hn (List.mem_cons_of_mem _ hm)) h
    · rename_i hy
      have hy : ¬ y < n := by simpa using hy
      have hne : y ≠ n := fun e => hn (by simp [e])
      rcases List.mem_cons.1 h with rfl | h
      · omega
      · have := hs.1 x h; omega

/-- what becomes of a rising list -/
def putI (xs : List Int) (n : Int) : List Int := bif xs.any (fun x => decide (n = x)) then xs else lowP xs n ++ n :: highP xs n

theorem not_any {xs : List Int} {n : Int} (h : (xs.any fun x => decide (n = x)) = false) : n ∉ xs := fun hm => by
  rw [List.any_eq_false] at h
  exact h n hm (by simp)
theorem put_pair {xs : List Int} {n : Int} (hs : xs.Pairwise (· < ·)) : (putI xs n).Pairwise (· < ·) := by
  unfold putI
  cases h : xs.any (fun x => decide (n = x)) with
  | true => exact hs
  | false =>
    have hn := not_any h
    have e := low_high xs n
    rw [← e, List.pairwise_append] at hs
    simp only [cond_false]
    rw [List.pairwise_append, List.pairwise_cons]
    refine ⟨hs.1, ⟨fun y hy => high_gt (by rw [← e, List.pairwise_append]; exact hs) hn hy, hs.2.1⟩, fun x hx y hy => ?_⟩
    rcases List.mem_cons.1 hy with rfl | hy
    · exact low_lt hx
    · exact hs.2.2 x hx y hy
theorem put_mem {xs : List Int} {n x : Int} (h : x ∈ putI xs n) : x = n ∨ x ∈ xs := by
  unfold putI at h
  cases hb : xs.any (fun x => decide (n = x)) with
  | true => rw [hb] at h; exact .inr h
  | false =>
    rw [hb] at h
    simp only [cond_false, List.mem_append, List.mem_cons] at h
    have e := low_high xs n
    rcases h with h | h | h
    · right; rw [← e]; exact List.mem_append_left _ h
    · exact .inl h
    · right; rw [← e]; exact List.mem_append_right _ h
theorem put_len (xs : List Int) (n : Int) : (putI xs n).length ≤ xs.length + 1 := by
  unfold putI
  cases xs.any (fun x => decide (n = x)) with
  | true => simp
  | false =>
    have := congrArg List.length (low_high xs n)
    simp only [cond_false, List.length_append, List.length_cons] at this ⊢
    omega

/-! the reference's way -/

theorem low_loop {xs : List Int} {n : Int} {f : Int → Option (Int ⊕ Int)} (hf : ∀ (i : Nat) (x : Int), xs[i]? = some x → i < xs.length → f i = some (bif decide (x < n) then .inl ((i : Int) + 1) else .inr (i : Int))) (hend : f xs.length = some (.inr (xs.length : Int))) :
    ∀ (m i : Nat), i + m = xs.length → loopE f i = some ((i + (lowP (xs.drop i) n).length : Nat) : Int)
  | 0, i, h => by
    obtain rfl : i = xs.length := by omega
    rw [loopE_done hend, List.drop_length]
    rfl
  | m + 1, i, h => by
    have hlt : i < xs.length := by omega
    have hx : xs[i]? = some (xs[i]'hlt) := by simp [hlt]
    have hs := hf i _ hx hlt
    rw [List.drop_eq_getElem_cons hlt]
    unfold lowP
    rw [List.takeWhile_cons]
    cases hd : decide (xs[i]'hlt < n) with
    | true =>
      rw [hd] at hs
      rw [loopE_step hs]
      have ih := low_loop hf hend m (i + 1) (by omega)
      simp only [if_true, List.length_cons]
      unfold lowP at ih
      rw [show i + ((List.takeWhile (fun x => decide (x < n)) (xs.drop (i + 1))).length + 1) = i + 1 + (List.takeWhile (fun x => decide (x < n)) (xs.drop (i + 1))).length by omega]
      exact ih
    | false =>
      rw [hd] at hs
      rw [loopE_done hs]
      rfl

theorem s_put {xs : List Int} (hs : xs.Pairwise (· < ·)) (hl : xs.length ≤ 1048576) (n : Int) : s_l1Put xs n = some (putI xs n) := by
  unfold s_l1Put
  have hle : (lowP xs n).length ≤ xs.length := by have := congrArg List.length (low_high xs n); simp only [List.length_append] at this; omega
  refine bind_eq (low_loop (xs := xs) (n := n) ?_ ?_ xs.length 0 (by omega)) ?_
  · intro i x hx hi
    simp only [at_lt hi, cond_true, idx_get, hx, Option.bind_some, w64_of (x := (i : Int) + 1) (by omega) (by omega)]
    cases decide (x < n) <;> rfl
  · simp only [dec_f (by omega : ¬ (xs.length : Int) < (xs.length : Int)), cond_false, Option.bind_some]
  · rw [List.drop_zero, Nat.zero_add]
    have e := low_high xs n
    have take : xs.take (lowP xs n).length = lowP xs n := by
      have h2 : (lowP xs n ++ highP xs n).take (lowP xs n).length = lowP xs n := List.take_left
      rwa [e] at h2
    have drop : xs.drop (lowP xs n).length = highP xs n := by
      have h2 : (lowP xs n ++ highP xs n).drop (lowP xs n).length = highP xs n := List.drop_left
      rwa [e] at h2
    have hlen := congrArg List.length e
    simp only [List.length_append] at hlen
    have test : (bif decide (((lowP xs n).length : Int) < (xs.length : Int)) then (idx xs ((lowP xs n).length : Int)).bind fun e6 => some (decide (e6 = n)) else some false) = some (xs.any fun x => decide (n = x)) := by
      rw [idx_get]
      by_cases hlt : (lowP xs n).length < xs.length
      · rw [dec_t (by omega : ((lowP xs n).length : Int) < (xs.length : Int))]
        have hx : xs[(lowP xs n).length]? = (highP xs n)[0]? := by rw [← drop, List.getElem?_drop]; simp
        cases hh : highP xs n with
        | nil => rw [hh] at hlen; simp at hlen; omega
        | cons y r =>
          rw [hh] at hx
          simp only [cond_true, hx, List.getElem?_cons_zero, Option.bind_some, Option.some.injEq]
          have hy : ¬ y < n := by
            have : (xs.dropWhile fun x => decide (x < n)) = y :: r := hh
            have h3 := List.head?_dropWhile_not (fun x => decide (x < n)) xs
            rw [this] at h3
            simpa using h3
          rw [Bool.eq_iff_iff, decide_eq_true_eq, List.any_eq_true]
          constructor
          · rintro rfl
            exact ⟨y, by rw [← e, hh]; simp, by simp⟩
          · rintro ⟨x, hx, hxn⟩
            have hxn := of_decide_eq_true hxn
            subst hxn
            rw [← e, List.mem_append] at hx
            rcases hx with hx | hx
            · have := low_lt hx; omega
            · rw [hh] at hx
              rcases List.mem_cons.1 hx with rfl | hx
              · rfl
              · rw [← e, hh, List.pairwise_append, List.pairwise_cons] at hs
                have := hs.2.1.1 _ hx
                omega
      · rw [dec_f (by omega : ¬ ((lowP xs n).length : Int) < (xs.length : Int))]
        simp only [cond_false, Option.some.injEq]
        symm
        rw [List.any_eq_false]
        intro x hx hxn
        have hxn := of_decide_eq_true hxn
        subst hxn
        have hh : highP xs n = [] := List.eq_nil_of_length_eq_zero (by omega)
        rw [← e, hh, List.append_nil] at hx
        have := low_lt hx
        omega
    refine bind_eq test ?_
    unfold putI
    cases xs.any (fun x => decide (n = x)) with
    | true => rfl
    | false =>
      simp only [cond_false]
      refine bind_eq (sub_take hle) ?_
      rw [take, lim_ok (by omega), lim_ok (by simp only [List.length_singleton]; omega)]
      simp only [cond_true]
      refine bind_eq (sub_drop hle) ?_
      rw [drop, lim_ok (by simp only [List.length_append, List.length_singleton]; omega)]
      simp

/-! the program's way: behind the others, then sorted -/

noncomputable def insF (p_a : Int) : (List Int) × Int → Option (((List Int) × Int) ⊕ (List Int)) := fun st4 =>
            (bif (decide (p_a < st4.2)) then
                bif decide (0 ≤ st4.2) && decide (st4.2 < (st4.1.length : Int)) then
                  (st4.1[(Int.toNat st4.2)]?).bind fun e5 =>
                  bif decide (0 ≤ (w64 (st4.2 - 1))) && decide ((w64 (st4.2 - 1)) < (st4.1.length : Int)) then
                    (st4.1[(Int.toNat (w64 (st4.2 - 1)))]?).bind fun e6 =>
                    (cmp_Less_int e5 e6).bind fun r7 =>
                    some r7
                  else
                    none
                else
                  none
              else
                some false).bind fun c8 =>
            bif c8 then
              bif decide (0 ≤ (w64 (st4.2 - 1))) && decide ((w64 (st4.2 - 1)) < (st4.1.length : Int)) then
                (st4.1[(Int.toNat (w64 (st4.2 - 1)))]?).bind fun e9 =>
                bif decide (0 ≤ st4.2) && decide (st4.2 < (st4.1.length : Int)) then
                  (st4.1[(Int.toNat st4.2)]?).bind fun e10 =>
                  bif decide (0 ≤ st4.2) && decide (st4.2 < (st4.1.length : Int)) then
                    bif decide (0 ≤ (w64 (st4.2 - 1))) && decide ((w64 (st4.2 - 1)) < ((st4.1.set (Int.toNat st4.2) e9).length : Int)) then
                      some (.inl (((st4.1.set (Int.toNat st4.2) e9).set (Int.toNat (w64 (st4.2 - 1))) e10), (w64 (st4.2 - 1))))
                    else
                      none
                  else
                    none
                else
                  none
              else
                none
            else
              some (.inr st4.1)

theorem insF_stop {P R : List Int} {y n : Int} (hl : (P ++ y :: n :: R).length ≤ 1048576) (h : ¬ n < y) : insF 0 (P ++ y :: n :: R, ((P.length + 1 : Nat) : Int)) = some (.inr (P ++ y :: n :: R)) := by
  have h1 : (P ++ y :: n :: R)[P.length + 1]? = some n := by rw [List.getElem?_append_right (by omega), show P.length + 1 - P.length = 1 by omega]; rfl
  have h2 : (P ++ y :: n :: R)[P.length]? = some y := by simp
  have hlen : (P ++ y :: n :: R).length = P.length + R.length + 2 := by simp; omega
  unfold insF
  rw [hlen] at hl
  have hw : w64 (((P.length + 1 : Nat) : Int) - 1) = (P.length : Int) := by rw [w64_of (by omega) (by omega)]; omega
  simp only [hw, dec_t (by omega : (0 : Int) < ((P.length + 1 : Nat) : Int)), dec_t (by omega : (0 : Int) ≤ ((P.length + 1 : Nat) : Int)), hlen, dec_t (by omega : ((P.length + 1 : Nat) : Int) < ((P.length + R.length + 2 : Nat) : Int)), dec_t (by omega : (0 : Int) ≤ (P.length : Int)),
    dec_t (by omega : (P.length : Int) < ((P.length + R.length + 2 : Nat) : Int)), Bool.and_self, cond_true, Int.toNat_natCast, h1, h2, Option.bind_some, less_eq, dec_f h, cond_false]
theorem insF_zero (l : List Int) : insF 0 (l, 0) = some (.inr l) := by
  unfold insF
  simp only [dec_f (by omega : ¬ (0 : Int) < 0), cond_false, Option.bind_some]
theorem insF_swap {P R : List Int} {y n : Int} (hl : (P ++ y :: n :: R).length ≤ 1048576) (h : n < y) : insF 0 (P ++ y :: n :: R, ((P.length + 1 : Nat) : Int)) = some (.inl (P ++ n :: y :: R, (P.length : Int))) := by
  have h1 : (P ++ y :: n :: R)[P.length + 1]? = some n := by rw [List.getElem?_append_right (by omega), show P.length + 1 - P.length = 1 by omega]; rfl
  have h2 : (P ++ y :: n :: R)[P.length]? = some y := by simp
  have hlen : (P ++ y :: n :: R).length = P.length + R.length + 2 := by simp; omega
  have hset : ((P ++ y :: n :: R).set (P.length + 1) y).set P.length n = P ++ n :: y :: R := by
    rw [List.set_append_right _ _ (by omega), show P.length + 1 - P.length = 1 by omega, List.set_append_right _ _ (Nat.le_refl _), Nat.sub_self]
    rfl
  unfold insF
  rw [hlen] at hl
  have hw : w64 (((P.length + 1 : Nat) : Int) - 1) = (P.length : Int) := by rw [w64_of (by omega) (by omega)]; omega
  simp only [hw, dec_t (by omega : (0 : Int) < ((P.length + 1 : Nat) : Int)), dec_t (by omega : (0 : Int) ≤ ((P.length + 1 : Nat) : Int)), List.length_set, hlen, dec_t (by omega : ((P.length + 1 : Nat) : Int) < ((P.length + R.length + 2 : Nat) : Int)), dec_t (by omega : (0 : Int) ≤ (P.length : Int)),
    dec_t (by omega : (P.length : Int) < ((P.length + R.length + 2 : Nat) : Int)), Bool.and_self, cond_true, Int.toNat_natCast, h1, h2, Option.bind_some, less_eq, dec_t h, hset]

/-- a number walks down past those that are greater -/
theorem insF_walk {n : Int} : ∀ (m : Nat) {P Q R : List Int}, Q.length = m → (P ++ Q ++ n :: R).length ≤ 1048576 → (∀ q ∈ Q, n < q) → (∀ p ∈ P, ¬ n < p) → loopE (insF 0) (P ++ Q ++ n :: R, ((P.length + m : Nat) : Int)) = some (P ++ n :: (Q ++ R))
  | 0, P, Q, R, hm, hl, _, hP => by
    have : Q = [] := List.eq_nil_of_length_eq_zero hm
    subst this
    simp only [List.append_nil, Nat.add_zero, List.nil_append] at hl ⊢
    rcases List.eq_nil_or_concat P with rfl | ⟨P', y, rfl⟩
    · exact loopE_done (insF_zero _)
    · have e : P' ++ [y] ++ n :: R = P' ++ y :: n :: R := by simp
      rw [List.concat_eq_append] at hP hl ⊢
      rw [e] at hl ⊢
      have := insF_stop hl (hP y (by simp))
      rw [show (P' ++ [y]).length = P'.length + 1 by simp]
      exact loopE_done this
  | m + 1, P, Q, R, hm, hl, hQ, hP => by
    rcases List.eq_nil_or_concat Q with rfl | ⟨Q', y, rfl⟩
    · cases hm
    · rw [List.concat_eq_append] at hQ hl hm ⊢
      simp only [List.length_append, List.length_cons, List.length_nil, Nat.zero_add] at hm
      have hq : Q'.length = m := by omega
      have e : P ++ (Q' ++ [y]) ++ n :: R = (P ++ Q') ++ y :: n :: R := by simp
      rw [e] at hl ⊢
      have hs := insF_swap hl (hQ y (by simp))
      rw [show (P ++ Q').length + 1 = P.length + (m + 1) by rw [List.length_append]; omega] at hs
      rw [loopE_step hs]
      have hl2 : (P ++ Q' ++ n :: (y :: R)).length ≤ 1048576 := by simp only [List.length_append, List.length_cons] at hl ⊢; omega
      have ih := insF_walk m (P := P) (Q := Q') (R := y :: R) hq hl2 (fun q hq => hQ q (by simp [hq])) hP
      rw [show (P ++ Q').length = P.length + m by rw [List.length_append, hq]]
      rw [ih]
      simp

theorem insF_keep {A R : List Int} {x : Int} (hl : (A ++ x :: R).length ≤ 1048576) (h : ∀ a ∈ A, ¬ x < a) : loopE (insF 0) (A ++ x :: R, (A.length : Int)) = some (A ++ x :: R) := by
  have := insF_walk (n := x) 0 (P := A) (Q := []) (R := R) rfl (by simpa using hl) (by simp) h
  simpa using this

theorem ins_sort {xs : List Int} {n : Int} (hs : xs.Pairwise (· < ·)) (hl : xs.length ≤ 1000) (hn : (xs.any fun x => decide (n = x)) = false) :
    slices_insertionSortOrdered_int (xs ++ [n]) 0 ((xs ++ [n]).length : Int) = some (putI xs n) := by
  have hnm := not_any hn
  have e := low_high xs n
  unfold slices_insertionSortOrdered_int
  have hlen : (xs ++ [n]).length = xs.length + 1 := by simp
  have hput : putI xs n = lowP xs n ++ n :: highP xs n := by unfold putI; rw [hn]; rfl
  have hputl : (putI xs n).length = xs.length + 1 := by rw [hput, List.length_append, List.length_cons]; have := congrArg List.length e; simp only [List.length_append] at this; omega
  have inner : ∀ (d : List Int) (i : Nat), (loopE (fun (st4 : (List Int) × Int) => (insF 0 st4 : Option (((List Int) × Int) ⊕ ((List Int))))) (d, (i : Int))) = loopE (insF 0) (d, (i : Int)) := fun _ _ => rfl
  have main : ∀ (m i : Nat), 0 < i → i + m = xs.length + 1 → ∀ d, (d = xs ++ [n] ∧ i ≤ xs.length ∨ i = xs.length + 1 ∧ d = putI xs n) →
      loopE (fun (st2 : (List Int) × Int) => (bif (decide (st2.2 < ((xs ++ [n]).length : Int))) then (loopE (insF 0) (st2.1, st2.2)).bind fun o11 => some (.inl (o11, (w64 (st2.2 + 1)))) else some (.inr st2.1) : Option (((List Int) × Int) ⊕ ((List Int))))) (d, (i : Int)) = some (putI xs n) := by
    intro m
    induction m with
    | zero =>
      intro i h0 h d hd
      rcases hd with ⟨_, h1⟩ | ⟨h1, rfl⟩
      · omega
      · refine loopE_done ?_
        simp only [hlen]
        rw [dec_f (by omega)]
        rfl
    | succ m ih =>
      intro i h0 h d hd
      rcases hd with ⟨rfl, h1⟩ | ⟨h1, rfl⟩
      · have hstep : ∃ d', loopE (insF 0) (xs ++ [n], (i : Int)) = some d' ∧ (d' = xs ++ [n] ∧ i + 1 ≤ xs.length ∨ i + 1 = xs.length + 1 ∧ d' = putI xs n) := by
          by_cases hi : i < xs.length
          · refine ⟨xs ++ [n], ?_, .inl ⟨rfl, hi⟩⟩
            have e2 : xs ++ [n] = xs.take i ++ xs[i] :: (xs.drop (i + 1) ++ [n]) := by
              have e3 : xs.take i ++ xs[i] :: xs.drop (i + 1) = xs := by rw [← List.drop_eq_getElem_cons hi, List.take_append_drop]
              rw [← List.cons_append, ← List.append_assoc, e3]
            have hk : (xs.take i).length = i := by rw [List.length_take]; omega
            have := insF_keep (A := xs.take i) (x := xs[i]) (R := xs.drop (i + 1) ++ [n]) (by rw [← e2, hlen]; omega) (fun a ha => by
              obtain ⟨j, hj, rfl⟩ := List.getElem_of_mem ha
              rw [List.getElem_take]
              rw [hk] at hj
              have := List.pairwise_iff_getElem.1 hs j i (by omega) hi hj
              omega)
            rw [hk, ← e2] at this
            exact this
          · obtain rfl : i = xs.length := by omega
            refine ⟨putI xs n, ?_, .inr ⟨rfl, rfl⟩⟩
            have := insF_walk (n := n) (highP xs n).length (P := lowP xs n) (Q := highP xs n) (R := []) rfl (by rw [e, hlen]; omega) (fun q hq => high_gt hs hnm hq) (fun p hp => by have := low_lt hp; omega)
            rw [e, List.append_nil] at this
            rw [hput]
            have hl3 := congrArg List.length e
            simp only [List.length_append] at hl3
            rw [hl3] at this
            exact this
        obtain ⟨d', h2, h3⟩ := hstep
        have hs2 : (fun (st2 : (List Int) × Int) => (bif (decide (st2.2 < ((xs ++ [n]).length : Int))) then (loopE (insF 0) (st2.1, st2.2)).bind fun o11 => some (.inl (o11, (w64 (st2.2 + 1)))) else some (.inr st2.1) : Option (((List Int) × Int) ⊕ ((List Int))))) (xs ++ [n], (i : Int)) = some (.inl (d', ((i + 1 : Nat) : Int))) := by
          simp only [h2, Option.bind_some, hlen]
          rw [dec_t (by omega), w64_of (by omega) (by omega)]
          rfl
        rw [loopE_step hs2]
        exact ih (i + 1) (by omega) (by omega) d' h3
      · omega
  refine bind_eq (x := putI xs n) ?_ rfl
  by_cases h0 : xs.length = 0
  · have hx : xs = [] := List.eq_nil_of_length_eq_zero h0
    subst hx
    refine loopE_done ?_
    simp only [List.nil_append, List.length_singleton, w64_of (x := (0 : Int) + 1) (by omega) (by omega)]
    rw [dec_f (by omega)]
    rfl
  · have := main xs.length 1 (by omega) (by omega) (xs ++ [n]) (.inl ⟨rfl, by omega⟩)
    rw [w64_of (x := (0 : Int) + 1) (by omega) (by omega), show (0 : Int) + 1 = ((1 : Nat) : Int) from rfl]
    exact this

theorem i_sort {xs : List Int} {n : Int} (hs : xs.Pairwise (· < ·)) (hl : xs.length ≤ 11) (hn : (xs.any fun x => decide (n = x)) = false) : slices_Sort_int (xs ++ [n]) = some (putI xs n) := by
  unfold slices_Sort_int
  have hlen : (xs ++ [n]).length = xs.length + 1 := by simp
  obtain ⟨r, hr⟩ := bits_ok (n := (xs ++ [n]).length) (by omega)
  refine bind_eq hr ?_
  refine bind_eq (x := putI xs n) ?_ rfl
  unfold slices_pdqsortOrdered_int
  refine bind_eq (x := putI xs n) (loopE_done ?_) rfl
  simp only
  rw [dec_t (by rw [w64_of (by omega) (by omega)]; omega : w64 (((xs ++ [n]).length : Int) - 0) ≤ 12)]
  simp only [cond_true]
  exact bind_eq (ins_sort hs (by omega) hn) rfl

theorem i_contains {xs : List Int} (hl : xs.length ≤ 1048576) (n : Int) : slices_Contains_int xs n = some (xs.any fun x => decide (n = x)) := by
  unfold slices_Contains_int slices_Index_int
  rw [find_loop (l := xs) (fun x : Int => decide (n = x)) ?_ ?_]
  · have hany : (xs.any fun x => decide (n = x)) = (firstAt (fun x : Int => decide (n = x)) xs 0).isSome := by
      have : ∀ (l : List Int) (k : Nat), (l.any fun x => decide (n = x)) = (firstAt (fun x : Int => decide (n = x)) l k).isSome := by
        intro l
        induction l with
        | nil => intro k; rfl
        | cons y l ih =>
          intro k
          simp only [List.any_cons, firstAt]
          rw [ih (k + 1)]
          cases decide (n = y) <;> rfl
      exact this xs 0
    rw [hany]
    cases firstAt (fun x : Int => decide (n = x)) xs 0 with
    | none => rfl
    | some i => simp [show (0 : Int) ≤ (i : Int) by omega]
  · intro i x hx hi
    simp only [idx_get, hx, Option.bind_some, at_lt hi, w64_of (x := (i : Int) + 1) (by omega) (by omega)]
    cases decide (n = x) <;> rfl
  · simp
end Go.Proofs.Yteocijadidgagaa.Sh
