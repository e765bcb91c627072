/-
  Networks in plain Lean: AllowedPasses, NextMoment.
-/
import Derived.Test.YtlalabdgkkfjpaaRPlain5
namespace Go.Proofs.Ytlalabdgkkfjpaa.Sh
open Go Go.Ab Go.Proofs

theorem firstAt_congr {α : Type} {t u : α → Bool} : ∀ (l : List α) (k : Nat), (∀ x ∈ l, t x = u x) → firstAt t l k = firstAt u l k
  | [], _, _ => rfl
  | x :: l, k, h => by
    simp only [firstAt, h x (by simp), firstAt_congr l (k + 1) (fun y hy => h y (List.mem_cons_of_mem _ hy))]
theorem firstAt_lt {α : Type} {t : α → Bool} : ∀ (l : List α) (k i : Nat), firstAt t l k = some i → i < k + l.length
  | [], _, _, h => by cases h
  | x :: l, k, i, h => by
    simp only [firstAt] at h
    cases hx : t x with
    | true => rw [hx] at h; cases h; simp
    | false => rw [hx] at h; have := firstAt_lt l (k + 1) i h; simp; omega
theorem foldl_rel {α σ τ : Type} (R : σ → τ → Prop) (g : σ → α → σ) (h : τ → α → τ) : ∀ (l : List α) (s : σ) (t : τ), R s t → (∀ s t x, x ∈ l → R s t → R (g s x) (h t x)) → R (l.foldl g s) (l.foldl h t)
  | [], _, _, r, _ => r
  | x :: l, s, t, r, hs => by
    simp only [List.foldl_cons]
    exact foldl_rel R g h l _ _ (hs s t x (by simp) r) (fun s t y hy => hs s t y (List.mem_cons_of_mem _ hy))

theorem okLinks {n : GNet} (h : isNet n = true) : ∀ x ∈ n.2.1, okLink n.1.length x = true := by
  intro x hx
  obtain ⟨i, hi, rfl⟩ := List.getElem_of_mem hx
  unfold isNet at h
  simp only [Bool.and_eq_true, List.all_eq_true, List.mem_range] at h
  have := (h.2.1 i hi).1
  rwa [eachAt_eq hi] at this
theorem net_sz {n : GNet} (h : isNet n = true) : n.1.length ≤ 16 ∧ 1 ≤ n.1.length ∧ n.2.1.length ≤ 40 := by
  unfold isNet at h
  simp only [Bool.and_eq_true, inB, decide_eq_true_eq] at h
  omega
theorem isNw_parts {w : GNetwork} (h : isNw w = true) : isNet w.1 = true ∧ areFogs w.1.2.1.length w.2.1 = true ∧ 0 ≤ w.2.2.1 ∧ w.2.2.1 ≤ 10000 ∧ w.2.2.2.1.length ≤ 40 ∧ Groups w.1.1.length w.2.2.2.1 0 0 := by
  have hg := isNw_groups h
  unfold isNw at h
  simp only [Bool.and_eq_true, decide_eq_true_eq, inB] at h
  exact ⟨h.1, h.2.1, h.2.2.1.1, h.2.2.1.2, hg.2, hg.1⟩

def link (n : GNet) (a b : Int) : Option Nat := firstAt (fun x : GLink => (decide (x.1 = a) && decide (x.2.1 = b)) || (decide (x.1 = b) && decide (x.2.1 = a))) n.2.1 0
def place : Option Nat → Int
  | some i => (i : Int)
  | none => -1
theorem s_link {n : GNet} (h : FineN n) (a b : Int) : s_neLink n a b = some (place (link n a b)) := by
  unfold s_neLink link
  rw [find_loop (l := n.2.1) (fun x : GLink => (decide (x.1 = a) && decide (x.2.1 = b)) || (decide (x.1 = b) && decide (x.2.1 = a))) ?_ ?_]
  · cases firstAt (fun x : GLink => (decide (x.1 = a) && decide (x.2.1 = b)) || (decide (x.1 = b) && decide (x.2.1 = a))) n.2.1 0 <;> rfl
  · intro i x hx hi
    simp only [idx_get, hx, Option.bind_some, at_lt hi, up h.l hi, cond_true]
    cases decide (x.1 = a) <;> cases decide (x.2.1 = b) <;> cases decide (x.1 = b) <;> cases decide (x.2.1 = a) <;> rfl
  · simp
theorem i_link {n : GNet} (h : FineN n) (hn : isNet n = true) (a b : Int) : i_linkIndex n a b = some (place (link n a b)) := by
  unfold i_linkIndex slices_IndexFunc_Link_155 link
  rw [firstAt_congr (u := fun x : GLink => decide (x.1 = (bif decide (b < a) then b else a)) && decide (x.2.1 = (bif decide (a < b) then b else a))) n.2.1 0 ?_]
  · rw [find_loop (l := n.2.1) (fun x : GLink => decide (x.1 = (bif decide (b < a) then b else a)) && decide (x.2.1 = (bif decide (a < b) then b else a))) ?_ ?_]
    · cases firstAt (fun x : GLink => decide (x.1 = (bif decide (b < a) then b else a)) && decide (x.2.1 = (bif decide (a < b) then b else a))) n.2.1 0 <;> rfl
    · intro i x hx hi
      simp only [idx_get, hx, Option.bind_some, at_lt hi, up h.l hi, cond_true, i_linkIndex_1]
      cases decide (x.1 = (bif decide (b < a) then b else a)) <;> cases decide (x.2.1 = (bif decide (a < b) then b else a)) <;> rfl
    · simp
  · intro x hx
    have ho := okLinks hn x hx
    unfold okLink at ho
    simp only [Bool.and_eq_true, decide_eq_true_eq] at ho
    rw [Bool.eq_iff_iff]
    simp only [Bool.and_eq_true, Bool.or_eq_true, decide_eq_true_eq]
    by_cases h1 : a < b
    · rw [dec_f (by omega : ¬ b < a), dec_t h1]; simp only [cond_false, cond_true]; omega
    · by_cases h2 : b < a
      · rw [dec_t h2, dec_f h1]; simp only [cond_false, cond_true]; omega
      · rw [dec_f h2, dec_f h1]; simp only [cond_false]; omega

def later (k sec : Int) (s : Int) (x : GLink) : Int := bif decide (x.1 = k) && (decide (s < x.2.2.1) && decide (x.2.1 < w64 (s + sec))) then x.2.2.1 else s
def startV (l : List GLink) (k t sec : Int) : Int := l.foldl (later k sec) t
theorem startV_ge (l : List GLink) (k t sec : Int) : t ≤ startV l k t sec := by
  unfold startV
  induction l generalizing t with
  | nil => exact Int.le_refl _
  | cons x l ih =>
    simp only [List.foldl_cons]
    refine Int.le_trans ?_ (ih _)
    unfold later
    cases h : decide (x.1 = k) && (decide (t < x.2.2.1) && decide (x.2.1 < w64 (t + sec))) with
    | false => exact Int.le_refl _
    | true => simp only [Bool.and_eq_true, decide_eq_true_eq] at h; simp only [cond_true]; omega
theorem s_start {l : List GLink} (h : l.length ≤ maxLen) (k t sec : Int) : s_fgStart l k t sec = some (startV l k t sec) := by
  unfold s_fgStart startV
  rw [(fold_loop (l := l) Prod.mk (later k sec) (fun s => s) (fun _ _ => True) t trivial ?_ ?_).1]
  · rfl
  · intro s i x hx hi _
    refine ⟨?_, trivial⟩
    simp only [idx_get, hx, Option.bind_some, at_lt hi, up h hi, cond_true, later]
    cases decide (x.1 = k) <;> cases decide (s < x.2.2.1) <;> cases decide (x.2.1 < w64 (s + sec)) <;> rfl
  · intro s _; simp
theorem i_start {l : List GLink} (h : l.length ≤ maxLen) (k t sec : Int) : i_startAfter l k t sec = some (startV l k t sec) := s_start h k t sec

def delay (n : GNet) (k : Nat) : Int := (n.2.1.getD k (0, 0, 0, ())).2.2.1
theorem idx_link {n : GNet} {a b : Int} {k : Nat} (h : link n a b = some k) : ∃ x, idx n.2.1 (k : Int) = some x ∧ x.2.2.1 = delay n k := by
  have hk := firstAt_lt _ _ _ h
  rw [idx_get]
  refine ⟨n.2.1[k]'(by omega), by simp [show k < n.2.1.length by omega], ?_⟩
  unfold delay
  simp [show k < n.2.1.length by omega]
/-- the first second in which a parcel can pass to a tower -/
def pass (w : GNetwork) (x : GParcel) (t : Int) : Option Int :=
  match link w.1 x.2.2.2.1 t with
  | none => none
  | some k => bif decide (x.2.2.2.1 = x.2.2.2.2.1) then none else some (startV w.2.1 k (bif decide (w.2.2.1 < x.2.2.2.2.2.1) then x.2.2.2.2.2.1 else w.2.2.1) (delay w.1 k))
def passV : Option Int → Int × Bool
  | none => (0, false)
  | some v => (v, true)
theorem i_pass {w : GNetwork} (hw : FineW w) (hn : isNet w.1 = true) (x : GParcel) (t : Int) : i_passStart w x t = some (passV (pass w x t)) := by
  unfold i_passStart pass
  rw [i_link hw.n hn]
  cases hk : link w.1 x.2.2.2.1 t with
  | none => rfl
  | some k =>
    obtain ⟨y, e1, e2⟩ := idx_link hk
    simp only [Option.bind_some, place, dec_f (by omega : ¬ (k : Int) < 0), cond_false, e1, e2]
    cases decide (x.2.2.2.1 = x.2.2.2.2.1) with
    | true => rfl
    | false => simp only [cond_false, i_start hw.f, Option.bind_some]; rfl
def canV (T : Int) : Option Int → Bool
  | none => false
  | some v => decide (v = T)
theorem s_can {w : GNetwork} (hw : FineW w) (x : GParcel) (t : Int) : s_nwCan w x t w.2.2.1 = some (canV w.2.2.1 (pass w x t)) := by
  unfold s_nwCan pass
  rw [s_link hw.n]
  cases hk : link w.1 x.2.2.2.1 t with
  | none => rfl
  | some k =>
    obtain ⟨y, e1, e2⟩ := idx_link hk
    simp only [Option.bind_some, place, dec_t (by omega : 0 ≤ (k : Int)), cond_true, e1, e2, s_start hw.f]
    by_cases h1 : x.2.2.2.2.2.1 ≤ w.2.2.1
    · rw [dec_t h1, dec_f (by omega : ¬ w.2.2.1 < x.2.2.2.2.2.1)]
      cases decide (x.2.2.2.1 = x.2.2.2.2.1) <;> rfl
    · rw [dec_f h1, dec_t (by omega : w.2.2.1 < x.2.2.2.2.2.1)]
      have := startV_ge w.2.1 k x.2.2.2.2.2.1 (delay w.1 k)
      cases decide (x.2.2.2.1 = x.2.2.2.2.1) with
      | true => rfl
      | false =>
        simp only [cond_false, cond_true, Option.bind_some, canV]
        rw [dec_f (by omega)]
theorem i_can {w : GNetwork} (hw : FineW w) (hn : isNet w.1 = true) (x : GParcel) (t : Int) : ((i_passStart w x t).bind fun r7 => (bif r7.2 then some (decide (r7.1 = w.2.2.1)) else some false : Option Bool)) = some (canV w.2.2.1 (pass w x t)) := by
  rw [i_pass hw hn]
  cases pass w x t <;> rfl

def addP (w : GNetwork) (x : GParcel) (out : List (List Int)) (j : Nat) : List (List Int) := bif canV w.2.2.1 (pass w x (j : Int)) then out ++ [[x.1, x.2.1, (j : Int)]] else out
def addAll (w : GNetwork) (out : List (List Int)) (x : GParcel) : List (List Int) := (List.range w.1.1.length).foldl (addP w x) out
abbrev mkP (x : GParcel) (out : List (List Int)) (i : Int) : List (List Int) × Int × Int × Int × Int × Int × Int × Int := (out, x.1, x.2.1, x.2.2.1, x.2.2.2.1, x.2.2.2.2.1, x.2.2.2.2.2.1, i)

theorem allow_loop {w : GNetwork} (hw : FineW w) (hn : isNw w = true) {f : List (List Int) × Int → Option ((List (List Int) × Int) ⊕ List (List Int))}
    {g : List (List Int) × Int × Int × Int × Int × Int × Int × Int → Option ((List (List Int) × Int × Int × Int × Int × Int × Int × Int) ⊕ List (List Int))}
    (hf : ∀ out (i : Nat) x, idx w.2.2.2.1 (i : Int) = some x → i < w.2.2.2.1.length → f (out, (i : Int)) = (loopE g (mkP x out 0)).bind fun o => some (.inl (o, w64 ((i : Int) + 1))))
    (hend : ∀ out, f (out, (w.2.2.2.1.length : Int)) = some (.inr out))
    (hg : ∀ x out (j : Nat), j < w.1.1.length → out.length ≤ 100000 → g (mkP x out j) = some (.inl (mkP x (addP w x out j) (w64 ((j : Int) + 1)))))
    (gend : ∀ x out, g (mkP x out w.1.1.length) = some (.inr out)) :
    loopE f ([], 0) = some (w.2.2.2.1.foldl (addAll w) []) ∧ (w.2.2.2.1.foldl (addAll w) []).length ≤ 1000 ∧ ∀ r ∈ w.2.2.2.1.foldl (addAll w) [], r.length = 3 := by
  obtain ⟨p1, p2, p3, p4, p5, p6⟩ := isNw_parts hn
  have hT := net_sz p1
  have inner : ∀ x out, out.length ≤ 1000 → (∀ r ∈ out, r.length = 3) → loopE g (mkP x out 0) = some (addAll w out x) ∧ (addAll w out x).length ≤ out.length + w.1.1.length ∧ ∀ r ∈ addAll w out x, r.length = 3 := by
    intro x out ho hr
    have := fold_at (n := w.1.1.length) (f := g) (mkP x) (addP w x) (fun s => s) (fun j s => s.length ≤ out.length + j ∧ ∀ r ∈ s, r.length = 3) out ⟨by omega, hr⟩ ?_ ?_
    · exact ⟨this.1, this.2.1, this.2.2⟩
    · intro s j hj hI
      rw [hg x s j hj (by omega), w64_of (by omega) (by omega)]
      refine ⟨rfl, ?_⟩
      unfold addP
      cases canV w.2.2.1 (pass w x (j : Int)) with
      | false => exact ⟨by have := hI.1; simp only [cond_false]; omega, hI.2⟩
      | true =>
        simp only [cond_true, List.length_append, List.length_cons, List.length_nil, List.mem_append, List.mem_singleton]
        refine ⟨by have := hI.1; omega, fun r h => ?_⟩
        rcases h with h | rfl
        · exact hI.2 r h
        · rfl
    · intro s _
      exact gend x s
  have := fold_loop (l := w.2.2.2.1) (f := f) Prod.mk (addAll w) (fun s => s) (fun i s => s.length ≤ 16 * i ∧ ∀ r ∈ s, r.length = 3) [] ⟨by simp, by simp⟩ ?_ ?_
  · refine ⟨this.1, ?_, this.2.2⟩
    have := this.2.1
    omega
  · intro s i x hx hi hI
    have hI1 := hI.1
    obtain ⟨a1, a2, a3⟩ := inner x s (by omega) hI.2
    rw [hf s i x (by rw [idx_get]; exact hx) hi, a1, w64_of (by omega) (by omega)]
    exact ⟨rfl, by omega, a3⟩
  · intro s _
    exact hend s

theorem total_le (c : Nat) : ∀ l : List (List Int), (∀ r ∈ l, r.length = c) → total List.length l = c * l.length
  | [], _ => rfl
  | x :: l, h => by
    simp only [total, h x (by simp), total_le c l (fun r hr => h r (List.mem_cons_of_mem _ hr)), List.length_cons]
    rw [Nat.mul_add]; omega

theorem allow_same {w : GNetwork} (hw : FineW w) : ∃ v b, s_AllowedPasses w = some (v, b) ∧ i_AllowedPasses w = some (v, b) ∧ Rows2 v := by
  unfold s_AllowedPasses i_AllowedPasses
  rw [s_isNw hw, i_isNw hw]
  simp only [Option.bind_some]
  cases hn : isNw w with
  | false => exact ⟨[], false, rfl, rfl, by simp, by simp, by simp [total]⟩
  | true =>
  have hp := (isNw_parts hn).1
  have hT := net_sz hp
  have h40 := (isNw_parts hn).2.2.2.2.1
  simp only [Bool.not_true, cond_false]
  obtain ⟨s1, s2, s3⟩ := allow_loop hw hn (f := fun (st3 : (List (List Int)) × Int) => (
        bif (decide (st3.2 < (w.2.2.2.1.length : Int))) then
          (idx w.2.2.2.1 st3.2).bind fun e4 =>
          (loopE (fun (st6 : (List (List Int)) × Int × Int × Int × Int × Int × Int × Int) => (
              bif (decide (st6.2.2.2.2.2.2.2 < (w.1.1.length : Int))) then
                (s_nwCan w (st6.2.1, st6.2.2.1, st6.2.2.2.1, st6.2.2.2.2.1, st6.2.2.2.2.2.1, st6.2.2.2.2.2.2.1, ()) st6.2.2.2.2.2.2.2 w.2.2.1).bind fun r7 =>
                bif r7 then
                  bif decide (List.length st6.1 + List.length [[st6.2.1, st6.2.2.1, st6.2.2.2.2.2.2.2]] ≤ lim) then
                    some (.inl ((st6.1 ++ [[st6.2.1, st6.2.2.1, st6.2.2.2.2.2.2.2]]), st6.2.1, st6.2.2.1, st6.2.2.2.1, st6.2.2.2.2.1, st6.2.2.2.2.2.1, st6.2.2.2.2.2.2.1, (w64 (st6.2.2.2.2.2.2.2 + 1))))
                  else
                    none
                else
                  some (.inl (st6.1, st6.2.1, st6.2.2.1, st6.2.2.2.1, st6.2.2.2.2.1, st6.2.2.2.2.2.1, st6.2.2.2.2.2.2.1, (w64 (st6.2.2.2.2.2.2.2 + 1))))
              else
                some (.inr st6.1) : Option (((List (List Int)) × Int × Int × Int × Int × Int × Int × Int) ⊕ ((List (List Int)))))) (st3.1, e4.1, e4.2.1, e4.2.2.1, e4.2.2.2.1, e4.2.2.2.2.1, e4.2.2.2.2.2.1, 0)).bind fun o8 =>
          some (.inl (o8, (w64 (st3.2 + 1))))
        else
          some (.inr st3.1) : Option (((List (List Int)) × Int) ⊕ ((List (List Int)))))) (fun out i x hx hi => by
      simp only [at_lt hi, cond_true, hx, Option.bind_some]; rfl) (fun out => by simp) (fun x out j hj ho => by
      have e : (x.1, x.2.1, x.2.2.1, x.2.2.2.1, x.2.2.2.2.1, x.2.2.2.2.2.1, ()) = x := rfl
      have el := lim_ok (n := out.length + [[x.1, x.2.1, (j : Int)]].length) (by simp; omega)
      simp only [mkP, s_can hw, Option.bind_some, e]
      rw [at_lt hj, cond_true, el, cond_true]
      unfold addP
      cases canV w.2.2.1 (pass w x (j : Int)) <;> rfl) (fun x out => by simp [mkP])
  rw [s1]
  obtain ⟨t1, t2, t3⟩ := allow_loop hw hn (f := fun (st3 : (List (List Int)) × Int) => (
        bif (decide (st3.2 < (w.2.2.2.1.length : Int))) then
          (idx w.2.2.2.1 st3.2).bind fun e4 =>
          (loopE (fun (st6 : (List (List Int)) × Int × Int × Int × Int × Int × Int × Int) => (
              bif (decide (st6.2.2.2.2.2.2.2 < (w.1.1.length : Int))) then
                (i_passStart w (st6.2.1, st6.2.2.1, st6.2.2.2.1, st6.2.2.2.2.1, st6.2.2.2.2.2.1, st6.2.2.2.2.2.2.1, ()) st6.2.2.2.2.2.2.2).bind fun r7 =>
                (bif r7.2 then
                    some (decide (r7.1 = w.2.2.1))
                  else
                    some false).bind fun c8 =>
                bif c8 then
                  bif decide (List.length st6.1 + List.length [[st6.2.1, st6.2.2.1, st6.2.2.2.2.2.2.2]] ≤ lim) then
                    some (.inl ((st6.1 ++ [[st6.2.1, st6.2.2.1, st6.2.2.2.2.2.2.2]]), st6.2.1, st6.2.2.1, st6.2.2.2.1, st6.2.2.2.2.1, st6.2.2.2.2.2.1, st6.2.2.2.2.2.2.1, (w64 (st6.2.2.2.2.2.2.2 + 1))))
                  else
                    none
                else
                  some (.inl (st6.1, st6.2.1, st6.2.2.1, st6.2.2.2.1, st6.2.2.2.2.1, st6.2.2.2.2.2.1, st6.2.2.2.2.2.2.1, (w64 (st6.2.2.2.2.2.2.2 + 1))))
              else
                some (.inr st6.1) : Option (((List (List Int)) × Int × Int × Int × Int × Int × Int × Int) ⊕ ((List (List Int)))))) (st3.1, e4.1, e4.2.1, e4.2.2.1, e4.2.2.2.1, e4.2.2.2.2.1, e4.2.2.2.2.2.1, 0)).bind fun o9 =>
          some (.inl (o9, (w64 (st3.2 + 1))))
        else
          some (.inr st3.1) : Option (((List (List Int)) × Int) ⊕ ((List (List Int)))))) (fun out i x hx hi => by
      simp only [at_lt hi, cond_true, hx, Option.bind_some]; rfl) (fun out => by simp) (fun x out j hj ho => by
      have e : (x.1, x.2.1, x.2.2.1, x.2.2.2.1, x.2.2.2.2.1, x.2.2.2.2.2.1, ()) = x := rfl
      have el := lim_ok (n := out.length + [[x.1, x.2.1, (j : Int)]].length) (by simp; omega)
      simp only [mkP, i_pass hw hp, Option.bind_some, e]
      rw [at_lt hj, cond_true, el, cond_true]
      unfold addP
      cases pass w x (j : Int) with
      | none => rfl
      | some v => simp only [passV, canV, cond_true, Option.bind_some]; by_cases hv : v = w.2.2.1 <;> simp [hv]) (fun x out => by simp [mkP])
  rw [t1]
  refine ⟨_, true, rfl, rfl, by omega, fun r hr => by rw [s3 r hr]; omega, ?_⟩
  rw [total_le 3 _ s3]
  omega

/-- FnExactAllowedPasses -/
theorem plain_AllowedPasses (w : GNetwork) (hw : FineW w) : l_FnExactAllowedPasses w = some true := by
  unfold l_FnExactAllowedPasses
  obtain ⟨r, hr, h2⟩ := szNetwork hw
  rw [hr]
  simp only [Option.bind_some]
  by_cases h3 : r < 0
  · rw [dec_t h3]; rfl
  rw [dec_f h3]
  have hs : SmallW w := h2.resolve_left h3
  obtain ⟨v, b, e1, e2, hv⟩ := allow_same hw
  have hc := cntW_le hs
  have ht := hv.tot
  simp only [toNetwork hs, eqNetwork hw, e1, e2, eqIntSS hv, markNetwork hs (k := 1) (by omega) (by omega), markIntSS hv, heldIntSS hv, Option.bind_some, cond_false, Bool.not_true, bne_self_eq_false,
    dec_f (by omega : ¬ (1 + (cntW w : Int)) < 0), dec_f (by omega : ¬ (1 + (total List.length v : Int)) < 0), decide_true]

/-! the next moment -/

def nextL (n : GNet) (a : Int) : List Int := (List.range n.1.length).foldl (fun (out : List Int) (j : Nat) => bif (link n a (j : Int)).isSome then out ++ [(j : Int)] else out) []
theorem push_mem {c : Nat → Bool} : ∀ (l : List Nat) (out : List Int), ∀ e ∈ l.foldl (fun (out : List Int) (j : Nat) => bif c j then out ++ [(j : Int)] else out) out, e ∈ out ∨ ∃ j ∈ l, e = (j : Int) ∧ c j = true
  | [], out => fun e h => .inl h
  | x :: l, out => fun e h => by
    simp only [List.foldl_cons] at h
    rcases push_mem l _ e h with h | ⟨j, h1, h2⟩
    · cases hc : c x with
      | false => rw [hc] at h; exact .inl h
      | true =>
        rw [hc] at h
        simp only [cond_true, List.mem_append, List.mem_singleton] at h
        rcases h with h | h
        · exact .inl h
        · exact .inr ⟨x, by simp, h, hc⟩
    · exact .inr ⟨j, List.mem_cons_of_mem _ h1, h2⟩
theorem push_fold {σ : Type} {c : Nat → Bool} (g : σ → Int → σ) : ∀ (l : List Nat) (out : List Int) (s : σ), (l.foldl (fun (out : List Int) (j : Nat) => bif c j then out ++ [(j : Int)] else out) out).foldl g s = l.foldl (fun s j => bif c j then g s (j : Int) else s) (out.foldl g s)
  | [], out, s => rfl
  | x :: l, out, s => by
    simp only [List.foldl_cons]
    rw [push_fold g l]
    cases c x with
    | false => rfl
    | true => simp
theorem s_next {n : GNet} (h : FineN n) (hn : isNet n = true) (a : Int) : s_neNext n a = some (nextL n a) ∧ (nextL n a).length ≤ 16 := by
  have hT := net_sz hn
  unfold s_neNext nextL
  have := fold_at (n := n.1.length) (f := fun (st2 : (List Int) × Int) => (
      bif (decide (st2.2 < (n.1.length : Int))) then
        (s_neLink n a st2.2).bind fun r3 =>
        bif (decide (0 ≤ r3)) then
          bif decide (List.length st2.1 + List.length [st2.2] ≤ lim) then
            some (.inl ((st2.1 ++ [st2.2]), (w64 (st2.2 + 1))))
          else
            none
        else
          some (.inl (st2.1, (w64 (st2.2 + 1))))
      else
        some (.inr st2.1) : Option (((List Int) × Int) ⊕ ((List Int))))) Prod.mk (fun (out : List Int) (j : Nat) => bif (link n a (j : Int)).isSome then out ++ [(j : Int)] else out) (fun s => s) (fun i s => s.length ≤ i) [] (by simp) ?_ ?_
  · rw [this.1]
    have := this.2
    exact ⟨rfl, by omega⟩
  · intro s j hj hI
    have el := lim_ok (n := s.length + [(j : Int)].length) (by simp; omega)
    simp only [at_lt hj, cond_true, s_link h, Option.bind_some, w64_of (x := (j : Int) + 1) (by omega) (by omega), el]
    cases hk : link n a (j : Int) with
    | none => exact ⟨rfl, by simp; omega⟩
    | some k =>
      simp only [place, dec_t (by omega : 0 ≤ (k : Int)), cond_true, Option.isSome_some]
      exact ⟨rfl, by simp; omega⟩
  · intro s _; simp

def best1 (w : GNetwork) (x : GParcel) (b t : Int) : Int :=
  match pass w x t with
  | none => b
  | some v => bif inB v 0 10000 && (decide (b < 0) || decide (v < b)) then v else b
def next1 (w : GNetwork) (x : GParcel) (b : Int) (j : Nat) : Int :=
  match pass w x (j : Int) with
  | none => b
  | some v => bif decide (v < b) then v else b
def BN (b n : Int) : Prop := (10000 < n ∧ b = -1) ∨ (0 ≤ n ∧ n ≤ 10000 ∧ b = n)
theorem pass_ge {w : GNetwork} {x : GParcel} {t v : Int} (h0 : 0 ≤ w.2.2.1) (h : pass w x t = some v) : 0 ≤ v := by
  unfold pass at h
  cases hk : link w.1 x.2.2.2.1 t with
  | none => rw [hk] at h; cases h
  | some k =>
    rw [hk] at h
    cases hd : decide (x.2.2.2.1 = x.2.2.2.2.1) with
    | true => simp only [hd, cond_true] at h; cases h
    | false =>
      simp only [hd, cond_false] at h
      cases h
      refine Int.le_trans ?_ (startV_ge _ _ _ _)
      by_cases h1 : w.2.2.1 < x.2.2.2.2.2.1
      · rw [dec_t h1]; simp only [cond_true]; omega
      · rw [dec_f h1]; simp only [cond_false]; omega
theorem bn_step {w : GNetwork} (h0 : 0 ≤ w.2.2.1) (x : GParcel) {b n : Int} (j : Nat) (r : BN b n) : BN (best1 w x b (j : Int)) (next1 w x n j) := by
  unfold best1 next1
  cases hp : pass w x (j : Int) with
  | none => exact r
  | some v =>
    have hv := pass_ge h0 hp
    simp only
    unfold BN at r ⊢
    unfold inB
    by_cases h1 : v ≤ 10000
    · rw [dec_t hv, dec_t h1]
      rcases r with ⟨r1, r2⟩ | ⟨r1, r2, r3⟩
      · rw [dec_t (by omega : b < 0), dec_t (by omega : v < n)]; simp only [Bool.true_or, Bool.and_self, cond_true]; exact .inr ⟨hv, h1, by trivial⟩
      · by_cases h2 : v < b
        · rw [dec_t h2, dec_t (by omega : v < n)]; simp only [Bool.or_true, Bool.and_self, cond_true]; exact .inr ⟨hv, h1, by trivial⟩
        · rw [dec_f h2, dec_f (by omega : ¬ v < n), dec_f (by omega : ¬ b < 0)]; simp only [Bool.or_self, Bool.and_false, cond_false]; omega
    · rw [dec_f h1]
      simp only [Bool.and_false, Bool.false_and, cond_false]
      by_cases h2 : v < n
      · rw [dec_t h2]; simp only [cond_true]; omega
      · rw [dec_f h2]; simp only [cond_false]; omega

theorem next_same {w : GNetwork} (hw : FineW w) : ∃ v b, s_NextMoment w = some (v, b) ∧ i_NextMoment w = some (v, b) := by
  unfold s_NextMoment i_NextMoment
  rw [s_isNw hw, i_isNw hw]
  simp only [Option.bind_some]
  cases hn : isNw w with
  | false => exact ⟨0, false, rfl, rfl⟩
  | true =>
  obtain ⟨p1, p2, p3, p4, p5, p6⟩ := isNw_parts hn
  have hT := net_sz p1
  simp only [Bool.not_true, cond_false]
  have es : loopE (fun (st3 : Int × Int) => (
        bif (decide (st3.2 < (w.2.2.2.1.length : Int))) then
          (idx w.2.2.2.1 st3.2).bind fun e4 =>
          (s_neNext w.1 e4.2.2.2.1).bind fun r5 =>
          (loopE (fun (st7 : Int × Int × Int × Int × Int × Int × Int × (List Int) × Int) => (
              bif (decide (st7.2.2.2.2.2.2.2.2 < (r5.length : Int))) then
                bif decide (0 ≤ st7.2.2.2.2.2.2.2.2) && decide (st7.2.2.2.2.2.2.2.2 < (st7.2.2.2.2.2.2.2.1.length : Int)) then
                  (st7.2.2.2.2.2.2.2.1[(Int.toNat st7.2.2.2.2.2.2.2.2)]?).bind fun e8 =>
                  (s_neLink w.1 st7.2.2.2.2.1 e8).bind fun r9 =>
                  (s_l1Most w.2.2.1 st7.2.2.2.2.2.2.1).bind fun r10 =>
                  (idx w.1.2.1 r9).bind fun e11 =>
                  (s_fgStart w.2.1 r9 r10 e11.2.2.1).bind fun r12 =>
                  (bif (!decide (st7.2.2.2.2.1 = st7.2.2.2.2.2.1)) then
                      (s_fgTime r12).bind fun r13 =>
                      some r13
                    else
                      some false).bind fun c14 =>
                  (bif c14 then
                      (bif (decide (st7.1 < 0)) then
                          some true
                        else
                          some (decide (r12 < st7.1))).bind fun c15 =>
                      some c15
                    else
                      some false).bind fun c16 =>
                  bif c16 then
                    some (.inl (r12, st7.2.1, st7.2.2.1, st7.2.2.2.1, st7.2.2.2.2.1, st7.2.2.2.2.2.1, st7.2.2.2.2.2.2.1, st7.2.2.2.2.2.2.2.1, (w64 (st7.2.2.2.2.2.2.2.2 + 1))))
                  else
                    some (.inl (st7.1, st7.2.1, st7.2.2.1, st7.2.2.2.1, st7.2.2.2.2.1, st7.2.2.2.2.2.1, st7.2.2.2.2.2.2.1, st7.2.2.2.2.2.2.2.1, (w64 (st7.2.2.2.2.2.2.2.2 + 1))))
                else
                  none
              else
                some (.inr st7.1) : Option ((Int × Int × Int × Int × Int × Int × Int × (List Int) × Int) ⊕ (Int)))) (st3.1, e4.1, e4.2.1, e4.2.2.1, e4.2.2.2.1, e4.2.2.2.2.1, e4.2.2.2.2.2.1, r5, 0)).bind fun o17 =>
          some (.inl (o17, (w64 (st3.2 + 1))))
        else
          some (.inr st3.1) : Option ((Int × Int) ⊕ (Int)))) ((-1), 0) = some (w.2.2.2.1.foldl (fun (b : Int) (x : GParcel) => (List.range w.1.1.length).foldl (fun (b : Int) (j : Nat) => best1 w x b (j : Int)) b) (-1)) := by
    refine (fold_loop (l := w.2.2.2.1) Prod.mk (fun (b : Int) (x : GParcel) => (List.range w.1.1.length).foldl (fun (b : Int) (j : Nat) => best1 w x b (j : Int)) b) (fun s => s) (fun _ _ => True) (-1) trivial ?_ (fun s _ => by simp)).1
    intro s i x hx hi _
    refine ⟨?_, trivial⟩
    obtain ⟨n1, n2⟩ := s_next hw.n p1 x.2.2.2.1
    simp only [idx_get, hx, Option.bind_some, at_lt hi, cond_true, n1, w64_of (x := (i : Int) + 1) (by omega) (by omega)]
    refine bind_eq (fold_loop (l := nextL w.1 x.2.2.2.1) (fun b i => (b, x.1, x.2.1, x.2.2.1, x.2.2.2.1, x.2.2.2.2.1, x.2.2.2.2.2.1, nextL w.1 x.2.2.2.1, i)) (best1 w x) (fun s => s) (fun _ _ => True) s trivial ?_ (fun s _ => by simp)).1 ?_
    · intro b j t ht hj _
      refine ⟨?_, trivial⟩
      have hmem := push_mem _ _ t (List.mem_of_getElem? ht)
      simp only [List.not_mem_nil, false_or] at hmem
      obtain ⟨j', _, rfl, hc⟩ := hmem
      obtain ⟨k, hk⟩ := Option.isSome_iff_exists.1 hc
      obtain ⟨y, e1, e2⟩ := idx_link hk
      have em : s_l1Most w.2.2.1 x.2.2.2.2.2.1 = some (bif decide (w.2.2.1 < x.2.2.2.2.2.1) then x.2.2.2.2.2.1 else w.2.2.1) := by
        unfold s_l1Most
        by_cases h1 : w.2.2.1 < x.2.2.2.2.2.1
        · rw [dec_t h1, dec_f (by omega : ¬ x.2.2.2.2.2.1 < w.2.2.1)]; rfl
        · rw [dec_f h1]
          by_cases h2 : x.2.2.2.2.2.1 < w.2.2.1
          · rw [dec_t h2]; rfl
          · rw [dec_f h2]; simp only [cond_false]; congr 1; omega
      simp only [at_lt hj, cond_true, dec_t (by omega : 0 ≤ (j : Int)), Bool.and_self, Int.toNat_natCast, ht, Option.bind_some, s_link hw.n, hk, place, em, e1, e2, s_start hw.f, w64_of (x := (j : Int) + 1) (by omega) (by omega)]
      unfold best1 pass
      rw [hk]
      simp only [s_fgTime, l1In_eq, Option.bind_some]
      cases decide (x.2.2.2.1 = x.2.2.2.2.1) with
      | true => rfl
      | false =>
        simp only [cond_false, Bool.not_false, cond_true, Option.bind_some]
        generalize startV w.2.1 (k : Int) (bif decide (w.2.2.1 < x.2.2.2.2.2.1) then x.2.2.2.2.2.1 else w.2.2.1) (delay w.1 k) = v
        cases inB v 0 10000 <;> cases decide (b < 0) <;> cases decide (v < b) <;> rfl
    · unfold nextL
      rw [push_fold]
      congr 3
      simp only [List.foldl_nil]
      congr 1
      funext b j
      unfold best1 pass
      cases link w.1 x.2.2.2.1 (j : Int) <;> rfl
  have ei : loopE (fun (st3 : Int × Int) => (
        bif (decide (st3.2 < (w.2.2.2.1.length : Int))) then
          (idx w.2.2.2.1 st3.2).bind fun e4 =>
          (loopE (fun (st6 : Int × Int × Int × Int × Int × Int × Int × Int) => (
              bif (decide (st6.2.2.2.2.2.2.2 < (w.1.1.length : Int))) then
                (i_passStart w (st6.2.1, st6.2.2.1, st6.2.2.2.1, st6.2.2.2.2.1, st6.2.2.2.2.2.1, st6.2.2.2.2.2.2.1, ()) st6.2.2.2.2.2.2.2).bind fun r7 =>
                bif r7.2 then
                  some (.inl ((bif decide (r7.1 < st6.1) then r7.1 else st6.1), st6.2.1, st6.2.2.1, st6.2.2.2.1, st6.2.2.2.2.1, st6.2.2.2.2.2.1, st6.2.2.2.2.2.2.1, (w64 (st6.2.2.2.2.2.2.2 + 1))))
                else
                  some (.inl (st6.1, st6.2.1, st6.2.2.1, st6.2.2.2.1, st6.2.2.2.2.1, st6.2.2.2.2.2.1, st6.2.2.2.2.2.2.1, (w64 (st6.2.2.2.2.2.2.2 + 1))))
              else
                some (.inr st6.1) : Option ((Int × Int × Int × Int × Int × Int × Int × Int) ⊕ (Int)))) (st3.1, e4.1, e4.2.1, e4.2.2.1, e4.2.2.2.1, e4.2.2.2.2.1, e4.2.2.2.2.2.1, 0)).bind fun o8 =>
          some (.inl (o8, (w64 (st3.2 + 1))))
        else
          some (.inr st3.1) : Option ((Int × Int) ⊕ (Int)))) (10001, 0) = some (w.2.2.2.1.foldl (fun (b : Int) (x : GParcel) => (List.range w.1.1.length).foldl (next1 w x) b) 10001) := by
    refine (fold_loop (l := w.2.2.2.1) Prod.mk (fun (b : Int) (x : GParcel) => (List.range w.1.1.length).foldl (next1 w x) b) (fun s => s) (fun _ _ => True) 10001 trivial ?_ (fun s _ => by simp)).1
    intro s i x hx hi _
    refine ⟨?_, trivial⟩
    simp only [idx_get, hx, Option.bind_some, at_lt hi, cond_true, w64_of (x := (i : Int) + 1) (by omega) (by omega)]
    refine bind_eq (fold_at (n := w.1.1.length) (fun b i => (b, x.1, x.2.1, x.2.2.1, x.2.2.2.1, x.2.2.2.2.1, x.2.2.2.2.2.1, i)) (next1 w x) (fun s => s) (fun _ _ => True) s trivial ?_ (fun s _ => by simp)).1 rfl
    intro b j hj _
    refine ⟨?_, trivial⟩
    have e : (x.1, x.2.1, x.2.2.1, x.2.2.2.1, x.2.2.2.2.1, x.2.2.2.2.2.1, ()) = x := rfl
    simp only [at_lt hj, cond_true, e, i_pass hw p1, Option.bind_some, w64_of (x := (j : Int) + 1) (by omega) (by omega), next1]
    cases pass w x (j : Int) <;> rfl
  rw [es, ei]
  have r := foldl_rel BN (fun (b : Int) (x : GParcel) => (List.range w.1.1.length).foldl (fun (b : Int) (j : Nat) => best1 w x b (j : Int)) b) (fun (b : Int) (x : GParcel) => (List.range w.1.1.length).foldl (next1 w x) b) w.2.2.2.1 (-1) 10001 (.inl ⟨by omega, rfl⟩) (fun s t x _ r => foldl_rel BN _ _ _ _ _ r (fun s t j _ r => bn_step p3 x j r))
  generalize w.2.2.2.1.foldl (fun (b : Int) (x : GParcel) => (List.range w.1.1.length).foldl (fun (b : Int) (j : Nat) => best1 w x b (j : Int)) b) (-1) = b at *
  generalize w.2.2.2.1.foldl (fun (b : Int) (x : GParcel) => (List.range w.1.1.length).foldl (next1 w x) b) 10001 = n at *
  simp only [Option.bind_some]
  rcases r with ⟨r1, r2⟩ | ⟨r1, r2, r3⟩
  · rw [dec_t (by omega : b < 0), dec_t (by omega : 10000 < n)]; exact ⟨_, _, rfl, rfl⟩
  · rw [dec_f (by omega : ¬ b < 0), dec_f (by omega : ¬ 10000 < n), r3]; exact ⟨_, _, rfl, rfl⟩

/-- FnExactNextMoment -/
theorem plain_NextMoment (w : GNetwork) (hw : FineW w) : l_FnExactNextMoment w = some true := by
  unfold l_FnExactNextMoment
  obtain ⟨r, hr, h2⟩ := szNetwork hw
  rw [hr]
  simp only [Option.bind_some]
  by_cases h3 : r < 0
  · rw [dec_t h3]; rfl
  rw [dec_f h3]
  have hs : SmallW w := h2.resolve_left h3
  obtain ⟨v, b, e1, e2⟩ := next_same hw
  simp only [toNetwork hs, eqNetwork hw, e1, e2, Option.bind_some, cond_false, Bool.not_true, bne_self_eq_false, decide_true]
end Go.Proofs.Ytlalabdgkkfjpaa.Sh
