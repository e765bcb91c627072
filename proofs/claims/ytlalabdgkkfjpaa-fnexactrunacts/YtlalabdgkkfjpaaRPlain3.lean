/-
  Networks in plain Lean: valid parcels.
-/
import Derived.Test.YtlalabdgkkfjpaaRPlain2
namespace Go.Ab
/-- a loop that counts and asks one thing of all places; its state is made of the place -/
theorem all_loop_mk {τ ρ : Type} {n : Nat} {f : τ → Option (τ ⊕ ρ)} (mk : Int → τ) (T : Nat → Bool) (y z : ρ)
    (hf : ∀ (i : Nat), i < n → f (mk i) = some (bif T i then .inl (mk ((i : Int) + 1)) else .inr y)) (hend : f (mk n) = some (.inr z)) :
    loopE f (mk 0) = some (bif (List.range n).all T then z else y) := by
  have main : ∀ (k i : Nat), i + k = n → loopE f (mk i) = some (bif (List.range' i k).all T then z else y) := by
    intro k
    induction k with
    | zero => intro i h; obtain rfl : i = n := by omega
              exact loopE_done hend
    | succ k ih =>
      intro i h
      have h1 := hf i (by omega)
      simp only [List.range'_succ, List.all_cons]
      cases ht : T i with
      | true => rw [ht] at h1; rw [loopE_step h1]; exact ih (i + 1) (by omega)
      | false => rw [ht] at h1; exact loopE_done h1
  have := main n 0 (by omega)
  rw [List.range_eq_range']
  exact this
end Go.Ab
namespace Go.Proofs.Ytlalabdgkkfjpaa.Sh
open Go Go.Ab Go.Proofs

def P (ps : List GParcel) (i : Nat) : GParcel := ps.getD i (0, 0, 0, 0, 0, 0, ())
theorem idxP {ps : List GParcel} {i : Nat} (h : i < ps.length) : idx ps (i : Int) = some (P ps i) := by
  rw [idx_get]; unfold P; simp [h]
theorem idxP' {ps : List GParcel} {x : Int} {i : Nat} (e : x = (i : Int)) (h : i < ps.length) : idx ps x = some (P ps i) := by
  rw [e]; exact idxP h

/-- what is asked of the parcel at a place, whatever stands beside it -/
structure Alone (T : Nat) (x : GParcel) : Prop where
  m : 1 ≤ x.1 ∧ x.1 ≤ 999
  k : 1 ≤ x.2.2.1 ∧ x.2.2.1 ≤ 9
  p : 0 ≤ x.2.1 ∧ x.2.1 < x.2.2.1
  a : 0 ≤ x.2.2.2.1 ∧ x.2.2.2.1 < (T : Int)
  t : 0 ≤ x.2.2.2.2.1 ∧ x.2.2.2.2.1 < (T : Int)
  f : 0 ≤ x.2.2.2.2.2.1 ∧ x.2.2.2.2.2.1 ≤ 20000
structure Cond (T : Nat) (ps : List GParcel) (i : Nat) : Prop where
  al : Alone T (P ps i)
  lo : (P ps i).2.1 ≤ (i : Int)
  hi : (i : Int) - (P ps i).2.1 + (P ps i).2.2.1 ≤ (ps.length : Int)
  q : (P ps (i - (P ps i).2.1.toNat)).1 = (P ps i).1 ∧ (P ps (i - (P ps i).2.1.toNat)).2.1 = 0 ∧ (P ps (i - (P ps i).2.1.toNat)).2.2.1 = (P ps i).2.2.1 ∧ (P ps (i - (P ps i).2.1.toNat)).2.2.2.2.1 = (P ps i).2.2.2.2.1
  bf : 0 < i → (P ps (i - 1)).1 < (P ps i).1 ∨ ((P ps (i - 1)).1 = (P ps i).1 ∧ (P ps i).2.1 ≠ 0)
  nx : (P ps i).2.1 < (P ps i).2.2.1 - 1 → (P ps (i + 1)).1 = (P ps i).1
  en : (P ps i).2.1 = (P ps i).2.2.1 - 1 → i + 1 < ps.length → (P ps i).1 < (P ps (i + 1)).1

structure InG (T : Nat) (x : GParcel) (j : Nat) (y : GParcel) : Prop where
  m : y.1 = x.1
  p : y.2.1 = (j : Int)
  k : y.2.2.1 = x.2.2.1
  t : y.2.2.2.2.1 = x.2.2.2.2.1
  f : 0 ≤ y.2.2.2.2.2.1 ∧ y.2.2.2.2.2.1 ≤ 20000
  a : 0 ≤ y.2.2.2.1 ∧ y.2.2.2.1 < (T : Int)
  tt : 0 ≤ y.2.2.2.2.1 ∧ y.2.2.2.2.1 < (T : Int)
inductive Groups (T : Nat) (ps : List GParcel) : Int → Nat → Prop
  | nil {last : Int} : Groups T ps last ps.length
  | step {last : Int} {i : Nat} (k : Nat) (h : i < ps.length) (hm : last < (P ps i).1) (h9 : (P ps i).1 ≤ 999) (hk : (P ps i).2.2.1 = (k : Int)) (k1 : 1 ≤ k) (k9 : k ≤ 9) (hl : i + k ≤ ps.length)
      (hg : ∀ j, j < k → InG T (P ps i) j (P ps (i + j))) (r : Groups T ps (P ps i).1 (i + k)) : Groups T ps last i

theorem Groups.head {T : Nat} {ps : List GParcel} {last : Int} {i : Nat} (h : Groups T ps last i) (hi : i < ps.length) : last < (P ps i).1 := by
  cases h with
  | nil => omega
  | step => assumption

theorem cond_of {T : Nat} {ps : List GParcel} {last : Int} {i : Nat} (h : Groups T ps last i) (h0 : 0 ≤ last) (hp : 0 < i → (P ps (i - 1)).1 = last) : ∀ j, i ≤ j → j < ps.length → Cond T ps j := by
  induction h with
  | nil => intro j h1 h2; omega
  | @step last i k h hm h9 hk k1 k9 hl hg r ih =>
    intro j h1 h2
    by_cases hj : j < i + k
    · obtain ⟨d, rfl⟩ : ∃ d, j = i + d := ⟨j - i, by omega⟩
      have g := hg d (by omega)
      have g0 := hg 0 (by omega)
      simp only [Nat.add_zero] at g0
      have ed : i + d - (P ps (i + d)).2.1.toNat = i := by rw [g.p]; omega
      refine ⟨⟨?_, ?_, ?_, g.a, g.tt, g.f⟩, ?_, ?_, ?_, ?_, ?_, ?_⟩
      · rw [g.m]; omega
      · rw [g.k]; omega
      · rw [g.k, g.p]; omega
      · rw [g.p]; omega
      · rw [g.p, g.k]; omega
      · rw [ed, g.m, g.k, g.t]; exact ⟨rfl, g0.p, rfl, rfl⟩
      · intro hpos
        rw [g.m, g.p]
        by_cases hd : d = 0
        · subst hd
          simp only [Nat.add_zero] at hpos ⊢
          left; rw [hp hpos]; exact hm
        · have g' := hg (d - 1) (by omega)
          rw [show i + d - 1 = i + (d - 1) by omega, g'.m]
          right; exact ⟨rfl, by omega⟩
      · rw [g.p, g.k, g.m]
        intro hlt
        have g' := hg (d + 1) (by omega)
        rw [show i + d + 1 = i + (d + 1) by omega, g'.m]
      · rw [g.p, g.k, g.m]
        intro he hlt
        have : d + 1 = k := by omega
        have := r.head (by omega)
        rw [show i + d + 1 = i + k by omega]
        exact this
    · refine ih (by omega) (fun _ => ?_) j (by omega) h2
      have g := hg (k - 1) (by omega)
      rw [show i + k - 1 = i + (k - 1) by omega, g.m]

theorem groups_of {T : Nat} {ps : List GParcel} (hc : ∀ j, j < ps.length → Cond T ps j) : ∀ (n i : Nat) (last : Int), i + n = ps.length → (∀ j, j < i → (P ps j).1 ≤ last) → (i < ps.length → last < (P ps i).1) → Groups T ps last i := by
  intro n
  induction n using Nat.strongRecOn with
  | ind n ih =>
    intro i last hn hb hlt
    by_cases hi : i < ps.length
    · have c := hc i hi
      have hlast := hlt hi
      have hpart : (P ps i).2.1 = 0 := by
        by_cases h : (P ps i).2.1 = 0
        · exact h
        · exfalso
          have h1 := c.al.p; have h2 := c.lo
          have := hb (i - (P ps i).2.1.toNat) (by omega)
          have := c.q.1
          omega
      have hk := c.al.k
      have hhi := c.hi
      rw [hpart] at hhi
      have hg : ∀ j, j < (P ps i).2.2.1.toNat → InG T (P ps i) j (P ps (i + j)) := by
        intro j
        induction j with
        | zero => intro _; exact ⟨rfl, hpart, rfl, rfl, c.al.f, c.al.a, c.al.t⟩
        | succ j ihj =>
          intro hj
          have g := ihj (by omega)
          have cj := hc (i + j) (by omega)
          have cn := hc (i + (j + 1)) (by omega)
          have e1 : (P ps (i + (j + 1))).1 = (P ps i).1 := by
            have := cj.nx (by rw [g.p, g.k]; omega)
            rw [← g.m, ← this]; rfl
          have hle : (P ps (i + (j + 1))).2.1 = ((j + 1 : Nat) : Int) := by
            have hlo := cn.lo; have hp := cn.al.p; have hq := cn.q
            generalize hr : (P ps (i + (j + 1))).2.1 = r at *
            by_cases h1 : (j : Int) + 1 < r
            · have := hb (i + (j + 1) - r.toNat) (by omega)
              omega
            · by_cases h2 : r < 1
              · have r0 : r = 0 := by omega
                subst r0
                rcases cn.bf (by omega) with h | h
                · rw [show i + (j + 1) - 1 = i + j by omega, g.m] at h; omega
                · exact absurd hr h.2
              · by_cases h3 : r = (j : Int) + 1
                · omega
                · have := ihj
                  obtain ⟨d, hd⟩ : ∃ d : Nat, i + (j + 1) - r.toNat = i + d ∧ 0 < d ∧ d ≤ j := ⟨j + 1 - r.toNat, by omega, by omega, by omega⟩
                  rw [hd.1] at hq
                  have cd := hc (i + d) (by omega)
                  -- the place d lies within the group: its part is not 0
                  have hbf := cd.bf (by omega)
                  rw [hq.2.1] at hbf
                  rcases hbf with h | h
                  · -- the one before has a smaller message, but the group's start stands there or ahead
                    exfalso
                    have mono : ∀ e, e < d → (P ps (i + e)).1 = (P ps i).1 := by
                      intro e
                      induction e with
                      | zero => intro _; rfl
                      | succ e ihe =>
                        intro he
                        have ce := hc (i + e) (by omega)
                        have ce1 := hc (i + (e + 1)) (by omega)
                        have hm := ihe (by omega)
                        -- monotone up and bounded by the end
                        have up : ∀ z, i + (e + 1) + z ≤ i + d → (P ps (i + (e + 1))).1 ≤ (P ps (i + (e + 1) + z)).1 := by
                          intro z
                          induction z with
                          | zero => intro _; exact Int.le_refl _
                          | succ z ihz =>
                            intro hz
                            have := ihz (by omega)
                            have cz := (hc (i + (e + 1) + (z + 1)) (by omega)).bf (by omega)
                            rw [show i + (e + 1) + (z + 1) - 1 = i + (e + 1) + z by omega] at cz
                            rcases cz with h | h <;> omega
                        have u := up (d - (e + 1)) (by omega)
                        rw [show i + (e + 1) + (d - (e + 1)) = i + d by omega, hq.1, e1] at u
                        have b := ce1.bf (by omega)
                        rw [show i + (e + 1) - 1 = i + e by omega, hm] at b
                        rcases b with h | h <;> omega
                    have := mono (d - 1) (by omega)
                    rw [show i + d - 1 = i + (d - 1) by omega, this, hq.1, e1] at h
                    omega
                  · exact absurd rfl h.2
          have hs : i + (j + 1) - (P ps (i + (j + 1))).2.1.toNat = i := by rw [hle]; omega
          have hq := cn.q
          rw [hs] at hq
          exact ⟨e1, hle, hq.2.2.1.symm, hq.2.2.2.symm, cn.al.f, cn.al.a, cn.al.t⟩
      refine .step (P ps i).2.2.1.toNat hi hlast c.al.m.2 (by omega) (by omega) (by omega) (by omega) hg ?_
      refine ih (n - (P ps i).2.2.1.toNat) (by omega) _ _ (by omega) ?_ ?_
      · intro j hj
        by_cases h : j < i
        · have := hb j h; omega
        · have := (hg (j - i) (by omega)).m
          rw [show i + (j - i) = j by omega] at this
          omega
      · intro hlt2
        have g := hg ((P ps i).2.2.1.toNat - 1) (by omega)
        have ce := (hc (i + ((P ps i).2.2.1.toNat - 1)) (by omega)).en (by rw [g.p, g.k]; omega) (by omega)
        rw [g.m] at ce
        rw [show i + (P ps i).2.2.1.toNat = i + ((P ps i).2.2.1.toNat - 1) + 1 by omega]
        exact ce
    · obtain rfl : i = ps.length := by omega
      exact .nil

theorem cond_iff {T : Nat} {ps : List GParcel} : (∀ j, j < ps.length → Cond T ps j) ↔ Groups T ps 0 0 := by
  constructor
  · intro h
    exact groups_of h ps.length 0 0 (by omega) (fun j hj => by omega) (fun h2 => by have := (h 0 h2).al.m; omega)
  · intro h j hj
    exact cond_of h (by omega) (fun h => by omega) j (by omega) hj
end Go.Proofs.Ytlalabdgkkfjpaa.Sh
