/-
  A stretch of quiet operations, run in any order that the edges allow.
-/
import Derived.Test.YtffmiefhnbkcbaaGreatXTrace
namespace Go.Ab
open Go Go.RowKit
def SmallOs (d : Nat) (os : AHeap) : Prop := ∀ id, AHeap.get os id ≠ none → d * 16 ≤ id ∧ id ≤ d * 16 + 15
def QRes.Small (d : Nat) : QRes → Prop
  | .fail => True
  | .ok _ os => SmallOs d os
  | .guard _ _ os => SmallOs d os
  | .bind _ _ f => ∀ x, SmallOs d (f x).2
theorem SmallOs.nil (d : Nat) : SmallOs d [] := fun _ h => absurd rfl h
theorem SmallOs.one [Tabs] (d : Nat) (o : AObj) : SmallOs d [(d * 16, o)] := fun id h => by
  rw [get_one] at h
  have : id = d * 16 := by
    by_cases e : id = d * 16
    · exact e
    · simp [e] at h
  omega
theorem QRes.Small.one [Tabs] (d : Nat) (c : ACell) : (qone c).Small d := SmallOs.nil d
theorem QRes.Small.ite {d : Nat} {b : Bool} {x y : QRes} (hx : x.Small d) (hy : y.Small d) : (bif b then x else y).Small d := by cases b <;> assumption
theorem aBin_small [Tabs] (d : Nat) (tb : Bool) (op : BinOp) (a b : ACell) : (aBin tb op a b).Small d := by
  unfold aBin
  split
  · refine QRes.Small.ite (SmallOs.nil d) (QRes.Small.ite ?_ trivial)
    split <;> first | exact SmallOs.nil d | trivial
  · split <;> first | exact SmallOs.nil d | trivial
  · split <;> first | exact SmallOs.nil d | trivial
  · trivial
theorem aUn_small [Tabs] (d : Nat) (op : UnOp) (a : ACell) : (aUn op a).Small d := by
  unfold aUn
  split <;> first | exact SmallOs.nil d | trivial
theorem aLoad_small [Tabs] (d : Nat) (get : HGet) (t : Ty) (a : ACell) : (aLoad get t a).Small d := by
  unfold aLoad
  split
  · split <;> first | exact SmallOs.nil d | trivial
  · split
    · exact QRes.Small.ite (SmallOs.nil d) trivial
    · trivial
  · split
    · refine QRes.Small.ite (QRes.Small.ite (fun _ => SmallOs.nil d) ?_) trivial
      split
      · exact QRes.Small.ite (fun _ => SmallOs.nil d) trivial
      · trivial
    · trivial
  · trivial
theorem aEq_small (d : Nat) (u : Ty) (op : BinOp) (a b : List ACell) : (aEq u op a b).Small d := by
  unfold aEq
  split
  · split
    · exact SmallOs.nil d
    · exact SmallOs.nil d
    · trivial
  · trivial
theorem aQ_small [Tabs] (E : Env) (ev : Operand → AVal) (get : HGet) (d : Nat) (o : Op) : (aQ E ev get d o).Small d := by
  unfold aQ
  split
  all_goals (repeat' split)
  all_goals (first
    | trivial
    | exact SmallOs.nil d
    | exact SmallOs.one d _
    | exact aBin_small d _ _ _ _
    | exact aEq_small d _ _ _ _
    | exact aUn_small d _ _
    | exact aLoad_small d _ _ _
    | exact fun _ => SmallOs.nil d
    | skip)
  all_goals (repeat' (first | refine QRes.Small.ite ?_ ?_ | split))
  all_goals (first
    | trivial
    | exact SmallOs.nil d
    | exact SmallOs.one d _
    | exact fun _ => SmallOs.nil d)
theorem Small.gives {d : Nat} {q : QRes} (h : q.Small d) {v : AVal} {os : AHeap} (g : q.gives v os) : SmallOs d os := by
  cases q with
  | fail => cases g
  | ok v' os' => obtain ⟨rfl, rfl⟩ := g; exact h
  | guard c v' os' => obtain ⟨_, rfl, rfl⟩ := g; exact h
  | bind α m f =>
    obtain ⟨x, _, hx⟩ := g
    have := h x
    rw [hx] at this
    exact this
theorem mutCells_ids [Tabs] : ∀ (t : Ty) (base : Nat) (x : t.den), base ≤ (mutCells base t x).2.2 ∧ ∀ id, AHeap.get (mutCells base t x).2.1 id ≠ none → base ≤ id ∧ id < (mutCells base t x).2.2
  | .unit, b, _ => ⟨Nat.le_refl b, fun _ h => absurd rfl h⟩
  | .bool, b, _ => ⟨Nat.le_refl b, fun _ h => absurd rfl h⟩
  | .int _, b, _ => ⟨Nat.le_refl b, fun _ h => absurd rfl h⟩
  | .str, b, _ => ⟨Nat.le_refl b, fun _ h => absurd rfl h⟩
  | .slice t, b, x => ⟨Nat.le_succ b, fun id h => by
      simp only [mutCells] at h ⊢
      rw [get_one] at h
      have : id = b := by
        by_cases e : id = b
        · exact e
        · simp [e] at h
      omega⟩
  | .pair a c, b, x => by
    have h1 := mutCells_ids a b x.1
    have h2 := mutCells_ids c (mutCells b a x.1).2.2 x.2
    simp only [mutCells]
    refine ⟨Nat.le_trans h1.1 h2.1, fun id h => ?_⟩
    rw [get_append] at h
    cases e : AHeap.get (mutCells b a x.1).2.1 id with
    | some o => have h3 := h1.2 id (by rw [e]; simp); exact ⟨h3.1, Nat.lt_of_lt_of_le h3.2 h2.1⟩
    | none => rw [e] at h; have h3 := h2.2 id h; exact ⟨Nat.le_trans h1.1 h3.1, h3.2⟩
theorem putRes_ids [Tabs] : ∀ (rs : List RK) (base : Nat) (x : dens (RK.tys rs)), base ≤ (putRes base rs x).2.2 ∧ ∀ id, AHeap.get (putRes base rs x).2.1 id ≠ none → base ≤ id ∧ id < (putRes base rs x).2.2
  | [], b, _ => ⟨Nat.le_refl b, fun _ h => absurd rfl h⟩
  | .val t :: rs, b, x => by simpa [putRes] using putRes_ids rs b (tailD x)
  | .rp t :: rs, b, x => by simpa [putRes] using putRes_ids rs b (tailD x)
  | .sh t :: rs, b, x => by
    have h2 := putRes_ids rs (b + 1) (tailD (t := .slice t) x)
    refine ⟨Nat.le_trans (Nat.le_succ b) h2.1, fun id h => ?_⟩
    have h : AHeap.get ((b, AObj.arr false t (headD (t := .slice t) x)) :: (putRes (b + 1) rs (tailD (t := .slice t) x)).2.1) id ≠ none := h
    simp only [AHeap.get] at h
    cases hb : Nat.beq b id with
    | true => have := Nat.eq_of_beq_eq_true hb; subst this; exact ⟨Nat.le_refl _, h2.1⟩
    | false => rw [hb] at h; have := h2.2 id h; exact ⟨Nat.le_trans (Nat.le_succ b) this.1, this.2⟩
  | .own t :: rs, b, x => by
    have h1 := mutCells_ids t b (headD x)
    have h2 := putRes_ids rs (mutCells b t (headD x)).2.2 (tailD x)
    simp only [putRes]
    refine ⟨Nat.le_trans h1.1 h2.1, fun id h => ?_⟩
    rw [get_append] at h
    cases e : AHeap.get (mutCells b t (headD x)).2.1 id with
    | some o => have h3 := h1.2 id (by rw [e]; simp); exact ⟨h3.1, Nat.lt_of_lt_of_le h3.2 h2.1⟩
    | none => rw [e] at h; have h3 := h2.2 id h; exact ⟨Nat.le_trans h1.1 h3.1, h3.2⟩
theorem Quiet.small [Tabs] {E : Env} {s : AS} {o : Oper} {v : AVal} {os : AHeap} (q : Quiet E s o v os) : SmallOs (o.dst.getD 0) os := by
  rcases q with q | ⟨c, f, g, caps, C, x, y, z, _, _, _, _, _, _, _, _, _, hn, _, rfl⟩
  · exact Small.gives (aQ_small E _ _ _ _) q
  · intro id h
    have := (putRes_ids C.rs (o.dst.getD 0 * 16) z).2 id h
    omega
abbrev Tr := List (Oper × AVal × AHeap)
def ap (s : AS) (p : Oper × AVal × AHeap) : AS := ({ s with h := p.2.2 ++ s.h } : AS).put p.1.dst p.2.1
def subSt : (Nat → Bool) → Tr → AS → AS
  | _, [], s => s
  | L, p :: r, s => subSt (fun j => L (j + 1)) r (bif L 0 then ap s p else s)
theorem subSt_none : ∀ (l : Tr) (L : Nat → Bool) (s : AS), (∀ j, L j = false) → subSt L l s = s
  | [], _, _, _ => rfl
  | p :: r, L, s, h => by
    simp only [subSt, h 0, cond_false]
    exact subSt_none r _ s fun j => h (j + 1)
theorem ap_len (s : AS) (p : Oper × AVal × AHeap) : (ap s p).ρ.length = s.ρ.length := by
  unfold ap AS.put; cases p.1.dst <;> simp
theorem ap_t (s : AS) (p : Oper × AVal × AHeap) : (ap s p).t = s.t := by
  unfold ap AS.put; cases p.1.dst <;> rfl
theorem ap_h (s : AS) (p : Oper × AVal × AHeap) : (ap s p).h = p.2.2 ++ s.h := by
  unfold ap AS.put; cases p.1.dst <;> rfl
theorem put_getD (s : AS) (dst : Option Tmp) (v : AVal) (t : Nat) : (s.put dst v).ρ.getD t (.one .und) = if dst = some t then (if t < s.ρ.length then v else .one .und) else s.ρ.getD t (.one .und) := by
  cases dst with
  | none => simp [AS.put]
  | some d =>
    simp only [AS.put, List.getD_eq_getElem?_getD, List.getElem?_set]
    by_cases e : d = t
    · subst e
      by_cases h : d < s.ρ.length <;> simp [h]
    · simp [e]
theorem ap_getD [Tabs] (s : AS) (p : Oper × AVal × AHeap) (t : Nat) : (ap s p).ρ.getD t (.one .und) = if p.1.dst = some t then (if t < s.ρ.length then p.2.1 else .one .und) else s.ρ.getD t (.one .und) := put_getD _ _ _ _
theorem subSt_len [Tabs] : ∀ (l : Tr) (L : Nat → Bool) (s : AS), (subSt L l s).ρ.length = s.ρ.length
  | [], _, _ => rfl
  | p :: r, L, s => by
    simp only [subSt]
    rw [subSt_len r]
    cases L 0 with
    | true => exact ap_len s p
    | false => rfl
theorem subSt_t [Tabs] : ∀ (l : Tr) (L : Nat → Bool) (s : AS), (subSt L l s).t = s.t
  | [], _, _ => rfl
  | p :: r, L, s => by
    simp only [subSt]
    rw [subSt_t r]
    cases L 0 with
    | true => exact ap_t s p
    | false => rfl
theorem subSt_ρ [Tabs] (t : Nat) : ∀ (l : Tr) (L L' : Nat → Bool) (s s' : AS), (∀ j p, l[j]? = some p → p.1.dst = some t → L j = L' j) → s.ρ.length = s'.ρ.length → s.ρ.getD t (.one .und) = s'.ρ.getD t (.one .und) →
    (subSt L l s).ρ.getD t (.one .und) = (subSt L' l s').ρ.getD t (.one .und)
  | [], _, _, _, _, _, _, e => e
  | p :: r, L, L', s, s', h, hl, e => by
    simp only [subSt]
    refine subSt_ρ t r _ _ _ _ (fun j q hq => h (j + 1) q (by simpa using hq)) ?_ ?_
    · cases L 0 <;> cases L' 0 <;> simp [ap_len, hl]
    · by_cases hd : p.1.dst = some t
      · have := h 0 p rfl hd
        rw [this]
        cases L' 0 with
        | true => simp only [cond_true]; rw [ap_getD, ap_getD, if_pos hd, if_pos hd, hl]
        | false => exact e
      · have : ∀ (b : Bool) (s : AS), (bif b then ap s p else s).ρ.getD t (.one .und) = s.ρ.getD t (.one .und) := fun b s => by
          cases b with
          | true => simp only [cond_true]; rw [ap_getD, if_neg hd]
          | false => rfl
        rw [this, this]
        exact e
theorem ap_get [Tabs] (s : AS) (p : Oper × AVal × AHeap) (id : Nat) : (ap s p).h.get id = (AHeap.get p.2.2 id).or (s.h.get id) := by rw [ap_h, get_append]
theorem subSt_h [Tabs] (id : Nat) : ∀ (l : Tr) (L L' : Nat → Bool) (s s' : AS), (∀ j p, l[j]? = some p → AHeap.get p.2.2 id ≠ none → L j = L' j) → s.h.get id = s'.h.get id → (subSt L l s).h.get id = (subSt L' l s').h.get id
  | [], _, _, _, _, _, e => e
  | p :: r, L, L', s, s', h, e => by
    simp only [subSt]
    refine subSt_h id r _ _ _ _ (fun j q hq => h (j + 1) q (by simpa using hq)) ?_
    by_cases hd : AHeap.get p.2.2 id = none
    · have : ∀ (b : Bool) (s : AS), (bif b then ap s p else s).h.get id = s.h.get id := fun b s => by
        cases b with
        | true => simp only [cond_true]; rw [ap_get, hd]; rfl
        | false => rfl
      rw [this, this]
      exact e
    · have := h 0 p rfl hd
      rw [this]
      cases L' 0 with
      | true => simp only [cond_true]; rw [ap_get, ap_get, e]
      | false => exact e
theorem subSt_append : ∀ (l1 l2 : Tr) (L : Nat → Bool) (s : AS), subSt L (l1 ++ l2) s = subSt (fun j => L (j + l1.length)) l2 (subSt L l1 s)
  | [], _, _, _ => rfl
  | p :: r, l2, L, s => by
    simp only [List.cons_append, subSt, List.length_cons]
    rw [subSt_append r l2]
    congr 1
structure Same (s s' : AS) : Prop where
  len : s.ρ.length = s'.ρ.length
  ρ : ∀ t, s.ρ.getD t (.one .und) = s'.ρ.getD t (.one .und)
  h : ∀ id, s.h.get id = s'.h.get id
theorem Rel.same [Tabs] {w0 w : World} {B : Nat} {M0 S : Blk} {m : OMap} {s s' : AS} {a : Act} (R : Rel w0 B M0 S m s a w) (e : Same s s') : Rel w0 B M0 S m s' a w := by
  have hh : s.h.get = s'.h.get := funext e.h
  exact ⟨hh ▸ R.mem, R.frm, fun i => by rw [← e.ρ i, ← hh]; exact R.tmps i, by rw [← e.len]; exact R.size, R.defers⟩
structure Apart (l : Tr) : Prop where
  dst : ∀ (j : Nat) (p : Oper × AVal × AHeap), l[j]? = some p → p.1.dst ≠ none
  one : ∀ (j k : Nat) (p q : Oper × AVal × AHeap) (t : Nat), l[j]? = some p → l[k]? = some q → p.1.dst = some t → q.1.dst = some t → j = k
  small : ∀ (j : Nat) (p : Oper × AVal × AHeap), l[j]? = some p → SmallOs (p.1.dst.getD 0) p.2.2
theorem Apart.ids {l : Tr} (A : Apart l) (j k : Nat) (p q : Oper × AVal × AHeap) (id : Nat) (hj : l[j]? = some p) (hk : l[k]? = some q) (h1 : AHeap.get p.2.2 id ≠ none) (h2 : AHeap.get q.2.2 id ≠ none) : j = k := by
  have s1 := A.small j p hj id h1
  have s2 := A.small k q hk id h2
  cases e1 : p.1.dst with
  | none => exact absurd e1 (A.dst j p hj)
  | some d =>
    cases e2 : q.1.dst with
    | none => exact absurd e2 (A.dst k q hk)
    | some d' =>
      rw [e1] at s1; rw [e2] at s2
      simp only [Option.getD_some] at s1 s2
      have : d = d' := by
        rcases Nat.lt_trichotomy d d' with h | h | h
        · omega
        · exact h
        · omega
      subst this
      exact A.one j k p q d hj hk e1 e2
theorem subSt_add [Tabs] {l : Tr} (A : Apart l) {L L' : Nat → Bool} {k : Nat} {p : Oper × AVal × AHeap} (hk : l[k]? = some p) (h0 : L k = false) (h1 : ∀ j, L' j = (L j || decide (j = k))) (s : AS) : Same (ap (subSt L l s) p) (subSt L' l s) := by
  have hne : ∀ j, j ≠ k → L j = L' j := fun j hj => by rw [h1 j]; simp [hj]
  obtain ⟨l1, l2, rfl, hlen⟩ : ∃ l1 l2, l = l1 ++ p :: l2 ∧ l1.length = k := by
    have hkl : k < l.length := (List.getElem?_eq_some_iff.1 hk).1
    refine ⟨l.take k, l.drop (k + 1), ?_, by simp; omega⟩
    have : l[k] = p := (List.getElem?_eq_some_iff.1 hk).2
    rw [← this, ← List.drop_eq_getElem_cons hkl, List.take_append_drop]
  have at2 : ∀ (j : Nat) (q : Oper × AVal × AHeap), l2[j]? = some q → (l1 ++ p :: l2)[k + (j + 1)]? = some q := fun j q hq => by
    rw [List.getElem?_append_right (by omega)]
    have : k + (j + 1) - l1.length = j + 1 := by omega
    rw [this]; simpa using hq
  refine ⟨by rw [ap_len, subSt_len, subSt_len], fun t => ?_, fun id => ?_⟩
  · rw [ap_getD, subSt_len]
    by_cases hd : p.1.dst = some t
    · rw [if_pos hd, subSt_append]
      simp only [subSt]
      have hL : L' (0 + l1.length) = true := by rw [h1]; simp [hlen]
      rw [hL, cond_true]
      have := subSt_ρ t l2 (fun j => L' (j + 1 + l1.length)) (fun _ => false) (ap (subSt L' l1 s) p) (ap (subSt L' l1 s) p) (fun j q hq hqd => by
        have := A.one (k + (j + 1)) k q p t (at2 j q hq) hk hqd hd
        omega) rfl rfl
      rw [this, subSt_none l2 _ _ fun _ => rfl, ap_getD, if_pos hd, subSt_len]
    · rw [if_neg hd]
      refine subSt_ρ t _ L L' s s (fun j q hq hqd => hne j fun e => ?_) rfl rfl
      subst e
      rw [hk] at hq
      cases hq
      exact hd hqd
  · rw [ap_get]
    cases hg : AHeap.get p.2.2 id with
    | none =>
      simp only [Option.none_or]
      refine subSt_h id _ L L' s s (fun j q hq hqd => hne j fun e => ?_) rfl
      subst e
      rw [hk] at hq
      cases hq
      exact hqd hg
    | some o =>
      simp only [Option.some_or]
      rw [subSt_append]
      simp only [subSt]
      have hL : L' (0 + l1.length) = true := by rw [h1]; simp [hlen]
      rw [hL, cond_true]
      have := subSt_h id l2 (fun j => L' (j + 1 + l1.length)) (fun _ => false) (ap (subSt L' l1 s) p) (ap (subSt L' l1 s) p) (fun j q hq hqd => by
        have := A.ids (k + (j + 1)) k q p id (at2 j q hq) hk hqd (by rw [hg]; simp)
        omega) rfl
      rw [this, subSt_none l2 _ _ fun _ => rfl, ap_get, hg]
      rfl
theorem subSt_agree [Tabs] {l : Tr} (A : Apart l) {s : AS} (hs : ∀ (j : Nat) (p : Oper × AVal × AHeap), l[j]? = some p → ∀ id, AHeap.get p.2.2 id ≠ none → s.h.get id = none) (L L' : Nat → Bool) (id : Nat) (o : AObj) (e : (subSt L l s).h.get id = some o) (hn : (subSt L' l s).h.get id ≠ none) : (subSt L' l s).h.get id = some o := by
  by_cases hex : ∃ (j : Nat) (p : Oper × AVal × AHeap), l[j]? = some p ∧ AHeap.get p.2.2 id ≠ none
  · obtain ⟨j, p, hj, hp⟩ := hex
    have key : ∀ L : Nat → Bool, L j = false → (subSt L l s).h.get id = none := fun L hL => by
      rw [subSt_h id l L (fun _ => false) s s (fun i q hq hqd => by
        have := A.ids i j q p id hq hj hqd hp
        subst this
        exact hL) rfl, subSt_none l _ _ fun _ => rfl]
      exact hs j p hj id hp
    cases h1 : L j with
    | false => rw [key L h1] at e; cases e
    | true =>
      cases h2 : L' j with
      | false => exact absurd (key L' h2) hn
      | true =>
        rw [← e]
        exact subSt_h id l L' L s s (fun i q hq hqd => by
          have := A.ids i j q p id hq hj hqd hp
          subst this
          rw [h1, h2]) rfl
  · rw [← e]
    exact subSt_h id l L' L s s (fun j p hj hp => absurd ⟨j, p, hj, hp⟩ hex) rfl
theorem runQ_trace [Tabs] {E : Env} : ∀ {g : List Oper} {s : AS} {R : Type} {k : AS → Option R} {r : R}, runQ E g s k = some r → ∃ l : Tr, l.map (·.1) = g ∧ k (subSt (fun _ => true) l s) = some r ∧
    ∀ (j : Nat) (o : Oper) (v : AVal) (os : AHeap), l[j]? = some (o, v, os) → Quiet E (subSt (fun i => decide (i < j)) l s) o v os ∧ Clear (subSt (fun i => decide (i < j)) l s) (o.dst.getD 0)
  | [], s, _, _, _, e => ⟨[], rfl, e, fun j o v os h => by simp at h⟩
  | o :: g, s, _, k, r, e => by
    simp only [runQ] at e
    obtain ⟨v, s', hk, _, hq⟩ := aOp_quiet e
    cases hb : Nat.beq s'.t s.t with
    | false => rw [hb] at hk; cases hk
    | true =>
      rw [hb] at hk
      simp only [cond_true] at hk
      obtain ⟨os, rfl, q, c⟩ := hq (Nat.eq_of_beq_eq_true hb)
      obtain ⟨l, h1, h2, h3⟩ := runQ_trace hk
      refine ⟨(o, v, os) :: l, by simp [h1], h2, fun j o' v' os' hj => ?_⟩
      cases j with
      | zero =>
        simp only [List.getElem?_cons_zero, Option.some.injEq, Prod.mk.injEq] at hj
        obtain ⟨rfl, rfl, rfl⟩ := hj
        rw [subSt_none _ _ _ fun j => by simp]
        exact ⟨q, c⟩
      | succ j =>
        have := h3 j o' v' os' (by simpa using hj)
        simpa [subSt, ap] using this
end Go.Ab
