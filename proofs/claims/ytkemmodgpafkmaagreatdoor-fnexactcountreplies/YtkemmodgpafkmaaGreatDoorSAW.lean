/-
  The earliest times at the towers, whatever computes them: there is one list of them alone.
-/
import Derived.Test.YtkemmodgpafkmaaGreatDoorSPY
namespace Arr
structure Graph where
  n : Nat
  edge : Nat → Nat → Nat → Prop
  ov : Nat → Int → Int
  a : Nat
  t0 : Int
  hn : n ≤ 16
  ha : a < n
  h0 : 0 ≤ t0 ∧ t0 ≤ 10000
  he : ∀ k u v, edge k u v → u < n ∧ v < n
  up : ∀ k u v s, edge k u v → s < ov k s
  mono : ∀ k s s', s ≤ s' → ov k s ≤ ov k s'
  bd : ∀ k u v s B, edge k u v → s ≤ B → 10000 ≤ B → ov k s ≤ B + 60
inductive Reach (G : Graph) : Nat → Int → Prop
  | base : Reach G G.a G.t0
  | step {k u v : Nat} {s : Int} : Reach G u s → G.edge k u v → Reach G v (G.ov k s)
def tm (ts : List Int) (v : Nat) : Int := ts.getD v (-1)
theorem tm_get {ts : List Int} {v : Nat} (h : v < ts.length) : ts[v]? = some (tm ts v) := by
  unfold tm
  rw [List.getD_eq_getElem?_getD, List.getElem?_eq_getElem h]
  rfl
theorem tm_set {ts : List Int} {u : Nat} (h : u < ts.length) (x : Int) (v : Nat) : tm (ts.set u x) v = if v = u then x else tm ts v := by
  unfold tm
  rw [List.getD_eq_getElem?_getD, List.getD_eq_getElem?_getD, List.getElem?_set]
  by_cases e : u = v
  · subst e
    rw [if_pos rfl, if_pos h, if_pos rfl]
    rfl
  · rw [if_neg e, if_neg (fun h => e h.symm)]
def sumOf (f : Int → Nat) : List Int → Nat
  | [] => 0
  | x :: r => f x + sumOf f r
theorem sum_set (f : Int → Nat) : ∀ (l : List Int) (i : Nat) (x : Int), i < l.length → sumOf f (l.set i x) + f (tm l i) = sumOf f l + f x
  | [], _, _, h => absurd h (Nat.not_lt_zero _)
  | y :: l, 0, x, _ => by
    show f x + sumOf f l + f y = f y + sumOf f l + f x
    omega
  | y :: l, i + 1, x, h => by
    have ih := sum_set f l i x (by simpa using h)
    have e : tm (y :: l) (i + 1) = tm l i := by unfold tm; rw [List.getD_eq_getElem?_getD, List.getD_eq_getElem?_getD, List.getElem?_cons_succ]
    rw [e]
    show f y + sumOf f (l.set i x) + f (tm l i) = f y + sumOf f l + f x
    omega
def one (x : Int) : Nat := if 0 ≤ x then 1 else 0
def wgt (x : Int) : Nat := if x < 0 then 20000 else x.toNat
def cnt (l : List Int) : Nat := sumOf one l
def msr (l : List Int) : Nat := sumOf wgt l
theorem cnt_le : ∀ l : List Int, cnt l ≤ l.length
  | [] => Nat.le_refl _
  | x :: l => by
    have ih := cnt_le l
    have h1 : one x ≤ 1 := by unfold one; split <;> omega
    show one x + cnt l ≤ l.length + 1
    omega
structure Inv (G : Graph) (ts : List Int) : Prop where
  len : ts.length = G.n
  wit : ∀ v, v < G.n → 0 ≤ tm ts v → Reach G v (tm ts v)
  neg : ∀ v, v < G.n → tm ts v < 0 → tm ts v = -1
  start : tm ts G.a = G.t0
  bd : ∀ v, v < G.n → tm ts v ≤ 10000 + 60 * (cnt ts : Int)
def Closed (G : Graph) (ts : List Int) : Prop := ∀ k u v, G.edge k u v → 0 ≤ tm ts u → 0 ≤ tm ts v ∧ tm ts v ≤ G.ov k (tm ts u)
theorem Inv.le {G : Graph} {ts : List Int} (I : Inv G ts) {v : Nat} (hv : v < G.n) : tm ts v ≤ 10960 := by
  have h1 := I.bd v hv
  have h2 := cnt_le ts
  have h3 := G.hn
  have h4 := I.len
  omega
theorem Reach.ge {G : Graph} {v : Nat} {s : Int} (r : Reach G v s) : G.t0 ≤ s := by
  induction r with
  | base => exact Int.le_refl _
  | step _ e ih => exact Int.le_trans ih (Int.le_of_lt (G.up _ _ _ _ e))
theorem reach_le {G : Graph} {ts : List Int} (I : Inv G ts) (C : Closed G ts) {v : Nat} {s : Int} (r : Reach G v s) : 0 ≤ tm ts v ∧ tm ts v ≤ s := by
  induction r with
  | base => rw [I.start]; exact ⟨G.h0.1, Int.le_refl _⟩
  | step _ e ih =>
    have := C _ _ _ e ih.1
    exact ⟨this.1, Int.le_trans this.2 (G.mono _ _ _ ih.2)⟩
theorem unique {G : Graph} {ts us : List Int} (I : Inv G ts) (C : Closed G ts) (I' : Inv G us) (C' : Closed G us) : ts = us := by
  refine List.ext_getElem? fun v => ?_
  by_cases hv : v < G.n
  · rw [tm_get (by rw [I.len]; exact hv), tm_get (by rw [I'.len]; exact hv)]
    congr 1
    by_cases h : 0 ≤ tm ts v
    · have h2 := reach_le I' C' (I.wit v hv h)
      have h3 := reach_le I C (I'.wit v hv h2.1)
      omega
    · have e := I.neg v hv (by omega)
      by_cases h' : 0 ≤ tm us v
      · have := reach_le I C (I'.wit v hv h'); omega
      · rw [e, I'.neg v hv (by omega)]
  · rw [List.getElem?_eq_none (by rw [I.len]; omega), List.getElem?_eq_none (by rw [I'.len]; omega)]
theorem Inv.put {G : Graph} {ts : List Int} (I : Inv G ts) {k u v : Nat} (e : G.edge k u v) (hp : 0 ≤ tm ts u) (hl : tm ts v < 0 ∨ G.ov k (tm ts u) < tm ts v) :
    Inv G (ts.set v (G.ov k (tm ts u))) ∧ msr (ts.set v (G.ov k (tm ts u))) < msr ts := by
  obtain ⟨hu, hv⟩ := G.he k u v e
  have ge := (I.wit u hu hp).ge
  have lt := G.up k u v (tm ts u) e
  have hvl : v < ts.length := by rw [I.len]; exact hv
  have hb := G.bd k u v (tm ts u) (10000 + 60 * (cnt ts : Int)) e (I.bd u hu) (by omega)
  have hc := sum_set one ts v (G.ov k (tm ts u)) hvl
  have hm := sum_set wgt ts v (G.ov k (tm ts u)) hvl
  have h0 := G.h0
  have hle := I.le hv
  have hcl := cnt_le ts
  have hn := G.hn
  have hlen := I.len
  have hr := Reach.step (I.wit u hu hp) e
  generalize hx : G.ov k (tm ts u) = x at *
  refine ⟨⟨by rw [List.length_set]; exact I.len, fun w hw hp' => ?_, fun w hw hn' => ?_, ?_, fun w hw => ?_⟩, ?_⟩
  · rw [tm_set hvl] at hp' ⊢
    by_cases hwv : w = v
    · rw [if_pos hwv, hwv]; exact hr
    · rw [if_neg hwv] at hp' ⊢; exact I.wit w hw hp'
  · rw [tm_set hvl] at hn' ⊢
    by_cases hwv : w = v
    · rw [if_pos hwv] at hn'; omega
    · rw [if_neg hwv] at hn' ⊢; exact I.neg w hw hn'
  · rw [tm_set hvl]
    by_cases hav : G.a = v
    · have := I.start
      rw [hav] at this
      omega
    · rw [if_neg hav]; exact I.start
  · have hbw := I.bd w hw
    have hbv := I.bd v hv
    rw [tm_set hvl]
    have e1 : one x = 1 := by unfold one; rw [if_pos (by omega)]
    unfold cnt at *
    rcases hl with hl | hl
    · have e2 : one (tm ts v) = 0 := by unfold one; rw [if_neg (by omega)]
      split <;> omega
    · have e2 : one (tm ts v) = 1 := by unfold one; rw [if_pos (by omega)]
      split <;> omega
  · unfold msr
    have e1 : wgt x = x.toNat := by unfold wgt; rw [if_neg (by omega)]
    unfold cnt at *
    rcases hl with hl | hl
    · have e2 : wgt (tm ts v) = 20000 := by unfold wgt; rw [if_pos hl]
      omega
    · have e2 : wgt (tm ts v) = (tm ts v).toNat := by unfold wgt; rw [if_neg (by omega)]
      omega
theorem Inv.first (G : Graph) : Inv G ((List.replicate G.n (-1)).set G.a G.t0) := by
  have hl : G.a < (List.replicate G.n (-1 : Int)).length := by rw [List.length_replicate]; exact G.ha
  have hr : ∀ v, tm (List.replicate G.n (-1)) v = -1 := fun v => by
    unfold tm
    rw [List.getD_eq_getElem?_getD, List.getElem?_replicate]
    split <;> rfl
  have h0 := G.h0
  refine ⟨by rw [List.length_set, List.length_replicate], fun v _ hp => ?_, fun v _ hn => ?_, ?_, fun v _ => ?_⟩
  · rw [tm_set hl] at hp ⊢
    by_cases e : v = G.a
    · rw [if_pos e, e]; exact .base
    · rw [if_neg e, hr] at hp; omega
  · rw [tm_set hl] at hn ⊢
    by_cases e : v = G.a
    · rw [if_pos e] at hn; omega
    · rw [if_neg e, hr]
  · rw [tm_set hl, if_pos rfl]
  · rw [tm_set hl]
    by_cases e : v = G.a
    · rw [if_pos e]; omega
    · rw [if_neg e, hr]; omega
theorem pred {G : Graph} {ts : List Int} (I : Inv G ts) (C : Closed G ts) {v : Nat} (hv : v < G.n) (hva : v ≠ G.a) (h : 0 ≤ tm ts v) : ∃ k u, G.edge k u v ∧ 0 ≤ tm ts u ∧ G.ov k (tm ts u) = tm ts v := by
  have r := I.wit v hv h
  generalize hs : tm ts v = s at r
  cases r with
  | base => exact absurd rfl hva
  | @step k u _ s r e =>
    have h1 := reach_le I C r
    have h2 := C _ _ _ e h1.1
    have h3 := G.mono k _ _ h1.2
    exact ⟨_, _, e, h1.1, by omega⟩
structure Part (G : Graph) (i : Nat) (dn : Nat → Prop) (old ts : List Int) (j : Nat) : Prop where
  inv : Inv G ts
  keep : ∀ u, u < G.n → dn u ∨ u = i → tm ts u = tm old u
  less : ∀ v, v < G.n → 0 ≤ tm old v → 0 ≤ tm ts v ∧ tm ts v ≤ tm old v
  hi : ∀ v, v < G.n → ¬ dn v → v ≠ i → 0 ≤ tm ts v → tm old i ≤ tm ts v
  seen : ∀ k v, k < j → G.edge k i v → 0 ≤ tm ts v ∧ tm ts v ≤ G.ov k (tm old i)
structure Mid (G : Graph) (dn : Nat → Prop) (ts : List Int) : Prop where
  inv : Inv G ts
  pos : ∀ u, u < G.n → dn u → 0 ≤ tm ts u
  low : ∀ u v, u < G.n → v < G.n → dn u → ¬ dn v → 0 ≤ tm ts v → tm ts u ≤ tm ts v
  shut : ∀ k u v, dn u → G.edge k u v → 0 ≤ tm ts v ∧ tm ts v ≤ G.ov k (tm ts u)
theorem Part.begin {G : Graph} {dn : Nat → Prop} {ts : List Int} (M : Mid G dn ts) {i : Nat} (hi : ∀ v, v < G.n → ¬ dn v → 0 ≤ tm ts v → tm ts i ≤ tm ts v) : Part G i dn ts ts 0 :=
  ⟨M.inv, fun _ _ _ => rfl, fun v _ h => ⟨h, Int.le_refl _⟩, fun v hv hd _ h => hi v hv hd h, fun k v h => absurd h (Nat.not_lt_zero _)⟩
theorem Part.none {G : Graph} {i j : Nat} {dn : Nat → Prop} {old ts : List Int} (P : Part G i dn old ts j) (h : ∀ v, ¬ G.edge j i v) : Part G i dn old ts (j + 1) :=
  ⟨P.inv, P.keep, P.less, P.hi, fun k v hk e => by
    by_cases hj : k < j
    · exact P.seen k v hj e
    · obtain rfl : k = j := by omega
      exact absurd e (h v)⟩
theorem Part.same {G : Graph} {i j v : Nat} {dn : Nat → Prop} {old ts : List Int} (P : Part G i dn old ts j) (h1 : ∀ w, G.edge j i w → w = v) (h : 0 ≤ tm ts v ∧ tm ts v ≤ G.ov j (tm old i)) : Part G i dn old ts (j + 1) :=
  ⟨P.inv, P.keep, P.less, P.hi, fun k w hk e => by
    by_cases hj : k < j
    · exact P.seen k w hj e
    · obtain rfl : k = j := by omega
      obtain rfl := h1 w e
      exact h⟩
theorem Part.put {G : Graph} {i j v : Nat} {dn : Nat → Prop} {old ts : List Int} (M : Mid G dn old) (P : Part G i dn old ts j) (hi : i < G.n) (hd : ¬ dn i) (h0 : 0 ≤ tm old i) (h1 : ∀ w, G.edge j i w → w = v) (e : G.edge j i v) (hvi : v ≠ i)
    (hl : tm ts v < 0 ∨ G.ov j (tm old i) < tm ts v) : Part G i dn old (ts.set v (G.ov j (tm old i))) (j + 1) := by
  have ei := P.keep i hi (.inr rfl)
  obtain ⟨_, hv⟩ := G.he _ _ _ e
  have hvl : v < ts.length := by rw [P.inv.len]; exact hv
  have I := (P.inv.put (k := j) (u := i) (v := v) e (by rw [ei]; exact h0) (by rw [ei]; exact hl)).1
  rw [ei] at I
  have lt := G.up j i v (tm old i) e
  have hdv : ¬ dn v := fun hdv => by
    have k1 := P.keep v hv (.inl hdv)
    have k2 := M.low v i hv hi hdv hd h0
    have k3 := M.pos v hv hdv
    omega
  refine ⟨I, fun u hu hd' => ?_, fun w hw hp => ?_, fun w hw hdw hwi hp => ?_, fun k w hk ek => ?_⟩
  · rw [tm_set hvl, if_neg]
    · exact P.keep u hu hd'
    · rintro rfl
      rcases hd' with h | h
      · exact hdv h
      · exact hvi h
  · have q := P.less w hw hp
    rw [tm_set hvl]
    by_cases hwv : w = v
    · subst hwv; rw [if_pos rfl]; omega
    · rw [if_neg hwv]; exact q
  · rw [tm_set hvl] at hp ⊢
    by_cases hwv : w = v
    · rw [if_pos hwv]; omega
    · rw [if_neg hwv] at hp ⊢; exact P.hi w hw hdw hwi hp
  · rw [tm_set hvl]
    by_cases hwv : w = v
    · subst hwv
      rw [if_pos rfl]
      by_cases hj : k < j
      · have q := P.seen k w hj ek; omega
      · obtain rfl : k = j := by omega
        omega
    · rw [if_neg hwv]
      by_cases hj : k < j
      · exact P.seen k w hj ek
      · obtain rfl : k = j := by omega
        exact absurd (h1 w ek) hwv
theorem Part.done {G : Graph} {i m : Nat} {dn : Nat → Prop} {old ts : List Int} (M : Mid G dn old) (P : Part G i dn old ts m) (hi : i < G.n) (h0 : 0 ≤ tm old i) (hi2 : ∀ v, v < G.n → ¬ dn v → 0 ≤ tm old v → tm old i ≤ tm old v) (hd : ¬ dn i) (hm : ∀ k u v, G.edge k u v → k < m) :
    Mid G (fun u => dn u ∨ u = i) ts := by
  refine ⟨P.inv, fun u hu hd' => ?_, fun u v hu hv hdu hdv hp => ?_, fun k u v hdu e => ?_⟩
  · rw [P.keep u hu hd']
    rcases hd' with h | h
    · exact M.pos u hu h
    · rw [h]; exact h0
  · rw [P.keep u hu hdu]
    have q := P.hi v hv (fun h => hdv (.inl h)) (fun h => hdv (.inr h)) hp
    rcases hdu with h | h
    · have := M.low u i hu hi h hd h0; omega
    · rw [h]; exact q
  · obtain ⟨hu, hv⟩ := G.he _ _ _ e
    rcases hdu with h | h
    · have q := M.shut k u v h e
      have q2 := P.less v hv q.1
      rw [P.keep u hu (.inl h)]
      omega
    · subst h
      have q := P.seen k v (hm _ _ _ e) e
      rw [P.keep u hu (.inr rfl)]
      exact q
theorem Mid.first (G : Graph) : Mid G (fun _ => False) ((List.replicate G.n (-1)).set G.a G.t0) := ⟨Inv.first G, fun _ _ h => h.elim, fun _ _ _ _ h => h.elim, fun _ _ _ h => h.elim⟩
theorem Mid.closed {G : Graph} {dn : Nat → Prop} {ts : List Int} (M : Mid G dn ts) (h : ∀ v, v < G.n → 0 ≤ tm ts v → dn v) : Closed G ts := fun k u v e hp => M.shut k u v (h u (G.he _ _ _ e).1 hp) e
def pickMin (cand : Nat → Bool) (ts : List Int) (i : Int) (k : Nat) : Int := bif cand k && (decide (i < 0) || decide (tm ts k < tm ts i.toNat)) then (k : Int) else i
theorem pickMin_spec (cand : Nat → Bool) (ts : List Int) : ∀ n : Nat, ((List.range n).foldl (pickMin cand ts) (-1) = -1 ∧ ∀ k, k < n → cand k = false) ∨
    ∃ i : Nat, (List.range n).foldl (pickMin cand ts) (-1) = (i : Int) ∧ i < n ∧ cand i = true ∧ ∀ k, k < n → cand k = true → tm ts i ≤ tm ts k
  | 0 => .inl ⟨rfl, fun k h => absurd h (Nat.not_lt_zero _)⟩
  | n + 1 => by
    rw [List.range_succ, List.foldl_append]
    simp only [List.foldl_cons, List.foldl_nil]
    rcases pickMin_spec cand ts n with ⟨h1, h2⟩ | ⟨i, h1, h2, h3, h4⟩
    · rw [h1]
      unfold pickMin
      cases hc : cand n with
      | false =>
        left
        refine ⟨rfl, fun k hk => ?_⟩
        by_cases e : k = n
        · rw [e]; exact hc
        · exact h2 k (by omega)
      | true =>
        right
        refine ⟨n, rfl, by omega, hc, fun k hk hk2 => ?_⟩
        by_cases e : k = n
        · rw [e]; exact Int.le_refl _
        · rw [h2 k (by omega)] at hk2; cases hk2
    · rw [h1]
      right
      unfold pickMin
      rw [decide_eq_false (show ¬ ((i : Int) < 0) by omega), Int.toNat_natCast, Bool.false_or]
      cases hc : (cand n && decide (tm ts n < tm ts i)) with
      | true =>
        simp only [Bool.and_eq_true, decide_eq_true_eq] at hc
        refine ⟨n, rfl, by omega, hc.1, fun k hk hk2 => ?_⟩
        by_cases e : k = n
        · rw [e]; exact Int.le_refl _
        · have := h4 k (by omega) hk2; omega
      | false =>
        refine ⟨i, rfl, by omega, h3, fun k hk hk2 => ?_⟩
        by_cases e : k = n
        · subst e
          rw [hk2, Bool.true_and] at hc
          have := of_decide_eq_false hc
          omega
        · exact h4 k (by omega) hk2
end Arr
namespace Arr
def rel (G : Graph) (k u v : Nat) (q : List Int × Bool) : List Int × Bool :=
  if tm q.1 u < 0 then q else if tm q.1 v < 0 ∨ G.ov k (tm q.1 u) < tm q.1 v then (q.1.set v (G.ov k (tm q.1 u)), true) else q
theorem rel_ok {G : Graph} {k u v : Nat} {q : List Int × Bool} (I : Inv G q.1) (e : G.edge k u v) : Inv G (rel G k u v q).1 ∧ msr (rel G k u v q).1 ≤ msr q.1 ∧ ((rel G k u v q).2 = true → q.2 = true ∨ msr (rel G k u v q).1 < msr q.1) ∧
    ((rel G k u v q).2 = false → rel G k u v q = q ∧ (0 ≤ tm q.1 u → 0 ≤ tm q.1 v ∧ tm q.1 v ≤ G.ov k (tm q.1 u))) := by
  unfold rel
  by_cases h1 : tm q.1 u < 0
  · rw [if_pos h1]
    exact ⟨I, Nat.le_refl _, fun h => .inl h, fun _ => ⟨rfl, fun h => absurd h (by omega)⟩⟩
  · rw [if_neg h1]
    by_cases h2 : tm q.1 v < 0 ∨ G.ov k (tm q.1 u) < tm q.1 v
    · rw [if_pos h2]
      have := I.put e (by omega) h2
      exact ⟨this.1, Nat.le_of_lt this.2, fun _ => .inr this.2, fun h => by cases h⟩
    · rw [if_neg h2]
      exact ⟨I, Nat.le_refl _, fun h => .inl h, fun _ => ⟨rfl, fun _ => by omega⟩⟩
structure PassOk (G : Graph) (t0 : List Int) (q : List Int × Bool) (j : Nat) : Prop where
  inv : Inv G q.1
  le : msr q.1 ≤ msr t0
  lt : q.2 = true → msr q.1 < msr t0
  eq : q.2 = false → q.1 = t0 ∧ ∀ k u v, k < j → G.edge k u v → 0 ≤ tm q.1 u → 0 ≤ tm q.1 v ∧ tm q.1 v ≤ G.ov k (tm q.1 u)
theorem PassOk.both {G : Graph} {t0 : List Int} {q : List Int × Bool} {j u v : Nat} (P : PassOk G t0 q j) (e1 : G.edge j u v) (e2 : G.edge j v u) (h : ∀ x y, G.edge j x y → (x = u ∧ y = v) ∨ (x = v ∧ y = u)) : PassOk G t0 (rel G j v u (rel G j u v q)) (j + 1) := by
  obtain ⟨a1, a2, a3, a4⟩ := rel_ok P.inv e1
  obtain ⟨b1, b2, b3, b4⟩ := rel_ok (q := rel G j u v q) a1 e2
  have h1 := P.le
  refine ⟨b1, by omega, fun hg => ?_, fun hg => ?_⟩
  · rcases b3 hg with hg | hg
    · rcases a3 hg with hg | hg
      · have := P.lt hg; omega
      · omega
    · omega
  · obtain ⟨c1, c2⟩ := b4 hg
    rw [c1] at hg
    obtain ⟨d1, d2⟩ := a4 hg
    rw [d1] at hg
    obtain ⟨f1, f2⟩ := P.eq hg
    rw [c1, d1]
    rw [d1] at c2
    refine ⟨f1, fun k x y hk hxy hp => ?_⟩
    by_cases hj : k < j
    · exact f2 k x y hj hxy hp
    · obtain rfl : k = j := by omega
      rcases h x y hxy with ⟨rfl, rfl⟩ | ⟨rfl, rfl⟩
      · exact d2 hp
      · exact c2 hp
end Arr
namespace Go.Proofs.YtkemmodgpafkmaaGreatDoor.Sh
open Go Go.Ab Go.Proofs
def laterZ (k sec : Int) (s : Int) (x : GTower) : Int := bif decide (x.1 = k) && (decide (s < x.2.2.1) && decide (x.2.1 < s + sec)) then x.2.2.1 else s
def startZ (l : List GTower) (k t sec : Int) : Int := l.foldl (laterZ k sec) t
theorem laterZ_cases (k sec s : Int) (x : GTower) : (laterZ k sec s x = x.2.2.1 ∧ x.1 = k ∧ s < x.2.2.1 ∧ x.2.1 < s + sec) ∨ (laterZ k sec s x = s ∧ ¬ (x.1 = k ∧ s < x.2.2.1 ∧ x.2.1 < s + sec)) := by
  unfold laterZ
  by_cases h : x.1 = k ∧ s < x.2.2.1 ∧ x.2.1 < s + sec
  · left
    rw [decide_eq_true h.1, decide_eq_true h.2.1, decide_eq_true h.2.2]
    exact ⟨rfl, h⟩
  · right
    refine ⟨?_, h⟩
    have : (decide (x.1 = k) && (decide (s < x.2.2.1) && decide (x.2.1 < s + sec))) = false := by
      rw [Bool.eq_false_iff]
      simp only [ne_eq, Bool.and_eq_true, decide_eq_true_eq]
      exact h
    rw [this]
    rfl
theorem startZ_mono (k sec : Int) : ∀ (l : List GTower) (s s' : Int), s ≤ s' → startZ l k s sec ≤ startZ l k s' sec
  | [], _, _, h => h
  | x :: l, s, s', h => by
    unfold startZ
    rw [List.foldl_cons, List.foldl_cons]
    refine startZ_mono k sec l _ _ ?_
    rcases laterZ_cases k sec s x with ⟨e, h1⟩ | ⟨e, h1⟩ <;> rcases laterZ_cases k sec s' x with ⟨e', h2⟩ | ⟨e', h2⟩ <;> rw [e, e'] <;> omega
theorem startZ_ge (k sec : Int) : ∀ (l : List GTower) (s : Int), s ≤ startZ l k s sec
  | [], _ => Int.le_refl _
  | x :: l, s => by
    unfold startZ
    rw [List.foldl_cons]
    refine Int.le_trans ?_ (startZ_ge k sec l _)
    rcases laterZ_cases k sec s x with ⟨e, h1⟩ | ⟨e, h1⟩ <;> rw [e] <;> omega
theorem startZ_le (k sec : Int) {B : Int} (hB : 10000 ≤ B) : ∀ (l : List GTower) (s : Int), (∀ x ∈ l, x.2.2.1 ≤ 10000) → s ≤ B → startZ l k s sec ≤ B
  | [], _, _, h => h
  | x :: l, s, hf, h => by
    unfold startZ
    rw [List.foldl_cons]
    refine startZ_le k sec hB l _ (fun y hy => hf y (List.mem_cons_of_mem _ hy)) ?_
    have := hf x (by simp)
    rcases laterZ_cases k sec s x with ⟨e, h1⟩ | ⟨e, h1⟩ <;> rw [e] <;> omega
theorem startV_eq (k sec : Int) (h0 : 0 ≤ sec) (h1 : sec ≤ 60) : ∀ (l : List GTower) (s : Int), (∀ x ∈ l, x.2.2.1 ≤ 10000) → 0 ≤ s → s ≤ 20000 → startV l k s sec = startZ l k s sec
  | [], _, _, _, _ => rfl
  | x :: l, s, hf, h, h2 => by
    have e : later k sec s x = laterZ k sec s x := by
      unfold later laterZ
      rw [w64_of (by omega) (by omega)]
    unfold startV startZ
    rw [List.foldl_cons, List.foldl_cons, e]
    have := hf x (by simp)
    refine startV_eq k sec h0 h1 l _ (fun y hy => hf y (List.mem_cons_of_mem _ hy)) ?_ ?_
    · rcases laterZ_cases k sec s x with ⟨e, h1⟩ | ⟨e, h1⟩ <;> rw [e] <;> omega
    · rcases laterZ_cases k sec s x with ⟨e, h1⟩ | ⟨e, h1⟩ <;> rw [e] <;> omega
theorem okFogs {n : Nat} {l : List GTower} (h : areFogs n l = true) : ∀ x ∈ l, okFog n x = true := by
  intro x hx
  obtain ⟨i, hi, rfl⟩ := List.getElem_of_mem hx
  unfold areFogs at h
  simp only [Bool.and_eq_true, List.all_eq_true, List.mem_range] at h
  have := (h.1 i hi).1
  rwa [eachAt_eq hi] at this
theorem fogs_to {n : Nat} {l : List GTower} (h : areFogs n l = true) : ∀ x ∈ l, x.2.2.1 ≤ 10000 := fun x hx => by
  have := okFogs h x hx
  simp only [okFog, Bool.and_eq_true, decide_eq_true_eq] at this
  omega
theorem fogs_len {n : Nat} {l : List GTower} (h : areFogs n l = true) : l.length ≤ maxLen := by
  unfold areFogs at h
  simp only [Bool.and_eq_true, decide_eq_true_eq] at h
  unfold maxLen
  omega
def ovZ (n : GNet) (l : List GTower) (k : Nat) (s : Int) : Int := startZ l (k : Int) s (delay n k) + delay n k
def edgeN (n : GNet) (k u v : Nat) : Prop := ∃ x, n.2.1[k]? = some x ∧ ((x.1 = (u : Int) ∧ x.2.1 = (v : Int)) ∨ (x.1 = (v : Int) ∧ x.2.1 = (u : Int)))
theorem delay_at {n : GNet} {k : Nat} {x : GTower} (h : n.2.1[k]? = some x) : delay n k = x.2.2.1 := by
  unfold delay
  rw [List.getD_eq_getElem?_getD, h]
  rfl
theorem link_at {n : GNet} (hn : isNet n = true) {k : Nat} {x : GTower} (h : n.2.1[k]? = some x) : 0 ≤ x.1 ∧ x.1 < x.2.1 ∧ x.2.1 < (n.1.length : Int) ∧ 1 ≤ x.2.2.1 ∧ x.2.2.1 ≤ 60 := by
  have := okLinks hn x (List.mem_of_getElem? h)
  simp only [okLink, inB, Bool.and_eq_true, decide_eq_true_eq] at this
  omega
def graph (n : GNet) (l : List GTower) (a : Nat) (t : Int) (hn : isNet n = true) (hl : areFogs n.2.1.length l = true) (ha : a < n.1.length) (ht : 0 ≤ t ∧ t ≤ 10000) : Arr.Graph where
  n := n.1.length
  edge := edgeN n
  ov := ovZ n l
  a := a
  t0 := t
  hn := (net_sz hn).1
  ha := ha
  h0 := ht
  he := fun k u v ⟨x, hx, h⟩ => by have := link_at hn hx; omega
  up := fun k u v s ⟨x, hx, h⟩ => by
    have := link_at hn hx
    have h2 := startZ_ge (k : Int) (delay n k) l s
    unfold ovZ
    rw [delay_at hx] at h2 ⊢
    omega
  mono := fun k s s' h => by
    have h2 := startZ_mono (k : Int) (delay n k) l s s' h
    unfold ovZ
    omega
  bd := fun k u v s B ⟨x, hx, h⟩ hs hB => by
    have := link_at hn hx
    have h2 := startZ_le (k : Int) (delay n k) hB l s (fogs_to hl) hs
    unfold ovZ
    rw [delay_at hx] at h2 ⊢
    omega
end Go.Proofs.YtkemmodgpafkmaaGreatDoor.Sh
namespace Go.Proofs.YtkemmodgpafkmaaGreatDoor.Sh
open Go Go.Ab Go.Proofs
open Arr (tm)
section
variable {n : GNet} {l : List GTower} {a : Nat} {t : Int}
theorem over_i (hn : isNet n = true) (hl : areFogs n.2.1.length l = true) {k : Nat} (hk : k < n.2.1.length) {s : Int} (h0 : 0 ≤ s) (h1 : s ≤ 11000) : i_goOver n l (k : Int) s = some (ovZ n l k s) := by
  obtain ⟨x, hx⟩ : ∃ x, n.2.1[k]? = some x := ⟨_, List.getElem?_eq_getElem hk⟩
  have hb := link_at hn hx
  unfold i_goOver ovZ
  have h2 := startZ_ge (k : Int) x.2.2.1 l s
  have h3 := startZ_le (k : Int) x.2.2.1 (B := 11000) (by omega) l s (fogs_to hl) h1
  simp only [idx_get, hx, Option.bind_some, i_start (fogs_len hl), startV_eq (k : Int) x.2.2.1 (by omega) (by omega) l s (fogs_to hl) h0 (by omega), delay_at hx]
  rw [w64_of (by omega) (by omega)]
theorem over_s (hn : isNet n = true) (hl : areFogs n.2.1.length l = true) {k : Nat} (hk : k < n.2.1.length) {s : Int} (h0 : 0 ≤ s) (h1 : s ≤ 11000) : s_roOver n l (k : Int) s = some (ovZ n l k s) := over_i hn hl hk h0 h1
noncomputable def arrF (n : GNet) (l : List GTower) (k : Int) (e : GTower) : (List Int) × Bool × Int → Option (((List Int) × Bool × Int) ⊕ (((List Int) × Bool))) := fun st10 =>
 bif (decide (st10.2.2 < 2)) then
 bif decide (st10.2.2 = (1 : Int)) then
 bif decide (0 ≤ e.2.1) && decide (e.2.1 < (st10.1.length : Int)) then
 (st10.1[(Int.toNat e.2.1)]?).bind fun e17 =>
 bif (decide (e17 < 0)) then
 some (.inl (st10.1, st10.2.1, (w64 (st10.2.2 + 1))))
 else
 bif decide (0 ≤ e.2.1) && decide (e.2.1 < (st10.1.length : Int)) then
 (st10.1[(Int.toNat e.2.1)]?).bind fun e18 =>
 (i_goOver n l k e18).bind fun r19 =>
 bif decide (0 ≤ e.1) && decide (e.1 < (st10.1.length : Int)) then
 (st10.1[(Int.toNat e.1)]?).bind fun e20 =>
 (bif (decide (e20 < 0)) then
 some true
 else
 bif decide (0 ≤ e.1) && decide (e.1 < (st10.1.length : Int)) then
 (st10.1[(Int.toNat e.1)]?).bind fun e21 =>
 some (decide (r19 < e21))
 else
 none).bind fun c22 =>
 bif c22 then
 bif decide (0 ≤ e.1) && decide (e.1 < (st10.1.length : Int)) then
 some (.inl ((st10.1.set (Int.toNat e.1) r19), true, (w64 (st10.2.2 + 1))))
 else
 none
 else
 some (.inl (st10.1, st10.2.1, (w64 (st10.2.2 + 1))))
 else
 none
 else
 none
 else
 none
 else
 bif decide (st10.2.2 = (0 : Int)) then
 bif decide (0 ≤ e.1) && decide (e.1 < (st10.1.length : Int)) then
 (st10.1[(Int.toNat e.1)]?).bind fun e11 =>
 bif (decide (e11 < 0)) then
 some (.inl (st10.1, st10.2.1, (w64 (st10.2.2 + 1))))
 else
 bif decide (0 ≤ e.1) && decide (e.1 < (st10.1.length : Int)) then
 (st10.1[(Int.toNat e.1)]?).bind fun e12 =>
 (i_goOver n l k e12).bind fun r13 =>
 bif decide (0 ≤ e.2.1) && decide (e.2.1 < (st10.1.length : Int)) then
 (st10.1[(Int.toNat e.2.1)]?).bind fun e14 =>
 (bif (decide (e14 < 0)) then
 some true
 else
 bif decide (0 ≤ e.2.1) && decide (e.2.1 < (st10.1.length : Int)) then
 (st10.1[(Int.toNat e.2.1)]?).bind fun e15 =>
 some (decide (r13 < e15))
 else
 none).bind fun c16 =>
 bif c16 then
 bif decide (0 ≤ e.2.1) && decide (e.2.1 < (st10.1.length : Int)) then
 some (.inl ((st10.1.set (Int.toNat e.2.1) r13), true, (w64 (st10.2.2 + 1))))
 else
 none
 else
 some (.inl (st10.1, st10.2.1, (w64 (st10.2.2 + 1))))
 else
 none
 else
 none
 else
 none
 else
 none
 else
 some (.inr (st10.1, st10.2.1))
noncomputable def arrG (n : GNet) (l : List GTower) : (List Int) × Bool × Int → Option (((List Int) × Bool × Int) ⊕ (((List Int) × Bool))) := fun st7 =>
 bif (decide (st7.2.2 < (n.2.1.length : Int))) then
 (idx n.2.1 st7.2.2).bind fun e8 =>
 (loopE (arrF n l st7.2.2 e8) (st7.1, st7.2.1, 0)).bind fun o23 =>
 some (.inl (o23.1, o23.2, (w64 (st7.2.2 + 1))))
 else
 some (.inr (st7.1, st7.2.1))
noncomputable def arrH (n : GNet) (l : List GTower) : (List Int) × Bool → Option (((List Int) × Bool) ⊕ List Int) := fun st5 =>
 bif st5.2 then
 (loopE (arrG n l) (st5.1, false, 0)).bind fun o24 =>
 some (.inl (o24.1, o24.2))
 else
 some (.inr st5.1)
theorem arr_def (n : GNet) (l : List GTower) (a t : Int) : i_arrivals n l a t = bif decide (0 ≤ (n.1.length : Int)) && decide ((n.1.length : Int) ≤ (n.1.length : Int)) && decide ((n.1.length : Int) ≤ lim) then
 (loopE (fun (st2 : (List Int) × Int) => (
 bif (decide (st2.2 < ((List.replicate (Int.toNat (n.1.length : Int)) (0 : Int)).length : Int))) then
 bif decide (0 ≤ st2.2) && decide (st2.2 < (st2.1.length : Int)) then
 some (.inl ((st2.1.set (Int.toNat st2.2) (-1)), (w64 (st2.2 + 1))))
 else
 none
 else
 some (.inr st2.1) : Option (((List Int) × Int) ⊕ ((List Int))))) ((List.replicate (Int.toNat (n.1.length : Int)) (0 : Int)), 0)).bind fun o3 =>
 bif decide (0 ≤ a) && decide (a < (o3.length : Int)) then
 (loopE (arrH n l) ((o3.set (Int.toNat a) t), true)).bind fun o25 =>
 some o25
 else
 none
 else
 none := rfl
variable (hn : isNet n = true) (hl : areFogs n.2.1.length l = true) (ha : a < n.1.length) (ht : 0 ≤ t ∧ t ≤ 10000)
include hn hl ha ht
theorem arr_half {k : Nat} {x : GTower} (hx : n.2.1[k]? = some x) {u v : Nat} (hu : x.1 = (u : Int)) (hv : x.2.1 = (v : Int)) {ts : List Int} {g : Bool} (I : Arr.Inv (graph n l a t hn hl ha ht) ts) :
    arrF n l (k : Int) x (ts, g, 0) = some (.inl ((Arr.rel (graph n l a t hn hl ha ht) k u v (ts, g)).1, (Arr.rel (graph n l a t hn hl ha ht) k u v (ts, g)).2, 1)) := by
  have hb := link_at hn hx
  have hk := (List.getElem?_eq_some_iff.1 hx).1
  have hlen : ts.length = n.1.length := I.len
  have g1 : (decide ((0 : Int) ≤ (u : Int)) && decide ((u : Int) < (ts.length : Int))) = true := by simp; omega
  have g2 : (decide ((0 : Int) ≤ (v : Int)) && decide ((v : Int) < (ts.length : Int))) = true := by simp; omega
  have t1 := Arr.tm_get (ts := ts) (v := u) (by omega)
  have t2 := Arr.tm_get (ts := ts) (v := v) (by omega)
  unfold arrF Arr.rel
  simp only [show decide ((0 : Int) < 2) = true from rfl, cond_true, show decide ((0 : Int) = 1) = false from rfl, cond_false, decide_true, hu, hv, g1, Int.toNat_natCast, t1, Option.bind_some]
  by_cases h1 : tm ts u < 0
  · rw [decide_eq_true h1, if_pos h1]
    rfl
  · have hle : tm ts u ≤ 10960 := I.le (v := u) (by show u < n.1.length; omega)
    rw [decide_eq_false h1, if_neg h1]
    simp only [cond_false, over_i hn hl hk (show 0 ≤ tm ts u by omega) (by omega), Option.bind_some, g2, cond_true, t2]
    show _ = some (Sum.inl ((if tm ts v < 0 ∨ ovZ n l k (tm ts u) < tm ts v then (ts.set v (ovZ n l k (tm ts u)), true) else (ts, g)).1, (if tm ts v < 0 ∨ ovZ n l k (tm ts u) < tm ts v then (ts.set v (ovZ n l k (tm ts u)), true) else (ts, g)).2, 1))
    by_cases h2 : tm ts v < 0
    · rw [decide_eq_true h2, if_pos (.inl h2)]
      rfl
    · rw [decide_eq_false h2]
      by_cases h3 : ovZ n l k (tm ts u) < tm ts v
      · rw [decide_eq_true h3, if_pos (.inr h3)]
        rfl
      · rw [decide_eq_false h3, if_neg (by omega)]
        rfl
theorem arr_half2 {k : Nat} {x : GTower} (hx : n.2.1[k]? = some x) {u v : Nat} (hu : x.1 = (u : Int)) (hv : x.2.1 = (v : Int)) {ts : List Int} {g : Bool} (I : Arr.Inv (graph n l a t hn hl ha ht) ts) :
    arrF n l (k : Int) x (ts, g, 1) = some (.inl ((Arr.rel (graph n l a t hn hl ha ht) k v u (ts, g)).1, (Arr.rel (graph n l a t hn hl ha ht) k v u (ts, g)).2, 2)) := by
  have hb := link_at hn hx
  have hk := (List.getElem?_eq_some_iff.1 hx).1
  have hlen : ts.length = n.1.length := I.len
  have g1 : (decide ((0 : Int) ≤ (u : Int)) && decide ((u : Int) < (ts.length : Int))) = true := by simp; omega
  have g2 : (decide ((0 : Int) ≤ (v : Int)) && decide ((v : Int) < (ts.length : Int))) = true := by simp; omega
  have t1 := Arr.tm_get (ts := ts) (v := u) (by omega)
  have t2 := Arr.tm_get (ts := ts) (v := v) (by omega)
  unfold arrF Arr.rel
  simp only [show decide ((1 : Int) < 2) = true from rfl, cond_true, decide_true, hu, hv, g2, Int.toNat_natCast, t2, Option.bind_some]
  by_cases h1 : tm ts v < 0
  · rw [decide_eq_true h1, if_pos h1]
    rfl
  · have hle : tm ts v ≤ 10960 := I.le (v := v) (by show v < n.1.length; omega)
    rw [decide_eq_false h1, if_neg h1]
    simp only [cond_false, over_i hn hl hk (show 0 ≤ tm ts v by omega) (by omega), Option.bind_some, g1, cond_true, t1]
    show _ = some (Sum.inl ((if tm ts u < 0 ∨ ovZ n l k (tm ts v) < tm ts u then (ts.set u (ovZ n l k (tm ts v)), true) else (ts, g)).1, (if tm ts u < 0 ∨ ovZ n l k (tm ts v) < tm ts u then (ts.set u (ovZ n l k (tm ts v)), true) else (ts, g)).2, 2))
    by_cases h2 : tm ts u < 0
    · rw [decide_eq_true h2, if_pos (.inl h2)]
      rfl
    · rw [decide_eq_false h2]
      by_cases h3 : ovZ n l k (tm ts v) < tm ts u
      · rw [decide_eq_true h3, if_pos (.inr h3)]
        rfl
      · rw [decide_eq_false h3, if_neg (by omega)]
        rfl
theorem arr_pass {t0 : List Int} (I : Arr.Inv (graph n l a t hn hl ha ht) t0) : ∃ y, loopE (arrG n l) (t0, false, 0) = some y ∧ Arr.PassOk (graph n l a t hn hl ha ht) t0 y n.2.1.length := by
  have hsz := net_sz hn
  refine one_loop (n := n.2.1.length) (fun j st => st.2.2 = (j : Int) ∧ Arr.PassOk (graph n l a t hn hl ha ht) t0 (st.1, st.2.1) j) (fun y => Arr.PassOk (graph n l a t hn hl ha ht) t0 y n.2.1.length) ?_ ?_ n.2.1.length 0 (t0, false, 0) (by omega) ⟨rfl, I, Nat.le_refl _, (fun h => by cases h), fun _ => ⟨rfl, fun k _ _ h => absurd h (Nat.not_lt_zero _)⟩⟩
  · rintro j ⟨ts, g, k⟩ hj ⟨hk, P⟩
    obtain rfl : k = (j : Int) := hk
    left
    obtain ⟨x, hx⟩ : ∃ x, n.2.1[j]? = some x := ⟨_, List.getElem?_eq_getElem hj⟩
    have hb := link_at hn hx
    obtain ⟨u, hu⟩ : ∃ u : Nat, x.1 = (u : Int) := ⟨x.1.toNat, by omega⟩
    obtain ⟨v, hv⟩ : ∃ v : Nat, x.2.1 = (v : Int) := ⟨x.2.1.toNat, by omega⟩
    have e1 : (graph n l a t hn hl ha ht).edge j u v := ⟨x, hx, .inl ⟨hu, hv⟩⟩
    have e2 : (graph n l a t hn hl ha ht).edge j v u := ⟨x, hx, .inr ⟨hu, hv⟩⟩
    have hP := P.both e1 e2 (by
      rintro p q ⟨y, hy, h⟩
      rw [hx] at hy
      cases hy
      omega)
    have I1 := (Arr.rel_ok P.inv e1).1
    refine ⟨(_, _, ((j + 1 : Nat) : Int)), ?_, rfl, hP⟩
    unfold arrG
    simp only [at_lt hj, cond_true, idx_get, hx, Option.bind_some]
    rw [loopE_step (arr_half hn hl ha ht hx hu hv P.inv), loopE_step (arr_half2 hn hl ha ht hx hu hv I1), loopE_done (b := (_, _)) rfl, up (show n.2.1.length ≤ maxLen by unfold maxLen; omega) hj]
    rfl
  · rintro ⟨ts, g, k⟩ ⟨hk, P⟩
    obtain rfl : k = (n.2.1.length : Int) := hk
    refine ⟨(ts, g), ?_, P⟩
    unfold arrG
    simp
theorem arr_grow : ∀ (m : Nat) (ts : List Int), Arr.msr ts ≤ m → Arr.Inv (graph n l a t hn hl ha ht) ts → ∃ us, loopE (arrH n l) (ts, true) = some us ∧ Arr.Inv (graph n l a t hn hl ha ht) us ∧ Arr.Closed (graph n l a t hn hl ha ht) us := by
  intro m
  induction m with
  | zero =>
    intro ts hm I
    obtain ⟨⟨us, g⟩, y1, P⟩ := arr_pass hn hl ha ht I
    cases g with
    | true => have h : Arr.msr us < Arr.msr ts := P.lt rfl; omega
    | false =>
      obtain ⟨f1, f2⟩ := P.eq rfl
      refine ⟨us, ?_, P.inv, fun k u v e hp => f2 k u v ?_ e hp⟩
      · rw [loopE_step (a' := (us, false)) (by unfold arrH; simp only [cond_true, y1, Option.bind_some]), loopE_done (b := us) rfl]
      · obtain ⟨x, hx, _⟩ := e
        exact (List.getElem?_eq_some_iff.1 hx).1
  | succ m ih =>
    intro ts hm I
    obtain ⟨⟨us, g⟩, y1, P⟩ := arr_pass hn hl ha ht I
    have st : arrH n l (ts, true) = some (.inl (us, g)) := by unfold arrH; simp only [cond_true, y1, Option.bind_some]
    cases g with
    | true =>
      rw [loopE_step st]
      exact ih us (by have h : Arr.msr us < Arr.msr ts := P.lt rfl; omega) P.inv
    | false =>
      obtain ⟨f1, f2⟩ := P.eq rfl
      refine ⟨us, ?_, P.inv, fun k u v e hp => f2 k u v ?_ e hp⟩
      · rw [loopE_step st, loopE_done (b := us) rfl]
      · obtain ⟨x, hx, _⟩ := e
        exact (List.getElem?_eq_some_iff.1 hx).1
theorem arrivals_i : ∃ us, i_arrivals n l (a : Int) t = some us ∧ Arr.Inv (graph n l a t hn hl ha ht) us ∧ Arr.Closed (graph n l a t hn hl ha ht) us := by
  have hsz := net_sz hn
  obtain ⟨us, h1, h2, h3⟩ := arr_grow hn hl ha ht _ _ (Nat.le_refl _) (Arr.Inv.first (graph n l a t hn hl ha ht))
  refine ⟨us, ?_, h2, h3⟩
  have hc : loopE (fun (st2 : (List Int) × Int) => (
 bif (decide (st2.2 < ((List.replicate (Int.toNat (n.1.length : Int)) (0 : Int)).length : Int))) then
 bif decide (0 ≤ st2.2) && decide (st2.2 < (st2.1.length : Int)) then
 some (.inl ((st2.1.set (Int.toNat st2.2) (-1)), (w64 (st2.2 + 1))))
 else
 none
 else
 some (.inr st2.1) : Option (((List Int) × Int) ⊕ ((List Int))))) ((List.replicate (Int.toNat (n.1.length : Int)) (0 : Int)), 0) = some (List.replicate n.1.length (-1)) := by
    rw [copy_loop (l := n.1) (z := (0 : Int)) (fun _ => (-1 : Int)) (by omega) ?_ ?_]
    · congr 1
      show List.map (Function.const _ (-1)) n.1 = _
      exact List.map_const
    · intro out i x hx hi
      simp only [List.length_replicate, Int.toNat_natCast, at_lt hi, cond_true]
    · intro out
      simp
  rw [arr_def, copy_guard (by omega), cond_true, hc]
  simp only [Option.bind_some, List.length_replicate, Int.toNat_natCast]
  rw [show (decide ((0 : Int) ≤ (a : Int)) && decide ((a : Int) < (n.1.length : Int))) = true by simp; omega, cond_true]
  exact bind_eq h1 rfl
end
end Go.Proofs.YtkemmodgpafkmaaGreatDoor.Sh
namespace Go.Proofs.YtkemmodgpafkmaaGreatDoor.Sh
open Go Go.Ab Go.Proofs
open Arr (tm)
section
variable {n : GNet} {l : List GTower} {a : Nat} {t : Int}
def pickF (N : Nat) : (List Int) × (List Bool) × Int × Int → Option (((List Int) × (List Bool) × Int × Int) ⊕ (((List Int) × (List Bool) × Int))) := fun st7 =>
 bif (decide (st7.2.2.2 < (N : Int))) then
 bif decide (0 ≤ st7.2.2.2) && decide (st7.2.2.2 < (st7.1.length : Int)) then
 (st7.1[(Int.toNat st7.2.2.2)]?).bind fun e8 =>
 bif decide (0 ≤ st7.2.2.2) && decide (st7.2.2.2 < (st7.2.1.length : Int)) then
 (st7.2.1[(Int.toNat st7.2.2.2)]?).bind fun e9 =>
 (bif (!e9) then
 some (decide (0 ≤ e8))
 else
 some false).bind fun c10 =>
 (bif c10 then
 (bif (decide (st7.2.2.1 < 0)) then
 some true
 else
 bif decide (0 ≤ st7.2.2.1) && decide (st7.2.2.1 < (st7.1.length : Int)) then
 (st7.1[(Int.toNat st7.2.2.1)]?).bind fun e11 =>
 some (decide (e8 < e11))
 else
 none).bind fun c12 =>
 some c12
 else
 some false).bind fun c13 =>
 bif c13 then
 some (.inl (st7.1, st7.2.1, st7.2.2.2, (w64 (st7.2.2.2 + 1))))
 else
 some (.inl (st7.1, st7.2.1, st7.2.2.1, (w64 (st7.2.2.2 + 1))))
 else
 none
 else
 none
 else
 some (.inr (st7.1, st7.2.1, st7.2.2.1))
noncomputable def linksF (n : GNet) (l : List GTower) (i : Int) : (List Int) × (List Bool) × Int → Option (((List Int) × (List Bool) × Int) ⊕ (((List Int) × (List Bool)))) := fun st16 =>
 bif (decide (st16.2.2 < (n.2.1.length : Int))) then
 (idx n.2.1 st16.2.2).bind fun e17 =>
 (s_roOther e17 i).bind fun r18 =>
 bif (decide (r18 < 0)) then
 some (.inl (st16.1, st16.2.1, (w64 (st16.2.2 + 1))))
 else
 bif decide (0 ≤ i) && decide (i < (st16.1.length : Int)) then
 (st16.1[(Int.toNat i)]?).bind fun e19 =>
 (s_roOver n l st16.2.2 e19).bind fun r20 =>
 bif decide (0 ≤ r18) && decide (r18 < (st16.1.length : Int)) then
 (st16.1[(Int.toNat r18)]?).bind fun e21 =>
 (bif (decide (e21 < 0)) then
 some true
 else
 bif decide (0 ≤ r18) && decide (r18 < (st16.1.length : Int)) then
 (st16.1[(Int.toNat r18)]?).bind fun e22 =>
 some (decide (r20 < e22))
 else
 none).bind fun c23 =>
 bif c23 then
 bif decide (0 ≤ r18) && decide (r18 < (st16.1.length : Int)) then
 some (.inl ((st16.1.set (Int.toNat r18) r20), st16.2.1, (w64 (st16.2.2 + 1))))
 else
 none
 else
 some (.inl (st16.1, st16.2.1, (w64 (st16.2.2 + 1))))
 else
 none
 else
 none
 else
 some (.inr (st16.1, st16.2.1))
noncomputable def firstG (n : GNet) (l : List GTower) : (List Int) × (List Bool) → Option (((List Int) × (List Bool)) ⊕ List Int) := fun st5 =>
 (loopE (pickF st5.1.length) (st5.1, st5.2, (-1), 0)).bind fun o14 =>
 bif (decide (o14.2.2 < 0)) then
 some (.inr o14.1)
 else
 bif decide (0 ≤ o14.2.2) && decide (o14.2.2 < (o14.2.1.length : Int)) then
 (loopE (linksF n l o14.2.2) (o14.1, (o14.2.1.set (Int.toNat o14.2.2) true), 0)).bind fun o24 =>
 some (.inl (o24.1, o24.2))
 else
 none
theorem roFirst_def (n : GNet) (l : List GTower) (a t : Int) : s_roFirst n l a t = (loopE (fun (st2 : (List Int) × Int) => (
 bif (decide (st2.2 < (n.1.length : Int))) then
 bif decide (List.length st2.1 + List.length [(-1)] ≤ lim) then
 some (.inl ((st2.1 ++ [(-1)]), (w64 (st2.2 + 1))))
 else
 none
 else
 some (.inr st2.1) : Option (((List Int) × Int) ⊕ ((List Int))))) ([], 0)).bind fun o3 =>
 bif decide (0 ≤ a) && decide (a < (o3.length : Int)) then
 bif decide (0 ≤ (n.1.length : Int)) && decide ((n.1.length : Int) ≤ (n.1.length : Int)) && decide ((n.1.length : Int) ≤ lim) then
 (loopE (firstG n l) ((o3.set (Int.toNat a) t), (List.replicate (Int.toNat (n.1.length : Int)) (false : Bool)))).bind fun o25 =>
 some o25
 else
 none
 else
 none := rfl
def dn (D : List Bool) (u : Nat) : Prop := D[u]? = some true
def cand (D : List Bool) (ts : List Int) (k : Nat) : Bool := !(D.getD k true) && decide (0 ≤ tm ts k)
theorem pick_ok {N : Nat} (hN : N ≤ 16) {ts : List Int} {D : List Bool} (h1 : ts.length = N) (h2 : D.length = N) : loopE (pickF N) (ts, D, -1, 0) = some (ts, D, (List.range N).foldl (Arr.pickMin (cand D ts) ts) (-1)) := by
  have := (fold_at (n := N) (f := pickF N) (fun (s : Int) (k : Int) => (ts, D, s, k)) (Arr.pickMin (cand D ts) ts) (fun s => (ts, D, s)) (fun _ s => s = -1 ∨ ∃ i : Nat, s = (i : Int) ∧ i < N) (-1) (.inl rfl) ?_ ?_).1
  · exact this
  · intro s k hk hs
    have t1 := Arr.tm_get (ts := ts) (v := k) (by omega)
    have g1 : (decide ((0 : Int) ≤ (k : Int)) && decide ((k : Int) < (ts.length : Int))) = true := by simp; omega
    have g2 : (decide ((0 : Int) ≤ (k : Int)) && decide ((k : Int) < (D.length : Int))) = true := by simp; omega
    obtain ⟨d, hd⟩ : ∃ d, D[k]? = some d := ⟨_, List.getElem?_eq_getElem (show k < D.length by omega)⟩
    have hc : cand D ts k = (!d && decide (0 ≤ tm ts k)) := by
      unfold cand
      rw [List.getD_eq_getElem?_getD, hd]
      rfl
    have hw : w64 ((k : Int) + 1) = (k : Int) + 1 := w64_of (by omega) (by omega)
    refine ⟨?_, ?_⟩
    · unfold pickF Arr.pickMin
      simp only [decide_eq_true (show (k : Int) < (N : Int) by omega), cond_true, g1, g2, Int.toNat_natCast, t1, hd, Option.bind_some, hc, hw]
      cases d with
      | true => rfl
      | false =>
        simp only [Bool.not_false, cond_true, Option.bind_some, Bool.true_and]
        cases decide (0 ≤ tm ts k) with
        | false => rfl
        | true =>
          simp only [cond_true, Bool.true_and]
          rcases hs with rfl | ⟨i, rfl, hi⟩
          · rfl
          · have t2 := Arr.tm_get (ts := ts) (v := i) (by omega)
            have g3 : (decide ((0 : Int) ≤ (i : Int)) && decide ((i : Int) < (ts.length : Int))) = true := by simp; omega
            simp only [decide_eq_false (show ¬ (i : Int) < 0 by omega), cond_false, g3, cond_true, Int.toNat_natCast, t2, Option.bind_some, Bool.false_or]
            cases decide (tm ts k < tm ts i) <;> rfl
    · unfold Arr.pickMin
      cases (cand D ts k && (decide (s < 0) || decide (tm ts k < tm ts s.toNat))) with
      | true => exact .inr ⟨k, rfl, hk⟩
      | false => exact hs
  · intro s _
    unfold pickF
    rw [decide_eq_false (show ¬ (N : Int) < (N : Int) by omega)]
    rfl
theorem other_eq (x : GTower) (i : Int) : s_roOther x i = some (if i = x.1 then x.2.1 else if i = x.2.1 then x.1 else -1) := by
  unfold s_roOther
  by_cases h1 : i = x.1
  · rw [decide_eq_true h1, if_pos h1]; rfl
  · rw [decide_eq_false h1, if_neg h1]
    by_cases h2 : i = x.2.1
    · rw [decide_eq_true h2, if_pos h2]; rfl
    · rw [decide_eq_false h2, if_neg h2]; rfl
variable (hn : isNet n = true) (hl : areFogs n.2.1.length l = true) (ha : a < n.1.length) (ht : 0 ≤ t ∧ t ≤ 10000)
include hn hl ha ht
theorem links_ok {i : Nat} {dd : Nat → Prop} {old : List Int} {D : List Bool} (M : Arr.Mid (graph n l a t hn hl ha ht) dd old) (hi : i < n.1.length) (hd : ¬ dd i) (h0 : 0 ≤ tm old i) (hi2 : ∀ v, v < n.1.length → ¬ dd v → 0 ≤ tm old v → tm old i ≤ tm old v) :
    ∃ y : List Int × List Bool, loopE (linksF n l (i : Int)) (old, D, 0) = some y ∧ y.2 = D ∧ Arr.Part (graph n l a t hn hl ha ht) i dd old y.1 n.2.1.length := by
  have hsz := net_sz hn
  refine one_loop (n := n.2.1.length) (fun j st => st.2.1 = D ∧ st.2.2 = (j : Int) ∧ Arr.Part (graph n l a t hn hl ha ht) i dd old st.1 j) (fun (y : List Int × List Bool) => y.2 = D ∧ Arr.Part (graph n l a t hn hl ha ht) i dd old y.1 n.2.1.length) ?_ ?_ n.2.1.length 0 (old, D, 0) (by omega) ⟨rfl, rfl, Arr.Part.begin M hi2⟩
  · rintro j ⟨ts, D', k⟩ hj ⟨hD, hk, P⟩
    obtain rfl : D' = D := hD
    obtain rfl : k = (j : Int) := hk
    have P : Arr.Part (graph n l a t hn hl ha ht) i dd old ts j := P
    left
    obtain ⟨x, hx⟩ : ∃ x, n.2.1[j]? = some x := ⟨_, List.getElem?_eq_getElem hj⟩
    have hb := link_at hn hx
    have hlen : ts.length = n.1.length := P.inv.len
    have hj1 := up (show n.2.1.length ≤ maxLen by unfold maxLen; omega) hj
    have hek : ∀ w, edgeN n j i w → (x.1 = (i : Int) ∧ x.2.1 = (w : Int)) ∨ (x.1 = (w : Int) ∧ x.2.1 = (i : Int)) := by
      rintro w ⟨y, hy, h⟩
      rw [hx] at hy
      cases hy
      exact h
    by_cases hends : x.1 = (i : Int) ∨ x.2.1 = (i : Int)
    · 
      obtain ⟨v, hv, e, h1⟩ : ∃ v : Nat, (if (i : Int) = x.1 then x.2.1 else if (i : Int) = x.2.1 then x.1 else -1) = (v : Int) ∧ edgeN n j i v ∧ ∀ w, edgeN n j i w → w = v := by
        by_cases h : (i : Int) = x.1
        · refine ⟨x.2.1.toNat, by rw [if_pos h]; omega, ⟨x, hx, .inl ⟨h.symm, by omega⟩⟩, fun w hw => ?_⟩
          rcases hek w hw with h2 | h2 <;> omega
        · have h' : (i : Int) = x.2.1 := by omega
          refine ⟨x.1.toNat, by rw [if_neg h, if_pos h']; omega, ⟨x, hx, .inr ⟨by omega, h'.symm⟩⟩, fun w hw => ?_⟩
          rcases hek w hw with h2 | h2 <;> omega
      have hvl := ((graph n l a t hn hl ha ht).he _ _ _ e).2
      have hvl : v < n.1.length := hvl
      have hvi : v ≠ i := by rcases hek v e with h2 | h2 <;> omega
      have ei : tm ts i = tm old i := P.keep i hi (.inr rfl)
      have hle : tm ts i ≤ 10960 := P.inv.le (v := i) hi
      have g1 : (decide ((0 : Int) ≤ (i : Int)) && decide ((i : Int) < (ts.length : Int))) = true := by simp; omega
      have g2 : (decide ((0 : Int) ≤ (v : Int)) && decide ((v : Int) < (ts.length : Int))) = true := by simp; omega
      have t1 := Arr.tm_get (ts := ts) (v := i) (by omega)
      have t2 := Arr.tm_get (ts := ts) (v := v) (by omega)
      have ho := over_s hn hl hj (s := tm old i) h0 (by omega)
      have st : linksF n l (i : Int) (ts, D', (j : Int)) = some (.inl ((if tm ts v < 0 ∨ ovZ n l j (tm old i) < tm ts v then ts.set v (ovZ n l j (tm old i)) else ts), D', ((j + 1 : Nat) : Int))) := by
        unfold linksF
        simp only [at_lt hj, cond_true, idx_get, hx, Option.bind_some, other_eq, hv, decide_eq_false (show ¬ (v : Int) < 0 by omega), cond_false, g1, g2, Int.toNat_natCast, t1, t2, ei, ho, hj1]
        by_cases h2 : tm ts v < 0
        · rw [decide_eq_true h2, if_pos (.inl h2)]
          rfl
        · rw [decide_eq_false h2]
          by_cases h3 : ovZ n l j (tm old i) < tm ts v
          · rw [decide_eq_true h3, if_pos (.inr h3)]
            rfl
          · rw [decide_eq_false h3, if_neg (by omega)]
            rfl
      refine ⟨_, st, rfl, rfl, ?_⟩
      by_cases hc : tm ts v < 0 ∨ ovZ n l j (tm old i) < tm ts v
      · rw [if_pos hc]
        exact P.put M hi hd h0 h1 e hvi hc
      · rw [if_neg hc]
        exact P.same h1 (show 0 ≤ tm ts v ∧ tm ts v ≤ ovZ n l j (tm old i) by omega)
    · have hv : (if (i : Int) = x.1 then x.2.1 else if (i : Int) = x.2.1 then x.1 else -1) = -1 := by rw [if_neg (by omega), if_neg (by omega)]
      refine ⟨(ts, D', ((j + 1 : Nat) : Int)), ?_, rfl, rfl, P.none fun w hw => by rcases hek w hw with h2 | h2 <;> omega⟩
      unfold linksF
      simp only [at_lt hj, cond_true, idx_get, hx, Option.bind_some, other_eq, hv, hj1]
      rfl
  · rintro ⟨ts, D', k⟩ ⟨hD, hk, P⟩
    obtain rfl : D' = D := hD
    obtain rfl : k = (n.2.1.length : Int) := hk
    refine ⟨(ts, D'), ?_, rfl, P⟩
    unfold linksF
    simp
theorem Mid_congr {dd dd' : Nat → Prop} {ts : List Int} (h : ∀ u, dd u ↔ dd' u) (M : Arr.Mid (graph n l a t hn hl ha ht) dd ts) : Arr.Mid (graph n l a t hn hl ha ht) dd' ts := by
  have : dd = dd' := funext fun u => propext (h u)
  rw [← this]; exact M
theorem first_ok : ∀ (m : Nat) (ts : List Int) (D : List Bool), D.countP (fun d => !d) ≤ m → D.length = n.1.length → Arr.Mid (graph n l a t hn hl ha ht) (dn D) ts →
    ∃ us, loopE (firstG n l) (ts, D) = some us ∧ Arr.Inv (graph n l a t hn hl ha ht) us ∧ Arr.Closed (graph n l a t hn hl ha ht) us := by
  have hsz := net_sz hn
  intro m
  induction m with
  | zero =>
    intro ts D hm hD M
    have hlen : ts.length = n.1.length := M.inv.len
    have hp := pick_ok (N := n.1.length) hsz.1 hlen hD
    rcases Arr.pickMin_spec (cand D ts) ts n.1.length with ⟨h1, h2⟩ | ⟨i, h1, h2, h3, h4⟩
    · rw [h1] at hp
      refine ⟨ts, loopE_done ?_, M.inv, M.closed fun v hv hp => ?_⟩
      · unfold firstG
        simp only [hlen, hp, Option.bind_some]
        rfl
      · have hv : v < n.1.length := hv
        have := h2 v hv
        unfold cand at this
        rw [decide_eq_true hp, Bool.and_true, List.getD_eq_getElem?_getD, List.getElem?_eq_getElem (show v < D.length by omega)] at this
        unfold dn
        rw [List.getElem?_eq_getElem (show v < D.length by omega)]
        simpa using this
    · exfalso
      unfold cand at h3
      simp only [Bool.and_eq_true, List.getD_eq_getElem?_getD, List.getElem?_eq_getElem (show i < D.length by omega)] at h3
      have : 0 < D.countP (fun d => !d) := List.countP_pos_iff.2 ⟨D[i], List.getElem_mem _, h3.1⟩
      omega
  | succ m ih =>
    intro ts D hm hD M
    have hlen : ts.length = n.1.length := M.inv.len
    have hp := pick_ok (N := n.1.length) hsz.1 hlen hD
    rcases Arr.pickMin_spec (cand D ts) ts n.1.length with ⟨h1, h2⟩ | ⟨i, h1, h2, h3, h4⟩
    · rw [h1] at hp
      refine ⟨ts, loopE_done ?_, M.inv, M.closed fun v hv hp => ?_⟩
      · unfold firstG
        simp only [hlen, hp, Option.bind_some]
        rfl
      · have hv : v < n.1.length := hv
        have := h2 v hv
        unfold cand at this
        rw [decide_eq_true hp, Bool.and_true, List.getD_eq_getElem?_getD, List.getElem?_eq_getElem (show v < D.length by omega)] at this
        unfold dn
        rw [List.getElem?_eq_getElem (show v < D.length by omega)]
        simpa using this
    · rw [h1] at hp
      have hiD : i < D.length := by omega
      have c1 : D[i] = false ∧ 0 ≤ tm ts i := by
        unfold cand at h3
        simpa [List.getD_eq_getElem?_getD, hiD] using h3
      have hdi : ¬ dn D i := by unfold dn; rw [List.getElem?_eq_getElem hiD, c1.1]; simp
      have hcand : ∀ v, v < n.1.length → ¬ dn D v → 0 ≤ tm ts v → tm ts i ≤ tm ts v := fun v hv hnd hp => h4 v hv (by
        have hvD : v < D.length := by omega
        unfold dn at hnd
        rw [List.getElem?_eq_getElem hvD] at hnd
        unfold cand
        rw [decide_eq_true hp, List.getD_eq_getElem?_getD, List.getElem?_eq_getElem hvD]
        simpa using hnd)
      obtain ⟨⟨us, D'⟩, y1, y2, y3⟩ := links_ok hn hl ha ht (D := D.set i true) M h2 hdi c1.2 hcand
      obtain rfl : D' = D.set i true := y2
      have hM := y3.done M h2 c1.2 hcand hdi (by
        rintro k u v ⟨x, hx, _⟩
        exact (List.getElem?_eq_some_iff.1 hx).1)
      rw [loopE_step (a' := (us, D.set i true)) ?_]
      · refine ih us (D.set i true) ?_ (by rw [List.length_set]; exact hD) (Mid_congr hn hl ha ht (fun u => ?_) hM)
        · have hc : (D.set i true).countP (fun d => !d) + 1 = D.countP (fun d => !d) := by
            have e : D = D.take i ++ false :: D.drop (i + 1) := by
              rw [← c1.1]
              simp
            have e2 : D.set i true = D.take i ++ true :: D.drop (i + 1) := by
              rw [List.set_eq_take_append_cons_drop, if_pos hiD]
            rw [e2]
            conv => rhs; rw [e]
            simp only [List.countP_append, List.countP_cons]
            simp
            omega
          omega
        · unfold dn
          rw [List.getElem?_set]
          by_cases e : i = u
          · subst e; rw [if_pos rfl, if_pos hiD]; simp
          · rw [if_neg e]
            exact ⟨fun h => by rcases h with h | h
                               · exact h
                               · exact absurd h.symm e, fun h => .inl h⟩
      · unfold firstG
        have g : (decide ((0 : Int) ≤ (i : Int)) && decide ((i : Int) < (D.length : Int))) = true := by simp; omega
        simp only [hlen, hp, Option.bind_some, decide_eq_false (show ¬ (i : Int) < 0 by omega), cond_false, g, cond_true, Int.toNat_natCast, y1]
theorem arrivals_s : ∃ us, s_roFirst n l (a : Int) t = some us ∧ Arr.Inv (graph n l a t hn hl ha ht) us ∧ Arr.Closed (graph n l a t hn hl ha ht) us := by
  have hsz := net_sz hn
  obtain ⟨us, h1, h2, h3⟩ := first_ok hn hl ha ht _ _ (List.replicate n.1.length false) (Nat.le_refl _) (by simp) (Mid_congr hn hl ha ht (fun u => by
    unfold dn
    rw [List.getElem?_replicate]
    constructor
    · exact fun h => h.elim
    · intro h
      split at h <;> simp at h) (Arr.Mid.first (graph n l a t hn hl ha ht)))
  refine ⟨us, ?_, h2, h3⟩
  have hc : loopE (fun (st2 : (List Int) × Int) => (
 bif (decide (st2.2 < (n.1.length : Int))) then
 bif decide (List.length st2.1 + List.length [(-1)] ≤ lim) then
 some (.inl ((st2.1 ++ [(-1)]), (w64 (st2.2 + 1))))
 else
 none
 else
 some (.inr st2.1) : Option (((List Int) × Int) ⊕ ((List Int))))) ([], 0) = some (List.replicate n.1.length (-1)) := by
    have := (fold_at (n := n.1.length) (f := (fun (st2 : (List Int) × Int) => (
 bif (decide (st2.2 < (n.1.length : Int))) then
 bif decide (List.length st2.1 + List.length [(-1)] ≤ lim) then
 some (.inl ((st2.1 ++ [(-1)]), (w64 (st2.2 + 1))))
 else
 none
 else
 some (.inr st2.1) : Option (((List Int) × Int) ⊕ ((List Int)))))) Prod.mk (fun s _ => s ++ [-1]) (fun s => s) (fun j s => s = List.replicate j (-1)) [] rfl ?_ ?_)
    · rw [this.1, this.2]
    · rintro s j hj rfl
      refine ⟨?_, by rw [← List.replicate_succ']⟩
      simp only [at_lt hj, cond_true]
      rw [lim_ok (by simp; omega), cond_true, up (show n.1.length ≤ maxLen by unfold maxLen; omega) hj]
    · intro s _
      simp
  rw [roFirst_def, hc]
  simp only [Option.bind_some, List.length_replicate, Int.toNat_natCast]
  rw [show (decide ((0 : Int) ≤ (a : Int)) && decide ((a : Int) < (n.1.length : Int))) = true by simp; omega, cond_true, copy_guard (by omega), cond_true]
  exact bind_eq h1 rfl
theorem arrivals_same : ∃ us, i_arrivals n l (a : Int) t = some us ∧ s_roFirst n l (a : Int) t = some us ∧ Arr.Inv (graph n l a t hn hl ha ht) us ∧ Arr.Closed (graph n l a t hn hl ha ht) us := by
  obtain ⟨us, h1, h2, h3⟩ := arrivals_i hn hl ha ht
  obtain ⟨vs, k1, k2, k3⟩ := arrivals_s hn hl ha ht
  obtain rfl := Arr.unique h2 h3 k2 k3
  exact ⟨us, h1, k1, h2, h3⟩
end
end Go.Proofs.YtkemmodgpafkmaaGreatDoor.Sh
namespace Go.Ab
theorem rev_loop {l : List Int} {f : List Int × Int × Int → Option ((List Int × Int × Int) ⊕ List Int)} (hl : l.length ≤ 1048576)
    (hf : ∀ (A : List Int) (i j : Nat) x y, i < j → A.length = l.length → A[i]? = some x → A[j]? = some y → f (A, (i : Int), (j : Int)) = some (.inl ((A.set i y).set j x, (i : Int) + 1, (j : Int) - 1)))
    (hend : ∀ (A : List Int) (i j : Int), j ≤ i → f (A, i, j) = some (.inr A)) :
    ∀ (m : Nat) (A M B : List Int), M.length ≤ m → A.length = B.length → (A ++ M ++ B).length = l.length → loopE f (A ++ M ++ B, (A.length : Int), (A.length : Int) + (M.length : Int) - 1) = some (A ++ M.reverse ++ B) := by
  intro m
  induction m with
  | zero =>
    intro A M B hm _ _
    obtain rfl : M = [] := List.eq_nil_of_length_eq_zero (by omega)
    exact loopE_done (hend _ _ _ (by simp; omega))
  | succ m ih =>
    intro A M B hm hAB hlen
    cases M with
    | nil => exact loopE_done (hend _ _ _ (by simp; omega))
    | cons x M =>
      rcases List.eq_nil_or_concat M with rfl | ⟨M', y, rfl⟩
      · exact loopE_done (hend _ _ _ (by simp))
      · have e : A ++ x :: (M'.concat y) ++ B = A ++ x :: (M' ++ y :: B) := by simp
        have h1 : (A ++ x :: (M' ++ y :: B))[A.length]? = some x := by simp
        have h2 : (A ++ x :: (M' ++ y :: B))[A.length + M'.length + 1]? = some y := by
          rw [List.getElem?_append_right (by omega), show A.length + M'.length + 1 - A.length = M'.length + 1 by omega, List.getElem?_cons_succ, List.getElem?_append_right (Nat.le_refl _)]
          simp
        have hs := hf (A ++ x :: (M' ++ y :: B)) A.length (A.length + M'.length + 1) x y (by omega) (by rw [← e]; exact hlen) h1 h2
        have e3 : ((A ++ x :: (M' ++ y :: B)).set A.length y).set (A.length + M'.length + 1) x = (A ++ [y]) ++ M' ++ ([x] ++ B) := by
          rw [List.set_append_right _ _ (Nat.le_refl _), Nat.sub_self, List.set_cons_zero, List.set_append_right _ _ (by omega), show A.length + M'.length + 1 - A.length = M'.length + 1 by omega, List.set_cons_succ, List.set_append_right _ _ (Nat.le_refl _), Nat.sub_self, List.set_cons_zero]
          simp
        have ej : (A.length : Int) + ((x :: (M'.concat y)).length : Int) - 1 = ((A.length + M'.length + 1 : Nat) : Int) := by simp; omega
        rw [ej, e, loopE_step hs, e3]
        have := ih (A ++ [y]) M' ([x] ++ B) (by simp at hm; omega) (by simp [hAB]) (by
          rw [← hlen]
          simp)
        rw [show ((A ++ [y]).length : Int) + (M'.length : Int) - 1 = ((A.length + M'.length + 1 : Nat) : Int) - 1 by simp; omega, show ((A ++ [y]).length : Int) = (A.length : Int) + 1 by simp] at this
        rw [this]
        simp
end Go.Ab
namespace Go.Proofs.YtkemmodgpafkmaaGreatDoor.Sh
open Go Go.Ab Go.Proofs
open Arr (tm)
theorem reverse_i {l : List Int} (hl : l.length ≤ 1048576) : slices_Reverse_int l = some l.reverse := by
  unfold slices_Reverse_int
  rw [w64_of (by omega) (by omega)]
  have := rev_loop (l := l) (f := (fun (st2 : (List Int) × Int × Int) => (
 bif (decide (st2.2.1 < st2.2.2)) then
 bif decide (0 ≤ st2.2.2) && decide (st2.2.2 < (st2.1.length : Int)) then
 (st2.1[(Int.toNat st2.2.2)]?).bind fun e3 =>
 bif decide (0 ≤ st2.2.1) && decide (st2.2.1 < (st2.1.length : Int)) then
 (st2.1[(Int.toNat st2.2.1)]?).bind fun e4 =>
 bif decide (0 ≤ st2.2.1) && decide (st2.2.1 < (st2.1.length : Int)) then
 bif decide (0 ≤ st2.2.2) && decide (st2.2.2 < ((st2.1.set (Int.toNat st2.2.1) e3).length : Int)) then
 some (.inl (((st2.1.set (Int.toNat st2.2.1) e3).set (Int.toNat st2.2.2) e4), (w64 (st2.2.1 + 1)), (w64 (st2.2.2 - 1))))
 else
 none
 else
 none
 else
 none
 else
 none
 else
 some (.inr st2.1) : Option (((List Int) × Int × Int) ⊕ ((List Int)))))) hl ?_ ?_ l.length [] l [] (Nat.le_refl _) rfl (by simp)
  · simp only [List.nil_append, List.append_nil, List.length_nil] at this
    rw [show ((0 : Nat) : Int) + (l.length : Int) - 1 = (l.length : Int) - 1 by omega] at this
    exact bind_eq this rfl
  · intro A i j x y hij hA hx hy
    have h1 := (List.getElem?_eq_some_iff.1 hx).1
    have h2 := (List.getElem?_eq_some_iff.1 hy).1
    have g1 : (decide ((0 : Int) ≤ (i : Int)) && decide ((i : Int) < (A.length : Int))) = true := by simp; omega
    have g2 : (decide ((0 : Int) ≤ (j : Int)) && decide ((j : Int) < (A.length : Int))) = true := by simp; omega
    simp only [decide_eq_true (show (i : Int) < (j : Int) by omega), cond_true, g1, g2, Int.toNat_natCast, hx, hy, Option.bind_some, List.length_set]
    rw [w64_of (by omega) (by omega), w64_of (by omega) (by omega)]
  · intro A i j hij
    simp only [decide_eq_false (show ¬ i < j by omega), cond_false]
theorem links_lt {n : GNet} (hn : isNet n = true) (i : Nat) : ∀ (d : Nat) (hi : i + d + 1 < n.2.1.length), before (n.2.1[i]'(by omega)) (n.2.1[i + d + 1]'hi) = true := by
  have next : ∀ j (hj : j + 1 < n.2.1.length), before (n.2.1[j]'(by omega)) (n.2.1[j + 1]'hj) = true := fun j hj => by
    unfold isNet at hn
    simp only [Bool.and_eq_true, List.all_eq_true, List.mem_range] at hn
    have := (hn.2.1 (j + 1) hj).2
    rw [stepAt_eq hj] at this
    simpa using this
  intro d
  induction d with
  | zero => intro hi; exact next i hi
  | succ d ih =>
    intro hi
    have h1 := ih (by omega)
    have h2 := next (i + d + 1) hi
    show before (n.2.1[i]'(by omega)) (n.2.1[i + d + 1 + 1]'hi) = true
    unfold before at h1 h2 ⊢
    simp only [Bool.or_eq_true, Bool.and_eq_true, decide_eq_true_eq] at h1 h2 ⊢
    omega
theorem edge_one {n : GNet} (hn : isNet n = true) {i j u v : Nat} (h1 : edgeN n i u v) (h2 : edgeN n j u v) : i = j := by
  obtain ⟨x, hx, hxe⟩ := h1
  obtain ⟨y, hy, hye⟩ := h2
  have bx := link_at hn hx
  have byy := link_at hn hy
  have hi := (List.getElem?_eq_some_iff.1 hx)
  have hj := (List.getElem?_eq_some_iff.1 hy)
  obtain ⟨hi, rfl⟩ := hi
  obtain ⟨hj, rfl⟩ := hj
  have key : ∀ p q (hp : p < n.2.1.length) (hq : q < n.2.1.length), p < q → (n.2.1[p]).1 = (n.2.1[q]).1 → (n.2.1[p]).2.1 = (n.2.1[q]).2.1 → False := fun p q hp hq hpq e1 e2 => by
    have := links_lt hn p (q - p - 1) (by omega)
    have e : p + (q - p - 1) + 1 = q := by omega
    simp only [e] at this
    unfold before at this
    simp only [Bool.or_eq_true, Bool.and_eq_true, decide_eq_true_eq] at this
    omega
  rcases Nat.lt_trichotomy i j with h | h | h
  · exact (key i j hi hj h (by omega) (by omega)).elim
  · exact h
  · exact (key j i hj hi h (by omega) (by omega)).elim
theorem link_edge {n : GNet} (hn : isNet n = true) {j u v : Nat} (h : edgeN n j u v) : link n (u : Int) (v : Int) = some j := by
  obtain ⟨x, hx, hxe⟩ := h
  unfold link
  obtain ⟨i, hi⟩ := firstAt_some (t := fun x : GTower => (decide (x.1 = (u : Int)) && decide (x.2.1 = (v : Int))) || (decide (x.1 = (v : Int)) && decide (x.2.1 = (u : Int)))) 0 (List.mem_of_getElem? hx) (by
    simp only [Bool.or_eq_true, Bool.and_eq_true, decide_eq_true_eq]
    exact hxe)
  rw [hi]
  obtain ⟨y, y1, _, y3⟩ := firstAt_get _ _ _ hi
  rw [Nat.sub_zero] at y1
  simp only [Bool.or_eq_true, Bool.and_eq_true, decide_eq_true_eq] at y3
  exact congrArg some (edge_one hn ⟨y, y1, y3⟩ ⟨x, hx, hxe⟩)
theorem edge_link {n : GNet} {j u v : Nat} (h : link n (u : Int) (v : Int) = some j) : edgeN n j u v := by
  unfold link at h
  obtain ⟨y, y1, _, y3⟩ := firstAt_get _ _ _ h
  rw [Nat.sub_zero] at y1
  simp only [Bool.or_eq_true, Bool.and_eq_true, decide_eq_true_eq] at y3
  exact ⟨y, y1, y3⟩
def befC (n : GNet) (l : List GTower) (ts : List Int) (q k : Nat) : Bool := match link n (k : Int) (q : Int) with
  | some j => decide (0 ≤ tm ts k) && decide (ovZ n l j (tm ts k) = tm ts q)
  | none => false
noncomputable def wayF (n : GNet) (l : List GTower) : (List Int) × (List Int) × Int × Int → Option (((List Int) × (List Int) × Int × Int) ⊕ (((List Int) × (List Int) × Int))) := fun st7 =>
 bif (decide (st7.2.2.2 < (n.1.length : Int))) then
 (i_linkIndex n st7.2.2.2 st7.2.2.1).bind fun r8 =>
 (bif (decide (0 ≤ r8)) then
 bif decide (0 ≤ st7.2.2.2) && decide (st7.2.2.2 < (st7.1.length : Int)) then
 (st7.1[(Int.toNat st7.2.2.2)]?).bind fun e9 =>
 some (decide (0 ≤ e9))
 else
 none
 else
 some false).bind fun c10 =>
 (bif c10 then
 bif decide (0 ≤ st7.2.2.2) && decide (st7.2.2.2 < (st7.1.length : Int)) then
 (st7.1[(Int.toNat st7.2.2.2)]?).bind fun e11 =>
 (i_goOver n l r8 e11).bind fun r12 =>
 bif decide (0 ≤ st7.2.2.1) && decide (st7.2.2.1 < (st7.1.length : Int)) then
 (st7.1[(Int.toNat st7.2.2.1)]?).bind fun e13 =>
 some (decide (r12 = e13))
 else
 none
 else
 none
 else
 some false).bind fun c14 =>
 bif c14 then
 some (.inr (st7.1, st7.2.1, st7.2.2.2))
 else
 some (.inl (st7.1, st7.2.1, st7.2.2.1, (w64 (st7.2.2.2 + 1))))
 else
 some (.inr (st7.1, st7.2.1, st7.2.2.1))
noncomputable def wayG (n : GNet) (l : List GTower) (a : Int) : (List Int) × (List Int) × Int → Option (((List Int) × (List Int) × Int) ⊕ List Int) := fun st5 =>
 bif (!decide (st5.2.2 = a)) then
 (loopE (wayF n l) (st5.1, st5.2.1, st5.2.2, 0)).bind fun o15 =>
 bif decide (List.length o15.2.1 + List.length [o15.2.2] ≤ lim) then
 some (.inl (o15.1, (o15.2.1 ++ [o15.2.2]), o15.2.2))
 else
 none
 else
 some (.inr st5.2.1)
noncomputable def wayS (n : GNet) (l : List GTower) (a : Int) : Int × (List Int) × (List Int) → Option ((Int × (List Int) × (List Int)) ⊕ List Int) := fun st5 =>
 bif (!decide (st5.1 = a)) then
 (s_roBefore n l st5.2.1 st5.1).bind fun r6 =>
 bif decide (List.length [r6] + List.length st5.2.2 ≤ lim) then
 some (.inl (r6, st5.2.1, ([r6] ++ st5.2.2)))
 else
 none
 else
 some (.inr st5.2.2)
theorem way_i_def (n : GNet) (l : List GTower) (a b t : Int) : i_WayThrough n l a b t = (i_wayAsked n l a b t).bind fun r1 =>
 bif (!r1) then
 some ([], false)
 else
 (i_arrivals n l a t).bind fun r2 =>
 bif decide (0 ≤ b) && decide (b < (r2.length : Int)) then
 (r2[(Int.toNat b)]?).bind fun e3 =>
 bif (decide (e3 < 0)) then
 some ([], false)
 else
 (loopE (wayG n l a) (r2, [b], b)).bind fun o16 =>
 (slices_Reverse_int o16).bind fun r17 =>
 some (r17, true)
 else
 none := rfl
theorem way_s_def (n : GNet) (l : List GTower) (a b t : Int) : s_WayThrough n l a b t = (s_roAsked n l a b t).bind fun r1 =>
 bif (!r1) then
 some ([], false)
 else
 (s_roFirst n l a t).bind fun r2 =>
 bif decide (0 ≤ b) && decide (b < (r2.length : Int)) then
 (r2[(Int.toNat b)]?).bind fun e3 =>
 bif (decide (e3 < 0)) then
 some ([], false)
 else
 (loopE (wayS n l a) (b, r2, [b])).bind fun o7 =>
 some (o7, true)
 else
 none := rfl
section
variable {n : GNet} {l : List GTower} {a : Nat} {t : Int} (hn : isNet n = true) (hl : areFogs n.2.1.length l = true)
include hn hl
theorem asked_i (a b t : Int) : i_wayAsked n l a b t = some (inB a 0 ((n.1.length : Int) - 1) && (inB b 0 ((n.1.length : Int) - 1) && inB t 0 10000)) := by
  have hs := net_small hn
  have hz := net_sz hn
  unfold i_wayAsked i_isTower
  simp only [i_isNet hs.fine, hn, Option.bind_some, cond_true, within_eq, i_areFogsX hs.fine (fogs_len hl), hl]
  rw [w64_of (by omega) (by omega)]
  cases inB a 0 ((n.1.length : Int) - 1) <;> cases inB b 0 ((n.1.length : Int) - 1) <;> cases inB t 0 10000 <;> rfl
theorem asked_s (a b t : Int) : s_roAsked n l a b t = some (inB a 0 ((n.1.length : Int) - 1) && (inB b 0 ((n.1.length : Int) - 1) && inB t 0 10000)) := by
  have hs := net_small hn
  have hz := net_sz hn
  unfold s_roAsked s_roGood s_roTower s_fgTime
  simp only [s_isNet hs.fine, hn, Option.bind_some, cond_true, l1In_eq, s_areFogs hs.fine (fogs_len hl), hl]
  rw [w64_of (by omega) (by omega)]
  cases inB a 0 ((n.1.length : Int) - 1) <;> cases inB b 0 ((n.1.length : Int) - 1) <;> cases inB t 0 10000 <;> rfl
variable (ha : a < n.1.length) (ht : 0 ≤ t ∧ t ≤ 10000)
include ha ht
theorem firstArr_same (b t' : Int) (hb : t' = t) : ∃ r, i_FirstArrival n l (a : Int) b t' = some r ∧ s_FirstArrival n l (a : Int) b t' = some r ∧ 0 ≤ r.1 ∧ r.1 ≤ 10960 := by
  subst hb
  unfold i_FirstArrival s_FirstArrival
  simp only [asked_i hn hl, asked_s hn hl, Option.bind_some]
  cases hask : (inB (a : Int) 0 ((n.1.length : Int) - 1) && (inB b 0 ((n.1.length : Int) - 1) && inB t' 0 10000)) with
  | false => exact ⟨(0, false), rfl, rfl, by simp, by simp⟩
  | true =>
    simp only [inB, Bool.and_eq_true, decide_eq_true_eq] at hask
    obtain ⟨q, rfl⟩ : ∃ q : Nat, b = (q : Int) := ⟨b.toNat, by omega⟩
    obtain ⟨us, h1, h2, h3, h4⟩ := arrivals_same hn hl ha ht
    have hlen : us.length = n.1.length := h3.len
    have hq : q < n.1.length := by omega
    have g : (decide ((0 : Int) ≤ (q : Int)) && decide ((q : Int) < (us.length : Int))) = true := by simp; omega
    have t1 := Arr.tm_get (ts := us) (v := q) (by omega)
    have hle : tm us q ≤ 10960 := h3.le (v := q) hq
    have hneg : tm us q < 0 → tm us q = -1 := h3.neg q hq
    simp only [Bool.not_true, cond_false, h1, h2, Option.bind_some, g, cond_true, Int.toNat_natCast, t1, most_eq]
    by_cases h0 : tm us q < 0
    · rw [decide_eq_true h0, decide_eq_false (by omega), hneg h0]
      exact ⟨(0, false), rfl, rfl, by simp, by simp⟩
    · rw [decide_eq_false h0, decide_eq_true (by omega)]
      exact ⟨(tm us q, true), rfl, by rw [Int.max_eq_left (by omega)], by show 0 ≤ tm us q; omega, hle⟩
section
variable {ts : List Int} (I : Arr.Inv (graph n l a t hn hl ha ht) ts) (C : Arr.Closed (graph n l a t hn hl ha ht) ts)
include I C
theorem befC_iff {q k : Nat} : befC n l ts q k = true ↔ ∃ j, edgeN n j k q ∧ 0 ≤ tm ts k ∧ ovZ n l j (tm ts k) = tm ts q := by
  unfold befC
  constructor
  · intro h
    cases hk : link n (k : Int) (q : Int) with
    | none => rw [hk] at h; cases h
    | some j =>
      rw [hk] at h
      simp only [Bool.and_eq_true, decide_eq_true_eq] at h
      exact ⟨j, edge_link hk, h⟩
  · rintro ⟨j, h1, h2, h3⟩
    rw [link_edge hn h1]
    simp [h2, h3]
theorem bef_find {q : Nat} (hq : q < n.1.length) (h0 : 0 ≤ tm ts q) (hqa : q ≠ a) : ∃ K, K < n.1.length ∧ befC n l ts q K = true ∧ (∀ k, k < K → befC n l ts q k = false) ∧ 0 ≤ tm ts K ∧ tm ts K < tm ts q := by
  obtain ⟨j, u, e, p1, p2⟩ := Arr.pred I C (v := q) hq hqa h0
  have hb : befC n l ts q u = true := (befC_iff hn hl ha ht I C).2 ⟨j, e, p1, p2⟩
  obtain ⟨K, hK⟩ := firstAt_some (t := befC n l ts q) (l := List.range n.1.length) 0 (List.mem_range.2 ((graph n l a t hn hl ha ht).he _ _ _ e).1) hb
  obtain ⟨x, x1, _, x3⟩ := firstAt_get _ _ _ hK
  rw [Nat.sub_zero] at x1
  have hKl := firstAt_lt _ _ _ _ hK
  rw [List.length_range, Nat.zero_add] at hKl
  rw [List.getElem?_range hKl] at x1
  cases x1
  refine ⟨K, hKl, x3, fun k hk => ?_, ?_⟩
  · have hn' := (firstAt_take (befC n l ts q) (List.range n.1.length) K 0 K (by rw [List.getElem?_range hKl]) x3).1 (by rw [Nat.zero_add]; exact hK)
    exact firstAt_no hn' k (by
      refine List.mem_of_getElem? (i := k) ?_
      rw [List.getElem?_take_of_lt hk, List.getElem?_range (by omega)])
  · obtain ⟨j', e', c1, c2⟩ := (befC_iff hn hl ha ht I C).1 x3
    have := (graph n l a t hn hl ha ht).up j' K q (tm ts K) e'
    have this : tm ts K < ovZ n l j' (tm ts K) := this
    exact ⟨c1, by omega⟩
theorem wayF_ok {q K : Nat} {way : List Int} (hq : q < n.1.length) (hK : K < n.1.length) (h1 : befC n l ts q K = true) (h2 : ∀ k, k < K → befC n l ts q k = false) : ∀ (d k : Nat), k + d = K → loopE (wayF n l) (ts, way, (q : Int), (k : Int)) = some (ts, way, (K : Int)) := by
  have hs := net_small hn
  have hlen : ts.length = n.1.length := I.len
  have step : ∀ k, k < n.1.length → wayF n l (ts, way, (q : Int), (k : Int)) = some (bif befC n l ts q k then .inr (ts, way, (k : Int)) else .inl (ts, way, (q : Int), (k : Int) + 1)) := fun k hk => by
    have hk1 := up (show n.1.length ≤ maxLen by have := net_sz hn; unfold maxLen; omega) hk
    have g1 : (decide ((0 : Int) ≤ (k : Int)) && decide ((k : Int) < (ts.length : Int))) = true := by simp; omega
    have g2 : (decide ((0 : Int) ≤ (q : Int)) && decide ((q : Int) < (ts.length : Int))) = true := by simp; omega
    have t1 := Arr.tm_get (ts := ts) (v := k) (by omega)
    have t2 := Arr.tm_get (ts := ts) (v := q) (by omega)
    have hle : tm ts k ≤ 10960 := I.le (v := k) hk
    unfold wayF befC
    simp only [at_lt hk, cond_true, i_link hs.fine hn, Option.bind_some, hk1]
    cases hlk : link n (k : Int) (q : Int) with
    | none => rfl
    | some j =>
      have he := edge_link hlk
      have hj : j < n.2.1.length := by
        obtain ⟨x, hx, _⟩ := he
        exact (List.getElem?_eq_some_iff.1 hx).1
      simp only [place, decide_eq_true (show (0 : Int) ≤ (j : Int) by omega), cond_true, g1, Int.toNat_natCast, t1, Option.bind_some]
      by_cases h0 : 0 ≤ tm ts k
      · rw [decide_eq_true h0]
        simp only [cond_true, over_i hn hl hj h0 (by omega), Option.bind_some, g2, t2, Bool.true_and]
        cases decide (ovZ n l j (tm ts k) = tm ts q) <;> rfl
      · rw [decide_eq_false h0]
        rfl
  intro d
  induction d with
  | zero =>
    intro k e
    obtain rfl : k = K := by omega
    exact loopE_done (by rw [step k hK, h1]; rfl)
  | succ d ih =>
    intro k e
    rw [loopE_step (a' := (ts, way, (q : Int), (k : Int) + 1)) (by rw [step k (by omega), h2 k (by omega)]; rfl)]
    have := ih (k + 1) (by omega)
    rw [show ((k + 1 : Nat) : Int) = (k : Int) + 1 by omega] at this
    exact this
theorem before_s {q K : Nat} (hq : q < n.1.length) (h1 : befC n l ts q K = true) (h2 : ∀ k, k < K → befC n l ts q k = false) : s_roBefore n l ts (q : Int) = some (K : Int) := by
  have hsz := net_sz hn
  have hlen : ts.length = n.1.length := I.len
  unfold s_roBefore
  obtain ⟨J, eJ, cJ1, cJ2⟩ := (befC_iff hn hl ha ht I C).1 h1
  have hKl := ((graph n l a t hn hl ha ht).he _ _ _ eJ).1
  have low : ∀ j w, edgeN n j w q → 0 ≤ tm ts w → ovZ n l j (tm ts w) = tm ts q → K ≤ w := fun j w e c1 c2 => by
    by_cases h : w < K
    · have := h2 w h
      rw [(befC_iff hn hl ha ht I C).2 ⟨j, e, c1, c2⟩] at this
      cases this
    · omega
  have := one_loop (n := n.2.1.length) (f := (fun (st2 : Int × Int) => (
 bif (decide (st2.2 < (n.2.1.length : Int))) then
 (idx n.2.1 st2.2).bind fun e3 =>
 (s_roOther e3 (q : Int)).bind fun r4 =>
 (bif (decide (0 ≤ r4)) then
 (idx ts r4).bind fun e5 =>
 some (decide (0 ≤ e5))
 else
 some false).bind fun c6 =>
 (bif c6 then
 (idx ts r4).bind fun e7 =>
 (s_roOver n l st2.2 e7).bind fun r8 =>
 (idx ts (q : Int)).bind fun e9 =>
 some (decide (r8 = e9))
 else
 some false).bind fun c10 =>
 (bif c10 then
 (bif (decide (st2.1 < 0)) then
 some true
 else
 some (decide (r4 < st2.1))).bind fun c11 =>
 some c11
 else
 some false).bind fun c12 =>
 bif c12 then
 some (.inl (r4, (w64 (st2.2 + 1))))
 else
 some (.inl (st2.1, (w64 (st2.2 + 1))))
 else
 some (.inr st2.1) : Option ((Int × Int) ⊕ (Int))))) (fun j st => st.2 = (j : Int) ∧ ((st.1 = -1 ∧ J ≥ j) ∨ ((K : Int) ≤ st.1 ∧ (J < j → st.1 = (K : Int))))) (fun y => y = (K : Int)) ?_ ?_ n.2.1.length 0 (-1, 0) (by omega) ⟨rfl, .inl ⟨rfl, Nat.zero_le _⟩⟩
  · obtain ⟨y, y1, y2⟩ := this
    subst y2
    exact bind_eq y1 rfl
  · rintro j ⟨s, k⟩ hj ⟨hk, hs⟩
    obtain rfl : k = (j : Int) := hk
    have hs : (s = -1 ∧ J ≥ j) ∨ ((K : Int) ≤ s ∧ (J < j → s = (K : Int))) := hs
    left
    obtain ⟨x, hx⟩ : ∃ x, n.2.1[j]? = some x := ⟨_, List.getElem?_eq_getElem hj⟩
    have hb := link_at hn hx
    have hj1 := up (show n.2.1.length ≤ maxLen by unfold maxLen; omega) hj
    have t2 := Arr.tm_get (ts := ts) (v := q) (by omega)
    have hJj : J = j → edgeN n j K q := fun e => e ▸ eJ
    have hek : ∀ w, edgeN n j w q → (x.1 = (w : Int) ∧ x.2.1 = (q : Int)) ∨ (x.1 = (q : Int) ∧ x.2.1 = (w : Int)) := by
      rintro w ⟨y, hy, h⟩
      rw [hx] at hy
      cases hy
      exact h
    have skip : (∀ w, edgeN n j w q → 0 ≤ tm ts w → ¬ ovZ n l j (tm ts w) = tm ts q) → (s = -1 ∧ J ≥ j + 1) ∨ ((K : Int) ≤ s ∧ (J < j + 1 → s = (K : Int))) := fun h => by
      have hne : J ≠ j := fun e => h K (hJj e) cJ1 (by rw [← e]; exact cJ2)
      rcases hs with ⟨s1, s2⟩ | ⟨s1, s2⟩
      · exact .inl ⟨s1, by omega⟩
      · exact .inr ⟨s1, fun h => s2 (by omega)⟩
    by_cases hends : x.1 = (q : Int) ∨ x.2.1 = (q : Int)
    · obtain ⟨v, hv, e, hvl⟩ : ∃ v : Nat, (if (q : Int) = x.1 then x.2.1 else if (q : Int) = x.2.1 then x.1 else -1) = (v : Int) ∧ edgeN n j v q ∧ v < n.1.length := by
        by_cases h : (q : Int) = x.1
        · exact ⟨x.2.1.toNat, by rw [if_pos h]; omega, ⟨x, hx, .inr ⟨h.symm, by omega⟩⟩, by omega⟩
        · have h' : (q : Int) = x.2.1 := by omega
          exact ⟨x.1.toNat, by rw [if_neg h, if_pos h']; omega, ⟨x, hx, .inl ⟨by omega, h'.symm⟩⟩, by omega⟩
      have hw1 : ∀ w, edgeN n j w q → w = v := fun w hw => by rcases hek w hw with h1 | h1 <;> rcases hek v e with h3 | h3 <;> omega
      have t1 := Arr.tm_get (ts := ts) (v := v) (by omega)
      have hle : tm ts v ≤ 10960 := I.le (v := v) hvl
      simp only [at_lt hj, cond_true, idx_get, hx, Option.bind_some, other_eq, hv, decide_eq_true (show (0 : Int) ≤ (v : Int) by omega), t1, hj1]
      by_cases h0 : 0 ≤ tm ts v
      · rw [decide_eq_true h0]
        simp only [cond_true, over_s hn hl hj h0 (by omega), Option.bind_some, t2]
        by_cases h3 : ovZ n l j (tm ts v) = tm ts q
        · have hKv := low j v e h0 h3
          rw [decide_eq_true h3]
          have hgood : J = j → v = K := fun eq => (hw1 K (hJj eq)).symm
          have hless : J < j → s = (K : Int) := fun h => by rcases hs with ⟨_, s2⟩ | ⟨_, s2⟩ <;> first | omega | exact s2 h
          by_cases hneg : s < 0
          · rw [decide_eq_true hneg]
            refine ⟨((v : Int), (j : Int) + 1), rfl, by show (j : Int) + 1 = ((j + 1 : Nat) : Int); omega, .inr ⟨by show (K : Int) ≤ (v : Int); omega, fun hJ => ?_⟩⟩
            show (v : Int) = (K : Int)
            by_cases eq : J = j
            · rw [hgood eq]
            · have := hless (by omega); omega
          · rw [decide_eq_false hneg]
            have hs' : (K : Int) ≤ s ∧ (J < j → s = (K : Int)) := by rcases hs with ⟨s1, _⟩ | h
                                                                     · omega
                                                                     · exact h
            by_cases hlt : (v : Int) < s
            · rw [decide_eq_true hlt]
              refine ⟨((v : Int), (j : Int) + 1), rfl, by show (j : Int) + 1 = ((j + 1 : Nat) : Int); omega, .inr ⟨by show (K : Int) ≤ (v : Int); omega, fun hJ => ?_⟩⟩
              show (v : Int) = (K : Int)
              by_cases eq : J = j
              · rw [hgood eq]
              · have := hs'.2 (by omega); omega
            · rw [decide_eq_false hlt]
              refine ⟨(s, (j : Int) + 1), rfl, by show (j : Int) + 1 = ((j + 1 : Nat) : Int); omega, .inr ⟨hs'.1, fun hJ => ?_⟩⟩
              show s = (K : Int)
              by_cases eq : J = j
              · have := hgood eq; omega
              · exact hs'.2 (by omega)
        · rw [decide_eq_false h3]
          refine ⟨(s, (j : Int) + 1), rfl, by show (j : Int) + 1 = ((j + 1 : Nat) : Int); omega, skip fun w hw _ => ?_⟩
          rw [hw1 w hw]
          exact h3
      · rw [decide_eq_false h0]
        refine ⟨(s, (j : Int) + 1), rfl, by show (j : Int) + 1 = ((j + 1 : Nat) : Int); omega, skip fun w hw hp => ?_⟩
        rw [hw1 w hw] at hp
        exact absurd hp h0
    · have hv : (if (q : Int) = x.1 then x.2.1 else if (q : Int) = x.2.1 then x.1 else -1) = -1 := by rw [if_neg (by omega), if_neg (by omega)]
      refine ⟨(s, (j : Int) + 1), ?_, by show (j : Int) + 1 = ((j + 1 : Nat) : Int); omega, skip fun w hw _ => by rcases hek w hw with h1 | h1 <;> omega⟩
      simp only [at_lt hj, cond_true, idx_get, hx, Option.bind_some, other_eq, hv, hj1]
      rfl
  · rintro ⟨s, k⟩ ⟨hk, hs⟩
    obtain rfl : k = (n.2.1.length : Int) := hk
    have hJ : J < n.2.1.length := by
      obtain ⟨x, hx, _⟩ := eJ
      exact (List.getElem?_eq_some_iff.1 hx).1
    have hs : (s = -1 ∧ J ≥ n.2.1.length) ∨ ((K : Int) ≤ s ∧ (J < n.2.1.length → s = (K : Int))) := hs
    refine ⟨s, by simp, ?_⟩
    rcases hs with ⟨_, s2⟩ | ⟨_, s2⟩
    · omega
    · exact s2 hJ
theorem ways_both : ∀ (m q : Nat) (way out : List Int), (tm ts q).toNat ≤ m → q < n.1.length → 0 ≤ tm ts q → way.length + m ≤ 20000 → out.length + m ≤ 20000 →
    ∃ P : List Int, loopE (wayG n l (a : Int)) (ts, way, (q : Int)) = some (way ++ P) ∧ loopE (wayS n l (a : Int)) ((q : Int), ts, out) = some (P.reverse ++ out) ∧ P.length ≤ m ∧ ∀ x ∈ P, 0 ≤ x ∧ x ≤ 16 := by
  have hsz := net_sz hn
  intro m
  induction m with
  | zero =>
    intro q way out hm hq h0 hw ho
    by_cases hqa : q = a
    · subst hqa
      refine ⟨[], loopE_done ?_, loopE_done ?_, Nat.le_refl _, fun _ h => nomatch h⟩
      · unfold wayG; simp
      · unfold wayS; simp
    · obtain ⟨K, _, _, _, c1, c2⟩ := bef_find hn hl ha ht I C hq h0 hqa
      omega
  | succ m ih =>
    intro q way out hm hq h0 hw ho
    by_cases hqa : q = a
    · subst hqa
      refine ⟨[], loopE_done ?_, loopE_done ?_, Nat.zero_le _, fun _ h => nomatch h⟩
      · unfold wayG; simp
      · unfold wayS; simp
    · obtain ⟨K, k1, k2, k3, c1, c2⟩ := bef_find hn hl ha ht I C hq h0 hqa
      obtain ⟨P, p1, p2, p3, p4⟩ := ih K (way ++ [(K : Int)]) ((K : Int) :: out) (by omega) k1 c1 (by simp; omega) (by simp; omega)
      have hne : decide ((q : Int) = (a : Int)) = false := decide_eq_false (by omega)
      refine ⟨(K : Int) :: P, ?_, ?_, by simp; omega, fun x hx => ?_⟩
      · rw [loopE_step (a' := (ts, way ++ [(K : Int)], (K : Int))) ?_, p1]
        · simp
        · unfold wayG
          have := wayF_ok hn hl ha ht I C (way := way) hq k1 k2 k3 K 0 (by omega)
          rw [show ((0 : Nat) : Int) = 0 from rfl] at this
          simp only [hne, Bool.not_false, cond_true, this, Option.bind_some]
          rw [lim_ok (by simp; omega)]
          rfl
      · rw [loopE_step (a' := ((K : Int), ts, (K : Int) :: out)) ?_, p2]
        · simp
        · unfold wayS
          simp only [hne, Bool.not_false, cond_true, before_s hn hl ha ht I C hq k2 k3, Option.bind_some]
          rw [lim_ok (by simp; omega)]
          rfl
      · rcases List.mem_cons.1 hx with rfl | hx
        · omega
        · exact p4 x hx
end
theorem wayThrough_same (b : Int) : ∃ r, i_WayThrough n l (a : Int) b t = some r ∧ s_WayThrough n l (a : Int) b t = some r ∧ (r.2 = true → r.1 ≠ []) ∧ r.1.length ≤ 20000 ∧ ∀ x ∈ r.1, 0 ≤ x ∧ x ≤ 16 := by
  have hsz := net_sz hn
  rw [way_i_def, way_s_def, asked_i hn hl, asked_s hn hl]
  simp only [Option.bind_some]
  cases hask : (inB (a : Int) 0 ((n.1.length : Int) - 1) && (inB b 0 ((n.1.length : Int) - 1) && inB t 0 10000)) with
  | false => exact ⟨([], false), rfl, rfl, (fun h => by cases h), by simp, fun _ h => nomatch h⟩
  | true =>
    simp only [inB, Bool.and_eq_true, decide_eq_true_eq] at hask
    obtain ⟨q, rfl⟩ : ∃ q : Nat, b = (q : Int) := ⟨b.toNat, by omega⟩
    obtain ⟨us, h1, h2, h3, h4⟩ := arrivals_same hn hl ha ht
    have hlen : us.length = n.1.length := h3.len
    have hq : q < n.1.length := by omega
    have g : (decide ((0 : Int) ≤ (q : Int)) && decide ((q : Int) < (us.length : Int))) = true := by simp; omega
    have t1 := Arr.tm_get (ts := us) (v := q) (by omega)
    have hle : tm us q ≤ 10960 := h3.le (v := q) hq
    simp only [Bool.not_true, cond_false, h1, h2, Option.bind_some, g, cond_true, Int.toNat_natCast, t1]
    by_cases h0 : tm us q < 0
    · rw [decide_eq_true h0]
      exact ⟨([], false), rfl, rfl, (fun h => by cases h), by simp, fun _ h => nomatch h⟩
    · rw [decide_eq_false h0]
      obtain ⟨P, p1, p2, p3, p4⟩ := ways_both hn hl ha ht h3 h4 _ q [(q : Int)] [(q : Int)] (Nat.le_refl _) hq (by omega) (by simp; omega) (by simp; omega)
      simp only [cond_false, p1, p2, Option.bind_some]
      rw [reverse_i (by simp; omega)]
      refine ⟨(P.reverse ++ [(q : Int)], true), by simp, by simp, by simp, by simp; omega, fun x hx => ?_⟩
      have hx : x ∈ P.reverse ++ [(q : Int)] := hx
      simp only [List.mem_append, List.mem_reverse, List.mem_singleton] at hx
      rcases hx with hx | rfl
      · exact p4 x hx
      · omega
end
end Go.Proofs.YtkemmodgpafkmaaGreatDoor.Sh
