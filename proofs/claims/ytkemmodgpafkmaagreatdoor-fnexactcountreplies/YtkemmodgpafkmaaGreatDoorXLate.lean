/-
  A stretch with one append that turns an object, beside operations that read their operands and nothing else.
-/
import Derived.Test.YtkemmodgpafkmaaGreatDoorXReg
namespace Go.Ab
open Go Go.RowKit
section
variable {P : Program} {E : Env} {S : Blk} {w w0 : World} {m : OMap} {B : Nat} {M0 : Blk}
structure LateOk (A : List Nat) (i : Nat) (bf : List Oper) (L : Oper) (af : List Oper) : Prop where
  anc : ∀ j, j < bf.length → Nat.testBit (A.getD (i + bf.length) 0) (i + j) = true
  pure : ∀ (j : Nat) (o : Oper), af[j]? = some o → pureOp o.op = true
  noL : ∀ (j : Nat) (o : Oper), af[j]? = some o → ∀ d, L.dst = some d → .tmp d ∉ o.op.operands
  Lno : ∀ (j : Nat) (o : Oper), af[j]? = some o → ∀ d, o.dst = some d → .tmp d ∉ L.op.operands
  war : ∀ (j k : Nat) (o o' : Oper) (d : Nat), af[j]? = some o → af[k]? = some o' → j ≤ k → o'.dst = some d → .tmp d ∉ o.op.operands
  lop : isAppend L.op = true
theorem lateSplit_spec : ∀ {g : List Oper} {p : List Oper × Oper × List Oper}, lateSplit g = some p → g = p.1 ++ p.2.1 :: p.2.2 ∧ isAppend p.2.1.op = true ∧ ∀ o ∈ p.2.2, pureOp o.op = true
  | [], _, h => by cases h
  | o :: r, p, h => by
    unfold lateSplit at h
    cases ha : isAppend o.op with
    | true =>
      simp only [ha, cond_true] at h
      cases hc : (r.isEmpty || !(r.all fun q => pureOp q.op)) with
      | true => rw [hc] at h; cases h
      | false =>
        rw [hc] at h
        cases h
        simp only [Bool.or_eq_false_iff, Bool.not_eq_false', List.all_eq_true] at hc
        exact ⟨rfl, ha, hc.2⟩
    | false =>
      simp only [ha, cond_false] at h
      cases hr : lateSplit r with
      | none => rw [hr] at h; cases h
      | some q =>
        rw [hr] at h
        cases h
        have := lateSplit_spec hr
        exact ⟨by simp [← this.1], this.2⟩
theorem dstNot_spec {o o' : Oper} (h : dstNot o (tmpsIn o') = true) : ∀ d, o.dst = some d → .tmp d ∉ o'.op.operands := by
  intro d hd hm
  unfold dstNot at h
  rw [hd] at h
  simp only [Bool.not_eq_true', List.any_eq_false] at h
  refine h d (List.mem_filterMap.2 ⟨.tmp d, Array.mem_toList_iff.2 hm, rfl⟩) ?_
  simp
theorem noWar_spec [Tabs] : ∀ {l : List Oper}, noWar l = true → ∀ (j k : Nat) (o o' : Oper) (d : Nat), l[j]? = some o → l[k]? = some o' → j ≤ k → o'.dst = some d → .tmp d ∉ o.op.operands
  | [], _, j, _, _, _, _, h, _, _, _ => by simp at h
  | x :: r, h, j, k, o, o', d, hj, hk, hle, hd => by
    simp only [noWar, Bool.and_eq_true, List.all_eq_true] at h
    cases j with
    | zero =>
      simp only [List.getElem?_cons_zero, Option.some.injEq] at hj
      subst hj
      exact dstNot_spec (h.1 o' (List.mem_of_getElem? hk)) d hd
    | succ j =>
      cases k with
      | zero => omega
      | succ k => exact noWar_spec h.2 j k o o' d (by simpa using hj) (by simpa using hk) (by omega) hd
theorem lateOk_spec [Tabs] {A : List Nat} {i : Nat} {g : List Oper} {p : List Oper × Oper × List Oper} (hs : lateSplit g = some p) (h : lateOk A i (some p) = true) : LateOk A i p.1 p.2.1 p.2.2 := by
  obtain ⟨h1, h2, h3⟩ := lateSplit_spec hs
  simp only [lateOk, Bool.and_eq_true, List.all_eq_true] at h
  obtain ⟨⟨k1, k2⟩, k3⟩ := h
  exact ⟨fun j hj => k1 j (List.mem_range.2 hj), fun j o hj => h3 o (List.mem_of_getElem? hj), fun j o hj => dstNot_spec (k2 o (List.mem_of_getElem? hj)).1, fun j o hj => dstNot_spec (k2 o (List.mem_of_getElem? hj)).2, noWar_spec k3, h2⟩
theorem not_select {o : Oper} (h : isAppend o.op = true ∨ pureOp o.op = true) : ∀ cs b, o.op ≠ .select cs b := by
  intro cs b e
  rw [e] at h
  rcases h with h | h <;> cases h
structure Agr (T : Nat → Prop) (a a' : Act) : Prop where
  size : a.tmps.size = a'.tmps.size
  defers : a.defers = a'.defers
  at_ : ∀ t, ¬ T t → a.tmps.getD t undef = a'.tmps.getD t undef
theorem getD_put {a : Act} {d : Option Tmp} {v : Value} (t : Nat) : (a.put d v).tmps.getD t undef = if d = some t then (if t < a.tmps.size then v else undef) else a.tmps.getD t undef := by
  cases d with
  | none => simp [Act.put]
  | some d =>
    simp only [Act.put, Array.getD_eq_getD_getElem?, Array.getElem?_setIfInBounds, Option.some.injEq]
    by_cases e : d = t
    · subst e
      by_cases h : d < a.tmps.size <;> simp [h]
    · simp [e]
theorem size_put (a : Act) (d : Option Tmp) (v : Value) : (a.put d v).tmps.size = a.tmps.size := by cases d <;> simp [Act.put]
theorem defers_put (a : Act) (d : Option Tmp) (v : Value) : (a.put d v).defers = a.defers := by cases d <;> rfl
theorem Agr.put [Tabs] {T : Nat → Prop} {a a' : Act} (h : Agr T a a') (d : Option Tmp) (v : Value) : Agr T (a.put d v) (a'.put d v) := by
  refine ⟨by rw [size_put, size_put, h.size], by rw [defers_put, defers_put, h.defers], fun t ht => ?_⟩
  rw [getD_put, getD_put, h.size, h.at_ t ht]
theorem Agr.defer [Tabs] {T : Nat → Prop} {a a' : Act} (h : Agr T a a') (x : Deferred) (d : Option Tmp) (v : Value) : Agr T ({ a with defers := x :: a.defers }.put d v) ({ a' with defers := x :: a'.defers }.put d v) := by
  have q : Agr T { a with defers := x :: a.defers } { a' with defers := x :: a'.defers } := ⟨h.size, congrArg (x :: ·) h.defers, h.at_⟩
  exact q.put d v
theorem Agr.eval {T : Nat → Prop} {a a' : Act} (h : Agr T a a') {x : Operand} (hx : ∀ t, x = .tmp t → ¬ T t) : a.eval x = a'.eval x := by
  cases x with
  | tmp t => exact h.at_ t (hx t rfl)
  | _ => rfl
theorem wp_swap [Tabs] {o : Oper} {a a' : Act} {T : Nat → Prop} {next : Act → World → Prop} {Q : Exit → Act → World → Prop} (hs : ∀ cs b, o.op ≠ .select cs b) (ha : Agr T a' a) (he : ∀ t, .tmp t ∈ o.op.operands → ¬ T t)
    (h : o.wp P a w (fun a2 w2 => ∀ a3, Agr T a3 a2 → next a3 w2) (fun e _ w2 => ∀ a3, Q e a3 w2)) : o.wp P a' w next Q := by
  unfold Oper.wp at *
  rw [execOp_congr (ρ := a'.eval) (ρ' := a.eval) o hs fun x hx => ha.eval fun t ht => he t (ht ▸ hx)]
  generalize (execOp a.eval o).run P w = r at *
  cases r with
  | ok n w' =>
    cases n <;> simp only [Oper.upon] at h ⊢ <;>
      first
        | exact h _ (ha.put _ _)
        | exact h _ (Agr.defer ha _ _ _)
        | exact Calls.mono h (fun e w'' he => by cases e <;> first | exact he _ (ha.put _ _) | exact he _ | exact (let ⟨a2, w2, hq⟩ := he; ⟨a2, w2, hq a2⟩))
        | exact Rows.mono h (fun _ _ he => he _ (ha.put _ _))
  | halt x w' => cases x <;> simp only [Oper.upon] at h ⊢ <;> first | exact h _ | exact h
theorem skipSt [Tabs] {lb la : Tr} {x : Oper × AVal × AHeap} (M N : Nat → Bool) (s : AS) (h0 : M lb.length = false) (h1 : ∀ j, j < lb.length → N j = M j) (h2 : ∀ j, lb.length ≤ j → N j = M (j + 1)) : subSt M (lb ++ x :: la) s = subSt N (lb ++ la) s := by
  rw [subSt_append, subSt_append, subSt_congr lb M N s fun j hj => (h1 j hj).symm]
  simp only [subSt]
  rw [Nat.zero_add, h0]
  simp only [cond_false]
  refine subSt_congr la _ _ _ fun j _ => ?_
  rw [h2 _ (Nat.le_add_left _ _)]
  congr 1
  omega
theorem ghost [Tabs] (hE : Good P E) {bf af : List Oper} {L : Oper} {A : List Nat} {i0 : Nat} (hl : LateOk A i0 bf L af) {l : Tr} (lg : l.map (·.1) = bf ++ L :: af) (Ap : Apart l) {s : AS}
    (lq : ∀ (j : Nat) (o : Oper) (v : AVal) (os : AHeap), j ≠ bf.length → l[j]? = some (o, v, os) → Quiet E (subSt (fun i => decide (i < j) && decide (i ≠ bf.length)) l s) o v os)
    (hagr : ∀ (L L' : Nat → Bool) (id : Nat) (o : AObj), (subSt L l s).h.get id = some o → (subSt L' l s).h.get id ≠ none → (subSt L' l s).h.get id = some o)
    {L1 : Nat → Bool} (hb : ∀ i, i < bf.length → L1 i = true) (hL : L1 bf.length = false) {a : Act} (R : Rel w0 B M0 S m (subSt L1 l s) a w) : ∀ n, n ≤ af.length →
    ∃ a2, Rel w0 B M0 S m (subSt (fun i => (L1 i || decide (i < bf.length + 1 + n)) && decide (i ≠ bf.length)) l s) a2 w ∧ (subSt (fun i => (L1 i || decide (i < bf.length + 1 + n)) && decide (i ≠ bf.length)) l s).h.get = (subSt L1 l s).h.get ∧
      Agr (fun t => ∃ (i : Nat) (o : Oper), i < n ∧ af[i]? = some o ∧ L1 (bf.length + 1 + i) = false ∧ o.dst = some t) a2 a ∧
      ∀ (i : Nat) (o : Oper), i < n → af[i]? = some o → L1 (bf.length + 1 + i) = false → ∃ v' d, o.dst = some d ∧ (∀ w2, (execOp a2.eval o).run P w2 = .ok (.value v') w2) ∧ a2.tmps.getD d undef = if d < a2.tmps.size then v' else undef := by
  have at_ : ∀ {j : Nat} {p : Oper × AVal × AHeap}, l[j]? = some p → (bf ++ L :: af)[j]? = some p.1 := fun {j p} hj => by rw [← lg, List.getElem?_map, hj]; rfl
  have of_ : ∀ {j : Nat} {o : Oper}, (bf ++ L :: af)[j]? = some o → ∃ v os, l[j]? = some (o, v, os) := fun {j o} hj => by
    rw [← lg, List.getElem?_map] at hj
    cases hp : l[j]? with
    | none => rw [hp] at hj; cases hj
    | some p => rw [hp] at hj; simp at hj; subst hj; exact ⟨p.2.1, p.2.2, rfl⟩
  have afat : ∀ (i : Nat), (bf ++ L :: af)[bf.length + 1 + i]? = af[i]? := fun i => by
    rw [List.getElem?_append_right (by omega), show bf.length + 1 + i - bf.length = i + 1 by omega, List.getElem?_cons_succ]
  intro n
  induction n with
  | zero =>
    intro _
    have e : (fun i => (L1 i || decide (i < bf.length + 1 + 0)) && decide (i ≠ bf.length)) = L1 := by
      funext i
      by_cases h1 : i < bf.length
      · have h2 : i ≠ bf.length := by omega
        have h3 : i < bf.length + 1 + 0 := by omega
        rw [hb i h1]; simp [h2]
      · by_cases h2 : i = bf.length
        · subst h2; rw [hL]; simp
        · have h3 : ¬ i < bf.length + 1 + 0 := by omega
          simp only [h3, decide_false, Bool.or_false]
          simp [h2]
    rw [e]
    exact ⟨a, R, rfl, ⟨rfl, rfl, fun _ _ => rfl⟩, fun i o h => absurd h (Nat.not_lt_zero _)⟩
  | succ n ih =>
    intro hn
    obtain ⟨a2, R2, hh, hag, hrun⟩ := ih (by omega)
    obtain ⟨o, ho⟩ : ∃ o, af[n]? = some o := ⟨af[n], by simp [show n < af.length by omega]⟩
    cases hk : L1 (bf.length + 1 + n) with
    | true =>
      have e : (fun i => (L1 i || decide (i < bf.length + 1 + (n + 1))) && decide (i ≠ bf.length)) = (fun i => (L1 i || decide (i < bf.length + 1 + n)) && decide (i ≠ bf.length)) := by
        funext i
        by_cases h1 : i = bf.length + 1 + n
        · subst h1; rw [hk]; simp
        · have : (i < bf.length + 1 + (n + 1)) ↔ (i < bf.length + 1 + n) := by omega
          simp only [this]
      rw [e]
      refine ⟨a2, R2, hh, ⟨hag.size, hag.defers, fun t ht => hag.at_ t fun ⟨i, o', h1, h2⟩ => ht ⟨i, o', by omega, h2⟩⟩, fun i o' h1 h2 h3 => ?_⟩
      by_cases e : i = n
      · subst e; rw [hk] at h3; cases h3
      · exact hrun i o' (by omega) h2 h3
    | false =>
      obtain ⟨v, os, hlk⟩ := of_ ((afat n).trans ho)
      have q := lq _ o v os (by omega) hlk
      have hp := hl.pure n o ho
      rcases q with q | ⟨c, _, _, _, _, _, _, _, hc, _⟩
      · have hsame : ∀ x ∈ o.op.operands, (subSt (fun i => decide (i < bf.length + 1 + n) && decide (i ≠ bf.length)) l s).ev x = (subSt (fun i => (L1 i || decide (i < bf.length + 1 + n)) && decide (i ≠ bf.length)) l s).ev x := fun x hx => by
          cases x with
          | tmp t =>
            refine subSt_ρ t l _ _ s s (fun i p hp hpd => ?_) rfl rfl
            by_cases h1 : i < bf.length + 1 + n
            · simp [h1]
            · have h4 : bf.length + 1 + n ≤ i := by omega
              obtain ⟨i', rfl⟩ := Nat.exists_eq_add_of_le h4
              have h5 := at_ hp
              rw [Nat.add_assoc, afat] at h5
              exact absurd hx (hl.war n (n + i') o p.1 t ho h5 (by omega) hpd)
          | _ => rfl
        obtain ⟨rfl, v', r1, r2⟩ := pure_run (P := P) hE.T R2.mem (hagr _ _) (h := (subSt (fun i => (L1 i || decide (i < bf.length + 1 + n)) && decide (i ≠ bf.length)) l s).h.get) (S := S) (w := w) (m := m) (ρ := a2.eval) (fun x hx => by rw [hsame x hx]; exact R2.ev x) q hp
        have hadd := subSt_add Ap (L := fun i => (L1 i || decide (i < bf.length + 1 + n)) && decide (i ≠ bf.length)) (L' := fun i => (L1 i || decide (i < bf.length + 1 + (n + 1))) && decide (i ≠ bf.length)) hlk (by simp [hk]) (fun j => by
          by_cases h1 : j = bf.length + 1 + n
          · subst h1
            have h2 : bf.length + 1 + n < bf.length + 1 + (n + 1) := by omega
            have h3 : bf.length + 1 + n ≠ bf.length := by omega
            simp [h2, h3]
          · have : (j < bf.length + 1 + (n + 1)) ↔ (j < bf.length + 1 + n) := by omega
            simp only [this]
            simp [h1]) s
        have hdst : ∃ d, o.dst = some d := by
          cases hd : o.dst with
          | none => exact absurd hd (Ap.dst _ _ hlk)
          | some d => exact ⟨d, rfl⟩
        obtain ⟨d, hd⟩ := hdst
        have R3 : Rel w0 B M0 S m _ (a2.put o.dst v') w := (R2.put r2 o.dst).same hadd
        refine ⟨a2.put o.dst v', R3, ?_, ⟨?_, ?_, fun t ht => ?_⟩, fun i o' h1 h2 h3 => ?_⟩
        · rw [← hh]
          funext id
          rw [← hadd.h id, ap_h]
          rfl
        · rw [size_put]; exact hag.size
        · rw [defers_put]; exact hag.defers
        · rw [getD_put, if_neg fun e => ht ⟨n, o, by omega, ho, hk, e⟩]
          exact hag.at_ t fun ⟨i, o', h1, h2⟩ => ht ⟨i, o', by omega, h2⟩
        · have cong : execOp (a2.put o.dst v').eval o' = execOp a2.eval o' := execOp_congr o' (not_select (.inr (hl.pure i o' h2))) fun x hx => Act.eval_put fun d' hd' hxd => by
            subst hxd
            exact hl.war i n o' o d' h2 ho (by omega) hd' hx
          by_cases e : i = n
          · subst e
            rw [ho] at h2
            cases h2
            exact ⟨v', d, hd, fun w2 => by rw [cong]; exact r1 w2, by rw [getD_put, if_pos hd, size_put]⟩
          · obtain ⟨v2, d2, k1, k2, k3⟩ := hrun i o' (by omega) h2 h3
            refine ⟨v2, d2, k1, fun w2 => by rw [cong]; exact k2 w2, ?_⟩
            obtain ⟨v3, os3, hl3⟩ := of_ ((afat i).trans h2)
            rw [getD_put, if_neg fun h => e (by have := Ap.one _ _ _ _ d2 hl3 hlk k1 h; omega), size_put]
            exact k3
      · rw [hc] at hp; cases hp
theorem Agr.symm {T : Nat → Prop} {a a' : Act} (h : Agr T a a') : Agr T a' a := ⟨h.size.symm, h.defers.symm, fun t ht => (h.at_ t ht).symm⟩
theorem Agr.mono {T T' : Nat → Prop} {a a' : Act} (h : Agr T a a') (k : ∀ t, T t → T' t) : Agr T' a a' := ⟨h.size, h.defers, fun t ht => h.at_ t fun q => ht (k t q)⟩
theorem any_late [Tabs] (hE : Good P E) (hB0 : B ≤ w0.heap.size) {ops : Array Oper} {Q : Exit → Act → World → Prop} {A : List Nat} (hA : ancOk A ops.toList = true) {pre bf af rest : List Oper} {L : Oper} (hs : ops.toList = pre ++ ((bf ++ L :: af) ++ rest)) (ho : SegOk A pre.length (bf ++ L :: af)) (hod : ∀ (j : Nat) (o : Oper), (bf ++ L :: af)[j]? = some o → o.dst ≠ none) (hl : LateOk A pre.length bf L af) (hb : barAt A (pre.length + (bf ++ L :: af).length) = true)
    {s : AS} {a : Act} (R : Rel w0 B M0 S m s a w) (hgd : ∀ g', segGuard (bf ++ L :: af) = some g' → GuardOn ops a g' (dstsL (bf ++ L :: af))) {R' : Type} {k : AS → Option R'} {r : R'} (e : runQ E (bf ++ af) s (fun s' => aOp E s' L.dst L.op fun v s2 => k (s2.put L.dst v)) = some r)
    (K : ∀ s' a' w' S' m' listed, k s' = some r → Shift w0 B M0 S m s a w (dstsL (bf ++ L :: af)) s' a' w' S' m' → UpTo ops.size (pre.length + (bf ++ L :: af).length) listed → wpAny P .any ops Q rest.length listed a' w')
    {listed : Array Bool} (hlst : UpTo ops.size pre.length listed) : wpAny P .any ops Q ((bf ++ L :: af).length + rest.length) listed a w := by
  obtain ⟨l0, lg0, lk0, lq0⟩ := runQ_trace e
  obtain ⟨lb, la, rfl, hlb, hla⟩ : ∃ lb la : Tr, l0 = lb ++ la ∧ lb.map (·.1) = bf ∧ la.map (·.1) = af := by
    refine ⟨l0.take bf.length, l0.drop bf.length, (List.take_append_drop _ _).symm, ?_, ?_⟩
    · rw [List.map_take, lg0]; simp
    · rw [List.map_drop, lg0]; simp
  have hbl : lb.length = bf.length := by rw [← hlb]; simp
  obtain ⟨l, hldef⟩ : ∃ l : Tr, l = lb ++ (L, .one .und, []) :: la := ⟨_, rfl⟩
  obtain ⟨g, hg⟩ : ∃ g : List Oper, g = bf ++ L :: af := ⟨_, rfl⟩
  have lg : l.map (·.1) = g := by rw [hldef, hg]; simp [hlb, hla]
  have at_ : ∀ {j : Nat} {p : Oper × AVal × AHeap}, l[j]? = some p → g[j]? = some p.1 := fun {j p} hj => by rw [← lg, List.getElem?_map, hj]; rfl
  have of_ : ∀ {j : Nat} {o : Oper}, g[j]? = some o → ∃ v os, l[j]? = some (o, v, os) := fun {j o} hj => by
    rw [← lg, List.getElem?_map] at hj
    cases hp : l[j]? with
    | none => rw [hp] at hj; cases hj
    | some p => rw [hp] at hj; simp at hj; subst hj; exact ⟨p.2.1, p.2.2, rfl⟩
  have llen : l.length = g.length := by rw [← lg]; simp
  have atL : g[bf.length]? = some L := by rw [hg, List.getElem?_append_right (Nat.le_refl _), Nat.sub_self]; rfl
  have atLl : l[bf.length]? = some (L, .one .und, []) := by rw [hldef, List.getElem?_append_right (by omega), hbl, Nat.sub_self]; rfl
  have afat : ∀ (i : Nat), g[bf.length + 1 + i]? = af[i]? := fun i => by
    rw [hg, List.getElem?_append_right (by omega), show bf.length + 1 + i - bf.length = i + 1 by omega, List.getElem?_cons_succ]
  have lenG : g.length = bf.length + 1 + af.length := by rw [hg]; simp; omega
  rw [← hg] at hs ho hod hb hgd K ⊢
  have lq : ∀ (j : Nat) (o : Oper) (v : AVal) (os : AHeap), j ≠ bf.length → l[j]? = some (o, v, os) → Quiet E (subSt (fun i => decide (i < j) && decide (i ≠ bf.length)) l s) o v os ∧ Clear (subSt (fun i => decide (i < j) && decide (i ≠ bf.length)) l s) (o.dst.getD 0) := by
    intro j o v os hj hlj
    by_cases h1 : j < bf.length
    · have h2 : (lb ++ la)[j]? = some (o, v, os) := by
        rw [hldef, List.getElem?_append_left (by omega)] at hlj
        rw [List.getElem?_append_left (by omega)]; exact hlj
      have h3 := lq0 j o v os h2
      have h4 := skipSt (lb := lb) (la := la) (x := (L, .one .und, [])) (fun i => decide (i < j) && decide (i ≠ bf.length)) (fun i => decide (i < j)) s (by simp [hbl]) (fun i hi => by
        have : i ≠ bf.length := by omega
        simp [this]) (fun i hi => by
        have k1 : ¬ i < j := by omega
        have k2 : ¬ i + 1 < j := by omega
        simp [k1, k2])
      rw [hldef, h4]
      exact h3
    · obtain ⟨j, rfl⟩ : ∃ j', j = j' + 1 := ⟨j - 1, by omega⟩
      have h2 : (lb ++ la)[j]? = some (o, v, os) := by
        rw [hldef, List.getElem?_append_right (by omega), show j + 1 - lb.length = (j - lb.length) + 1 by omega, List.getElem?_cons_succ] at hlj
        rw [List.getElem?_append_right (by omega)]; exact hlj
      have h3 := lq0 j o v os h2
      have h4 := skipSt (lb := lb) (la := la) (x := (L, .one .und, [])) (fun i => decide (i < j + 1) && decide (i ≠ bf.length)) (fun i => decide (i < j)) s (by simp [hbl]) (fun i hi => by
        have k0 : i ≠ bf.length := by omega
        have k1 : i < j := by omega
        have k2 : i < j + 1 := by omega
        simp [k0, k1, k2]) (fun i hi => by
        have k0 : i + 1 ≠ bf.length := by omega
        have k1 : (i + 1 < j + 1) ↔ (i < j) := by omega
        simp [k0])
      rw [hldef, h4]
      exact h3
  have Ap : Apart l := ⟨fun j p hj => hod j p.1 (at_ hj), fun j k p q t hj hk h1 h2 => ho.one j k p.1 q.1 t (at_ hj) (at_ hk) h1 h2, fun j p hj => by
    obtain ⟨o, v, os⟩ := p
    by_cases h1 : j = bf.length
    · subst h1
      rw [atLl] at hj
      cases hj
      exact SmallOs.nil _
    · exact (lq j o v os h1 hj).1.small⟩
  have clear0 : ∀ (j : Nat) (p : Oper × AVal × AHeap), j ≠ bf.length → l[j]? = some p → ∀ (id d : Nat), p.1.dst.getD 0 = d → d * 16 ≤ id → id ≤ d * 16 + 15 → ∀ M : Nat → Bool, M j = false → (subSt M l s).h.get id = none := fun j p hne hj id d0 i0 i1 i2 M hM => by
    obtain ⟨o, v, os⟩ := p
    have c := (lq j o v os hne hj).2 id (i0 ▸ i1) (i0 ▸ i2)
    rw [← c]
    refine subSt_h id l M _ s s (fun i q hq hqd => ?_) rfl
    have sm := Ap.small i q hq id hqd
    have : i = j := by
      cases e1 : q.1.dst with
      | none => exact absurd e1 (Ap.dst i q hq)
      | some d =>
        cases e2 : o.dst with
        | none => exact absurd e2 (Ap.dst j _ hj)
        | some d' =>
          simp only [e1, e2, Option.getD_some] at sm i0
          have i3 : @Eq Nat d' d0 := i0
          have : d = d' := by
            rcases Nat.lt_trichotomy d d' with h | h | h
            · omega
            · exact h
            · omega
          subst this
          exact Ap.one i j q _ d hq hj e1 e2
    subst this
    simp [hM]
  have hagr : ∀ (L L' : Nat → Bool) (id : Nat) (o : AObj), (subSt L l s).h.get id = some o → (subSt L' l s).h.get id ≠ none → (subSt L' l s).h.get id = some o := fun L L' id o => subSt_agree Ap (fun i p hp id hid => by
    by_cases h1 : i = bf.length
    · subst h1
      rw [atLl] at hp
      cases hp
      exact absurd rfl hid
    · have sm := Ap.small i p hp id hid
      have := clear0 i p h1 hp id _ rfl sm.1 sm.2 (fun _ => false) rfl
      rw [subSt_none l _ _ fun _ => rfl] at this
      exact this) L L' id o
  have inG : ∀ {i : Nat} {o : Oper} {t : Nat}, g[i]? = some o → o.dst = some t → t ∈ dstsL g := fun {i o t} h1 h2 => List.mem_filterMap.2 ⟨o, List.mem_of_getElem? h1, h2⟩
  refine any_walk hA hs hb (fun Lm a' w' => (Lm bf.length = false ∧ ∃ S' m', Rel w0 B M0 S' m' (subSt Lm l s) a' w' ∧ Wider s.h.get (subSt Lm l s).h.get S S' w w' m m' ∧ (∀ t, t ∉ dstsL g → a'.tmps.getD t undef = a.tmps.getD t undef) ∧ ∀ b, S' b → S b ∨ B ≤ b ∨ M0 b) ∨
    (Lm bf.length = true ∧ (∀ i, i < bf.length → Lm i = true) ∧ ∃ s' a2 S' m', k s' = some r ∧ Shift w0 B M0 S m s a w (dstsL g) s' a2 w' S' m' ∧ Agr (fun t => ∃ (i : Nat) (o : Oper), af[i]? = some o ∧ Lm (bf.length + 1 + i) = false ∧ o.dst = some t) a' a2 ∧
      ∀ (i : Nat) (o : Oper), af[i]? = some o → Lm (bf.length + 1 + i) = false → ∃ v' d, o.dst = some d ∧ (∀ w2, (execOp a2.eval o).run P w2 = .ok (.value v') w2) ∧ a2.tmps.getD d undef = if d < a2.tmps.size then v' else undef)) ?_ ?_ ?_ hlst
  · intro Lm L' kk o a' w' next hgo hLk hL' hanc hdes hI hnext
    have wantOf : (∀ t, t ∉ dstsL g → a'.tmps.getD t undef = a.tmps.getD t undef) → Region.wanted o (yielded ops a'.tmps) = true := fun k1 => by
      have hgu := ho.guard kk o hgo
      cases hg' : segGuard g with
      | none => unfold Region.wanted; rw [hgu, hg']
      | some g' => exact ((hgd g' hg').keep k1).wanted (hgu.trans hg')
    rcases hI with ⟨hLf, S', m', R1, W1, k1, n1⟩ | ⟨hLt, hbf, s', a2, S', m', hk, Sh, hag, hpure⟩
    · rw [if_pos (wantOf k1)]
      by_cases hkL : kk = bf.length
      · subst hkL
        rw [atL] at hgo
        cases hgo
        have hbf : ∀ i, i < bf.length → Lm i = true := fun i hi => hanc i (by omega) (hl.anc i hi)
        obtain ⟨a2, R2, hh, hag, hpure⟩ := ghost hE hl (lg.trans hg) Ap (fun j o v os h1 h2 => (lq j o v os h1 h2).1) hagr hbf hLf R1 af.length (Nat.le_refl _)
        have hfull : subSt (fun i => (Lm i || decide (i < bf.length + 1 + af.length)) && decide (i ≠ bf.length)) l s = subSt (fun _ => true) (lb ++ la) s := by
          rw [subSt_congr l _ (fun i => decide (i ≠ bf.length)) s fun j hj => by
            have : j < bf.length + 1 + af.length := by omega
            simp [this], hldef]
          refine skipSt _ _ s (by simp [hbl]) (fun j hj => ?_) (fun j hj => ?_)
          · have : j ≠ bf.length := by omega
            simp [this]
          · have : j + 1 ≠ bf.length := by omega
            simp [this]
        rw [hfull] at R2 hh
        refine wp_swap (T := fun t => ∃ (i : Nat) (o : Oper), i < af.length ∧ af[i]? = some o ∧ Lm (bf.length + 1 + i) = false ∧ o.dst = some t) (not_select (.inl hl.lop)) hag.symm (fun t ht ⟨i, o, _, h2, _, h4⟩ => hl.Lno i o h2 t h4 ht) (aOp_sound hE hB0 R2 lk0 fun v s2 v' w2 S2 m2 hk M a3 h3 => hnext _ _ (.inr ⟨by rw [hL']; simp, fun i hi => by rw [hL', hbf i hi]; rfl, s2.put L.dst v, a2.put L.dst v', S2, m2, hk, ?_, ?_, fun i o h1 h2 => ?_⟩))
        · have sh1 : Shift w0 B M0 S m s a w (dstsL g) (subSt (fun _ => true) (lb ++ la) s) a2 w' S' m' := by
            refine ⟨R2, W1.ext n1, Nat.le_of_eq (subSt_t _ _ _).symm, fun _ => by rw [hh]; exact W1, fun t ht => ?_, by rw [R2.size, subSt_len, R.size]⟩
            rw [← k1 t ht]
            exact hag.at_ t fun ⟨i, o, _, h2, _, h4⟩ => ht (inG ((afat i).trans h2) h4)
          refine sh1.trans (M.shift L) (fun _ h => h) fun t ht => ?_
          obtain ⟨o, ho1, ho2⟩ := List.mem_filterMap.1 ht
          simp only [List.mem_singleton] at ho1
          subst ho1
          exact inG atL ho2
        · refine h3.mono fun t ⟨i, o, _, h2, h4, h5⟩ => ⟨i, o, h2, ?_, h5⟩
          rw [hL', h4]
          have : bf.length + 1 + i ≠ bf.length := by omega
          simp [this]
        · have h4 : Lm (bf.length + 1 + i) = false := by
            rw [hL'] at h2
            simp only [Bool.or_eq_false_iff] at h2
            exact h2.1
          obtain ⟨v2, d2, q1, q2, q3⟩ := hpure i o (List.getElem?_eq_some_iff.1 h1).1 h1 h4
          have cong : execOp (a2.put L.dst v').eval o = execOp a2.eval o := execOp_congr o (not_select (.inr (hl.pure i o h1))) fun x hx => Act.eval_put fun d' hd' hxd => by
            subst hxd
            exact hl.noL i o h1 d' hd' hx
          refine ⟨v2, d2, q1, fun w2 => by rw [cong]; exact q2 w2, ?_⟩
          obtain ⟨v3, os3, hl3⟩ := of_ ((afat i).trans h1)
          rw [getD_put, if_neg fun h => absurd (Ap.one _ _ _ _ d2 hl3 atLl q1 h) (by omega), size_put]
          exact q3
      · obtain ⟨v, os, hlk⟩ := of_ hgo
        have hother : ∀ (i : Nat) (o' : Oper) (t : Nat), g[i]? = some o' → o'.dst = some t → .tmp t ∈ o.op.operands → (decide (i < kk) && decide (i ≠ bf.length)) = Lm i := fun i o' t hi ht hm => by
          have hord := ho.order kk i o o' t hgo hi ht hm
          have hil : i < g.length := (List.getElem?_eq_some_iff.1 hi).1
          by_cases hiL : i = bf.length
          · subst hiL; rw [hLf]; simp
          rcases Nat.lt_trichotomy i kk with hik | hik | hik
          · have := hanc i hil (hord.1 hik)
            simp [hik, this, hiL]
          · subst hik; simp [hLk]
          · rw [hdes i hil (hord.2 hik)]; simp; omega
        refine quiet_wp hE hB0 R1 (lq kk o v os hkL hlk).1 (fun x hx => ?_) (fun id x h5 h6 => ?_) (fun id h5 h6 => clear0 kk _ hkL hlk id _ rfl h5 h6 Lm hLk) (fun v' w1 S1 m1 R2 W2 n2 => ?_)
        · cases x with
          | tmp t => exact subSt_ρ t l _ Lm s s (fun i p hp hpd => hother i p.1 t (at_ hp) hpd hx) rfl rfl
          | _ => rfl
        · exact hagr _ Lm id x h5 h6
        · have hadd := subSt_add Ap (L := Lm) (L' := L') hlk hLk hL' s
          have hget : (ap (subSt Lm l s) (o, v, os)).h.get = (subSt L' l s).h.get := funext hadd.h
          have hne : ¬ bf.length = kk := fun h => hkL h.symm
          refine hnext _ _ (.inl ⟨by rw [hL', hLf]; simp [hne], S1, m1, R2.same hadd, by rw [← hget]; exact W1.trans W2, fun t ht => ?_, fun b hb => (n2 b hb).elim (fun h => n1 b h) .inr⟩)
          have hdst : o.dst ≠ some t := fun hd => ht (inG hgo hd)
          rw [← k1 t ht]
          exact Act.eval_put (a := a') (dst := o.dst) (v := v') (x := .tmp t) (fun d hd hx => hdst (by cases hx; exact hd))
    · have k1 : ∀ t, t ∉ dstsL g → a'.tmps.getD t undef = a.tmps.getD t undef := fun t ht => (hag.at_ t fun ⟨i, o, h2, _, h4⟩ => ht (inG ((afat i).trans h2) h4)).trans (Sh.keep t ht)
      rw [if_pos (wantOf k1)]
      have hkb : bf.length < kk := by
        refine Nat.lt_of_not_le fun h => ?_
        rcases Nat.lt_or_eq_of_le h with h | h
        · rw [hbf kk h] at hLk; cases hLk
        · rw [h, hLt] at hLk; cases hLk
      obtain ⟨i, rfl⟩ : ∃ i, kk = bf.length + 1 + i := ⟨kk - (bf.length + 1), by omega⟩
      have hoi : af[i]? = some o := (afat i).symm.trans hgo
      obtain ⟨v', d, q1, q2, q3⟩ := hpure i o hoi hLk
      refine wp_value (v' := v') (w' := w') ?_ (hnext _ _ (.inr ⟨by rw [hL', hLt]; rfl, fun i hi => by rw [hL', hbf i hi]; rfl, s', a2, S', m', hk, Sh, ⟨by rw [size_put]; exact hag.size, by rw [defers_put]; exact hag.defers, fun t ht => ?_⟩, fun i' o' h1 h2 => ?_⟩))
      · rw [execOp_congr o (not_select (.inr (hl.pure i o hoi))) fun x hx => hag.eval fun t hxt ⟨i', o', h2, h3, h4⟩ => ?_]
        · exact q2 w'
        · subst hxt
          by_cases hii : i ≤ i'
          · exact hl.war i i' o o' t hoi h2 hii h4 hx
          · have hord := ho.order (bf.length + 1 + i) (bf.length + 1 + i') o o' t hgo ((afat i').trans h2) h4 hx
            have hil : bf.length + 1 + i' < g.length := by rw [lenG]; have := (List.getElem?_eq_some_iff.1 h2).1; omega
            have := hanc _ hil (hord.1 (by omega))
            rw [h3] at this
            cases this
      · rw [getD_put]
        by_cases hd : o.dst = some t
        · rw [if_pos hd]
          rw [q1] at hd
          cases hd
          rw [hag.size]
          exact q3.symm
        · rw [if_neg hd]
          refine hag.at_ t fun ⟨i', o', h2, h3, h4⟩ => ht ⟨i', o', h2, ?_, h4⟩
          rw [hL', h3]
          by_cases hii : i' = i
          · subst hii
            rw [hoi] at h2
            cases h2
            exact absurd h4 hd
          · simp [hii]
      · refine hpure i' o' h1 ?_
        rw [hL'] at h2
        simp only [Bool.or_eq_false_iff] at h2
        exact h2.1
  · intro Lm a' w' lst hall hI hup
    rcases hI with ⟨hLf, _⟩ | ⟨_, _, s', a2, S', m', hk, Sh, hag, _⟩
    · rw [hall bf.length (by omega)] at hLf; cases hLf
    · have hag' : ∀ t, a'.tmps.getD t undef = a2.tmps.getD t undef := fun t => hag.at_ t fun ⟨i, o, h1, h2, _⟩ => by
        rw [hall (bf.length + 1 + i) (by rw [lenG]; have := (List.getElem?_eq_some_iff.1 h1).1; omega)] at h2
        cases h2
      refine K s' a' w' S' m' lst hk ⟨⟨Sh.rel.mem, Sh.rel.frm, fun t => by rw [hag' t]; exact Sh.rel.tmps t, by rw [hag.size]; exact Sh.rel.size, by rw [hag.defers]; exact Sh.rel.defers⟩, Sh.ext, Sh.t, Sh.wide, fun t ht => (hag' t).trans (Sh.keep t ht), hag.size.trans Sh.len⟩ hup
  · have h0 := subSt_none l (fun _ => false) s fun _ => rfl
    exact .inl ⟨rfl, S, m, by rw [h0]; exact R, by rw [h0]; exact Wider.refl _ _ _ _, fun _ _ => rfl, fun _ h => .inl h⟩
end
end Go.Ab
