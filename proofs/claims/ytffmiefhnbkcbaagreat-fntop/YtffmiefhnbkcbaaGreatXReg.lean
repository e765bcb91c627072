/-
  A region: its stretches, its guards, its picks.
-/
import Derived.Test.YtffmiefhnbkcbaaGreatXOrder
import Derived.Tactics
namespace Go.Ab
open Go Go.RowKit
section
variable {P : Program} {E : Env} {S : Blk} {w w0 : World} {m : OMap} {B : Nat} {M0 : Blk}
structure Runner [Tabs] (P : Program) (E : Env) (ops : Array Oper) (Q : Exit → Act → World → Prop) (segs : List (List Oper)) (W : List (List Oper) → Act → World → Prop) : Prop where
  one : ∀ (o : Oper) (rest pre : List (List Oper)) (a : Act) (w : World), pre ++ [o] :: rest = segs → (if Region.wanted o (yielded ops a.tmps) then o.wp P a w (W rest) Q else W rest (a.put o.dst undef) w) → W ([o] :: rest) a w
  many : ∀ (g : List Oper) (rest pre : List (List Oper)), pre ++ g :: rest = segs → g.length ≠ 1 → ∀ {w0 w : World} {B : Nat} {M0 S : Blk} {m : OMap} {s : AS} {a : Act} {R' : Type} {k : AS → Option R'} {r : R'}, B ≤ w0.heap.size → Rel w0 B M0 S m s a w →
    (∀ g', segGuard g = some g' → GuardOn ops a g' (dstsL g)) → runMany E g s k = some r → (∀ s' a' w' S' m', k s' = some r → Shift w0 B M0 S m s a w (dstsL g) s' a' w' S' m' → W rest a' w') → W (g :: rest) a w
  skip : ∀ (g : List Oper) (rest pre : List (List Oper)) (a : Act) (w : World) (g' : Nat × Bool), pre ++ g :: rest = segs → g.length ≠ 1 → segGuard g = some g' → yielded ops a.tmps g'.1 ≠ some g'.2 →
    (∀ a', (∀ t, t ∉ dstsL g → a'.tmps.getD t undef = a.tmps.getD t undef) → (∀ t, t ∈ dstsL g → a'.tmps.getD t undef = undef) → a'.tmps.size = a.tmps.size → a'.defers = a.defers → W rest a' w) → W (g :: rest) a w
theorem dstsL_append (a b : List Oper) : dstsL (a ++ b) = dstsL a ++ dstsL b := by simp [dstsL]
theorem Moved.shift [Tabs] {s s' : AS} {a : Act} {w' : World} {S' : Blk} {m' : OMap} {v : AVal} {v' : Value} (M : Moved w0 B M0 S m s a w v s' v' w' S' m') (o : Oper) : Shift w0 B M0 S m s a w (dstsL [o]) (s'.put o.dst v) (a.put o.dst v') w' S' m' := by
  have ht : (s'.put o.dst v).t = s'.t := by cases o.dst <;> rfl
  have hh : (s'.put o.dst v).h = s'.h := by cases o.dst <;> rfl
  refine ⟨M.rel.put M.val o.dst, M.ext, by rw [ht]; exact M.t, fun e => by rw [hh]; exact M.wide (by rw [← ht]; exact e), fun t hn => ?_, ?_⟩
  · refine Act.eval_put (a := a) (dst := o.dst) (v := v') (x := .tmp t) fun d hd hx => hn ?_
    cases hx
    simp [dstsL, hd]
  · cases o.dst <;> simp [Act.put]
theorem Shift.trans [Tabs] {s s' s'' : AS} {a a' a'' : Act} {w' w'' : World} {S' S'' : Blk} {m' m'' : OMap} {d d' ds : List Nat} (x : Shift w0 B M0 S m s a w d s' a' w' S' m') (y : Shift w0 B M0 S' m' s' a' w' d' s'' a'' w'' S'' m'')
    (h1 : ∀ t, t ∈ d → t ∈ ds) (h2 : ∀ t, t ∈ d' → t ∈ ds) : Shift w0 B M0 S m s a w ds s'' a'' w'' S'' m'' := by
  refine ⟨y.rel, x.ext.trans y.ext, Nat.le_trans x.t y.t, fun e => ?_, fun t ht => (y.keep t fun h => ht (h2 t h)).trans (x.keep t fun h => ht (h1 t h)), y.len.trans x.len⟩
  have := x.t; have := y.t
  exact (x.wide (by omega)).trans (y.wide (by omega))
theorem Shift.refl [Tabs] {s : AS} {a : Act} (R : Rel w0 B M0 S m s a w) (ds : List Nat) : Shift w0 B M0 S m s a w ds s a w S m := ⟨R, Ext.refl B M0 S w, Nat.le_refl _, fun _ => Wider.refl _ _ _ _, fun _ _ => rfl, rfl⟩
theorem Runner.seg [Tabs] {ops : Array Oper} {Q : Exit → Act → World → Prop} {segs : List (List Oper)} {W : List (List Oper) → Act → World → Prop} (N : Runner P E ops Q segs W) (hE : Good P E) (hB0 : B ≤ w0.heap.size) {g : List Oper} {rest pre : List (List Oper)} (hp : pre ++ g :: rest = segs)
    {s : AS} {a : Act} (R : Rel w0 B M0 S m s a w) (hgd : ∀ g', segGuard g = some g' → GuardOn ops a g' (dstsL g)) {R' : Type} {k : AS → Option R'} {r : R'} (e : runSeg E g s k = some r)
    (K : ∀ s' a' w' S' m', k s' = some r → Shift w0 B M0 S m s a w (dstsL g) s' a' w' S' m' → W rest a' w') : W (g :: rest) a w := by
  by_cases h1 : g.length = 1
  · obtain ⟨o, rfl⟩ := List.length_eq_one_iff.1 h1
    refine N.one o rest pre a w hp ?_
    have hw : Region.wanted o (yielded ops a.tmps) = true := by
      cases hg : o.guard with
      | none => unfold Region.wanted; rw [hg]
      | some g' => exact (hgd g' hg).wanted hg
    rw [if_pos hw]
    have e' : aOp E s o.dst o.op (fun v s' => k (s'.put o.dst v)) = some r := e
    exact aOp_sound hE hB0 R e' fun v s' v' w' S' m' hk M => K _ _ _ _ _ hk (M.shift o)
  · refine N.many g rest pre hp h1 hB0 R hgd ?_ K
    unfold runSeg at e
    split at e
    · exact absurd rfl h1
    · exact e
theorem Runner.skips [Tabs] {ops : Array Oper} {Q : Exit → Act → World → Prop} {segs : List (List Oper)} {W : List (List Oper) → Act → World → Prop} (N : Runner P E ops Q segs W) {g : List Oper} {rest pre : List (List Oper)} (hp : pre ++ g :: rest = segs) {a : Act} {g' : Nat × Bool} (hg : segGuard g = some g') (hy : yielded ops a.tmps g'.1 ≠ some g'.2)
    (K : ∀ a', (∀ t, t ∉ dstsL g → a'.tmps.getD t undef = a.tmps.getD t undef) → (∀ t, t ∈ dstsL g → a'.tmps.getD t undef = undef) → a'.tmps.size = a.tmps.size → a'.defers = a.defers → W rest a' w) : W (g :: rest) a w := by
  by_cases h1 : g.length = 1
  · obtain ⟨o, rfl⟩ := List.length_eq_one_iff.1 h1
    refine N.one o rest pre a w hp ?_
    have hgu : o.guard = some g' := hg
    have hw : Region.wanted o (yielded ops a.tmps) = false := by
      unfold Region.wanted
      rw [hgu]
      simpa using hy
    rw [hw, if_neg (by simp)]
    have hput : ∀ t, (a.put o.dst undef).tmps.getD t undef = if o.dst = some t then undef else a.tmps.getD t undef := fun t => by
      cases hd : o.dst with
      | none => simp [Act.put]
      | some d =>
        simp only [Act.put, Array.getD_eq_getD_getElem?, Array.getElem?_setIfInBounds]
        by_cases e : d = t
        · subst e
          by_cases h : d < a.tmps.size <;> simp [h]
        · simp [e]
    refine K _ (fun t ht => ?_) (fun t ht => ?_) (by cases o.dst <;> simp [Act.put]) (by cases o.dst <;> rfl)
    · rw [hput, if_neg]
      intro hd
      exact ht (by simp [dstsL, hd])
    · rw [hput, if_pos]
      simpa [dstsL] using ht
  · exact N.skip g rest pre a w g' hp h1 hg hy K
theorem grpOk_append {ops : Array Oper} {g : Nat × Bool} : ∀ {l r : List Oper} {seen : List Nat}, grpOk ops g seen (l ++ r) = true → grpOk ops g seen l = true ∧ grpOk ops g ((dstsL l).reverse ++ seen) r = true
  | [], r, seen, h => ⟨rfl, by simpa [dstsL] using h⟩
  | q :: l, r, seen, h => by
    simp only [List.cons_append, grpOk, Bool.and_eq_true] at h ⊢
    have ih := grpOk_append h.2
    refine ⟨⟨h.1, ih.1⟩, ?_⟩
    have e : dstsL (q :: l) = (match q.dst with | some x => [x] | none => []) ++ dstsL l := by
      cases hq : q.dst <;> simp [dstsL, hq]
    rw [e]
    cases hq : q.dst with
    | none => rw [hq] at ih; simpa using ih.2
    | some x => rw [hq] at ih; simpa using ih.2
theorem skip_grp [Tabs] {ops : Array Oper} {Q : Exit → Act → World → Prop} {segs : List (List Oper)} {W : List (List Oper) → Act → World → Prop} (N : Runner P E ops Q segs W) {g0 : Nat × Bool} {rest : List (List Oper)} : ∀ (grp pre : List (List Oper)) (seen : List Nat) (a : Act), pre ++ (grp ++ rest) = segs →
    (∀ l ∈ grp, segGuard l ≠ none ∧ l ≠ []) → grpOk ops g0 seen grp.flatten = true → (∀ t ∈ seen, a.tmps.getD t undef = undef) → yielded ops a.tmps g0.1 ≠ some g0.2 → (∀ gd, (ops[g0.1]?).bind (·.dst) = some gd → gd ∉ dstsL grp.flatten) →
    (∀ a', (∀ t, t ∉ dstsL grp.flatten → a'.tmps.getD t undef = a.tmps.getD t undef) → a'.tmps.size = a.tmps.size → a'.defers = a.defers → W rest a' w) → W (grp ++ rest) a w
  | [], _, _, a, _, _, _, _, _, _, K => K a (fun _ _ => rfl) rfl rfl
  | l :: grp, pre, seen, a, hp, hgs, hok, hseen, hy, hgd, K => by
    obtain ⟨hl1, hl2⟩ := hgs l List.mem_cons_self
    simp only [List.flatten_cons] at hok
    have hok2 := grpOk_append hok
    obtain ⟨g', hg'⟩ : ∃ g', segGuard l = some g' := by
      cases h : segGuard l with
      | none => exact absurd h hl1
      | some g' => exact ⟨g', rfl⟩
    have hnot : yielded ops a.tmps g'.1 ≠ some g'.2 := by
      cases l with
      | nil => exact absurd rfl hl2
      | cons o l =>
        have ho : o.guard = some g' := hg'
        have := hok2.1
        simp only [grpOk, ho, Bool.and_eq_true, Bool.or_eq_true] at this
        rcases this.1 with h | h
        · rw [← gEq_spec h]; exact hy
        · split at h
          · rename_i x hx
            simp only [List.any_eq_true] at h
            obtain ⟨y, hy', he⟩ := h
            have := Nat.eq_of_beq_eq_true he
            subst this
            have hu := hseen _ hy'
            unfold yielded
            rw [hx]
            simp only [Option.bind_some]
            rw [Array.getD_eq_getD_getElem?] at hu
            cases ht : a.tmps[x]? with
            | none => simp
            | some v => rw [ht] at hu; simp at hu; rw [hu]; simp [undef]
          · cases h
    refine N.skips (pre := pre) hp hg' hnot fun a' k1 k2 k3 k4 => ?_
    have mem : ∀ t, t ∈ dstsL (l ++ grp.flatten) ↔ t ∈ dstsL l ∨ t ∈ dstsL grp.flatten := fun t => by simp [dstsL]
    refine skip_grp N grp (pre ++ [l]) ((dstsL l).reverse ++ seen) a' (by simpa using hp) (fun x hx => hgs x (List.mem_cons_of_mem _ hx)) hok2.2 (fun t ht => ?_) ?_ (fun gd h hm => hgd gd h (by simp only [List.flatten_cons]; exact (mem gd).2 (.inr hm))) (fun a2 j1 j2 j3 => K a2 (fun t ht => ?_) (j2.trans k3) (j3.trans k4))
    · by_cases hl : t ∈ dstsL l
      · exact k2 t hl
      · rw [k1 t hl]
        simp only [List.mem_append, List.mem_reverse] at ht
        exact hseen t (ht.resolve_left hl)
    · unfold yielded at hy ⊢
      cases hb : (ops[g0.1]?).bind (·.dst) with
      | none => simp
      | some gd =>
        rw [hb] at hy
        simp only [Option.bind_some] at hy ⊢
        have hn : gd ∉ dstsL l := fun h => hgd gd hb (by simp only [List.flatten_cons]; exact (mem gd).2 (.inl h))
        have hk := k1 gd hn
        rw [Array.getD_eq_getD_getElem?, Array.getD_eq_getD_getElem?] at hk
        intro h
        apply hy
        split at h
        · rename_i b hb2
          rw [hb2] at hk
          simp only [Option.getD_some] at hk
          cases ha : a.tmps[gd]? with
          | none => rw [ha] at hk; simp [undef] at hk
          | some v => rw [ha] at hk; simp at hk; rw [← hk]; exact h
        · cases h
    · simp only [List.flatten_cons, mem, not_or] at ht
      rw [j1 t ht.2]; exact k1 t ht.1
theorem GuardOn.next {ops : Array Oper} {a a' : Act} {g : Nat × Bool} {l l' d : List Nat} (h : GuardOn ops a g l) (hd : ∀ t, t ∈ d → t ∈ l) (hl : ∀ t, t ∈ l' → t ∈ l) (hk : ∀ t, t ∉ d → a'.tmps.getD t undef = a.tmps.getD t undef) : GuardOn ops a' g l' := by
  obtain ⟨gd, h1, h2, h3⟩ := h
  exact ⟨gd, h1, fun h => h2 (hl gd h), (hk gd fun h => h2 (hd gd h)).trans h3⟩
theorem gIn_spec [Tabs] {act : List (Nat × Bool)} {g : Nat × Bool} (h : gIn act (some g) = true) : g ∈ act := by
  unfold gIn at h
  rw [List.any_eq_true] at h
  obtain ⟨g', h1, h2⟩ := h
  rw [gEq_spec h2]; exact h1
theorem dropWhile_head {α : Type} {f : α → Bool} : ∀ {l : List α} {x : α} {r : List α}, l.dropWhile f = x :: r → f x = false
  | [], _, _, h => by cases h
  | y :: l, x, r, h => by
    rw [List.dropWhile_cons] at h
    split at h
    · exact dropWhile_head h
    · rename_i hf
      cases h
      simpa using hf
theorem takeWhile_all {α : Type} {f : α → Bool} : ∀ {l : List α} {x : α}, x ∈ l.takeWhile f → f x = true
  | y :: l, x, h => by
    rw [List.takeWhile_cons] at h
    split at h
    · rename_i hf
      rcases List.mem_cons.1 h with rfl | h
      · exact hf
      · exact takeWhile_all h
    · cases h
theorem undAll_spec [Tabs] : ∀ (l : List Oper) (s : AS), (undAll l s).h = s.h ∧ (undAll l s).t = s.t ∧ (undAll l s).ρ.length = s.ρ.length ∧ ∀ t, (t ∉ dstsL l → (undAll l s).ρ.getD t (.one .und) = s.ρ.getD t (.one .und)) ∧ ((undAll l s).ρ.getD t (.one .und) = .one .und ∨ (undAll l s).ρ.getD t (.one .und) = s.ρ.getD t (.one .und) ∧ t ∉ dstsL l)
  | [], s => ⟨rfl, rfl, rfl, fun t => ⟨fun _ => rfl, .inr ⟨rfl, by simp [dstsL]⟩⟩⟩
  | q :: l, s => by
    have ih := undAll_spec l (s.put q.dst (.one .und))
    have hh : (s.put q.dst (.one .und)).h = s.h := by cases q.dst <;> rfl
    have ht : (s.put q.dst (.one .und)).t = s.t := by cases q.dst <;> rfl
    have hl : (s.put q.dst (.one .und)).ρ.length = s.ρ.length := by cases q.dst <;> simp [AS.put]
    have mem : ∀ t, t ∈ dstsL (q :: l) ↔ q.dst = some t ∨ t ∈ dstsL l := fun t => by
      cases hq : q.dst <;> simp [dstsL, hq, eq_comm]
    refine ⟨ih.1.trans hh, ih.2.1.trans ht, ih.2.2.1.trans hl, fun t => ⟨fun hn => ?_, ?_⟩⟩
    · rw [mem, not_or] at hn
      have := (ih.2.2.2 t).1 hn.2
      rw [put_getD, if_neg hn.1] at this
      exact this
    · rcases (ih.2.2.2 t).2 with h | ⟨h, h2⟩
      · exact .inl h
      · rw [put_getD] at h
        by_cases hq : q.dst = some t
        · rw [if_pos hq] at h
          left
          have : (if t < s.ρ.length then AVal.one .und else .one .und) = .one .und := by split <;> rfl
          rw [this] at h
          exact h
        · rw [if_neg hq] at h
          exact .inr ⟨h, by rw [mem, not_or]; exact ⟨hq, h2⟩⟩
theorem Wider.self {h h' : HGet} {S S' : Blk} {w w' : World} {m m' : OMap} (W : Wider h h' S S' w w' m m') : Wider h h S S w w' m m := ⟨fun _ _ e => e, fun _ _ => rfl, fun _ e => e, W.size, W.stay, W.own⟩
theorem Mem.still [Tabs] {h : HGet} {w' : World} (M : Mem h S w m B M0) (W : Wider h h S S w w' m m) : Mem h S w' m B M0 :=
  ⟨fun id o e => by
    obtain ⟨c, h1, h2⟩ := M.obj id o e
    exact ⟨c, h1, h2.wider W M (W.own id c (heap_ne e) h1)⟩, M.dis, fun i c hi hc q hq => by
    have := M.apart i c hi hc q hq
    exact ⟨this.1, Nat.lt_of_lt_of_le this.2.1 W.size, this.2.2⟩, fun q hq => Nat.lt_of_lt_of_le (M.lt q hq) W.size⟩
theorem Rel.back [Tabs] {s : AS} {a a' : Act} {w' : World} (R : Rel w0 B M0 S m s a w) (W : Wider s.h.get s.h.get S S w w' m m) (hf : Frm w0 w' B M0) (l : List Oper) (hk : ∀ t, t ∉ dstsL l → a'.tmps.getD t undef = a.tmps.getD t undef) (hs : a'.tmps.size = a.tmps.size) (hd : a'.defers = []) : Rel w0 B M0 S m (undAll l s) a' w' := by
  have u := undAll_spec l s
  refine ⟨by rw [u.1]; exact R.mem.still W, hf, fun t => ?_, by rw [u.2.2.1, hs]; exact R.size, hd⟩
  rw [u.1]
  rcases (u.2.2.2 t).2 with h | ⟨h, h2⟩
  · rw [h]; exact trivial
  · rw [h, hk t h2]; exact (R.tmps t).wider W R.mem
theorem ev_bool [Tabs] {s : AS} {a : Act} (R : Rel w0 B M0 S m s a w) {x : Operand} {b : Bool} (e : s.ev x = .one (.pv .bool b)) : a.eval x = .bool b := by
  have := R.ev x
  rw [e] at this
  have h := this.2
  simp only [Rep, List.cons.injEq, and_true] at h
  exact h
theorem ev_bool? [Tabs] {s : AS} {a : Act} (R : Rel w0 B M0 S m s a w) {x : Operand} {b : Bool} (e : AVal.bool? (s.ev x) = some b) : a.eval x = .bool b := by
  refine ev_bool R ?_
  unfold AVal.bool? at e
  split at e
  · rename_i h; rw [h]; cases e; rfl
  · cases e
theorem run_pick {o : Oper} {c x y : Operand} {ρ : Operand → Value} {b : Bool} (ho : o.op = .pick c x y) (hc : ρ c = .bool b) (w : World) : (execOp ρ o).run P w = .ok (.value (bif b then ρ x else ρ y)) w := by
  obtain ⟨odst, op, oty, opos, oafter, oguard⟩ := o
  simp only at ho
  subst ho
  cases b <;> simp [execOp, hc, asBool]
theorem runOps_sound [Tabs] {ops : Array Oper} {Q : Exit → Act → World → Prop} {segs : List (List Oper)} {W : List (List Oper) → Act → World → Prop} (N : Runner P E ops Q segs W) (hE : Good P E) (hB0 : B ≤ w0.heap.size) : ∀ (n : Nat) (act : List (Nat × Bool)) (l tail pre : List (List Oper)) {s : AS} {a : Act} {w : World} {S : Blk} {m : OMap} {R' : Type} {k : AS → Option R'} {r : R'},
    pre ++ (l ++ tail) = segs → Rel w0 B M0 S m s a w → (∀ g ∈ act, GuardOn ops a g (dstsL l.flatten)) → runOps E ops n act l s k = some r → (∀ s' a' w' S' m', k s' = some r → Shift w0 B M0 S m s a w (dstsL l.flatten) s' a' w' S' m' → W tail a' w') → W (l ++ tail) a w
  | 0, _, _, _, _, _, _, _, _, _, _, _, _, _, _, _, e, _ => by cases e
  | n + 1, act, [], tail, pre, s, a, w, S, m, _, k, r, hp, R, ha, e, K => K s a w S m e (Shift.refl R _)
  | n + 1, act, g0 :: rest, tail, pre, s, a, w, S, m, _, k, r, hp, R, ha, e, K => by
    have memL : ∀ t, t ∈ dstsL (g0 :: rest).flatten ↔ t ∈ dstsL g0 ∨ t ∈ dstsL rest.flatten := fun t => by simp [dstsL]
    have go : (∀ g', segGuard g0 = some g' → g' ∈ act) → (runSeg E g0 s fun s' => runOps E ops n act rest s' k) = some r → W (g0 :: rest ++ tail) a w := fun hg e => by
      refine N.seg hE hB0 (pre := pre) (by simpa using hp) R (fun g' h => (ha g' (hg g' h)).next (d := []) (by simp) (fun t ht => (memL t).2 (.inl ht)) fun _ _ => rfl) e fun s' a' w' S' m' hk H => ?_
      refine runOps_sound N hE hB0 n act rest tail (pre ++ [g0]) (by simpa using hp) H.rel (fun g' h => (ha g' h).next (fun t ht => (memL t).2 (.inl ht)) (fun t ht => (memL t).2 (.inr ht)) H.keep) hk fun s2 a2 w2 S2 m2 hk2 H2 => ?_
      exact K s2 a2 w2 S2 m2 hk2 (H.trans H2 (fun t ht => (memL t).2 (.inl ht)) fun t ht => (memL t).2 (.inr ht))
    simp only [runOps] at e
    split at e
    · rename_i hg
      exact go (fun g' h => by rw [hg] at h; cases h) e
    · rename_i g hg
      cases hin : gIn act (some g) with
      | true =>
        rw [hin] at e
        exact go (fun g' h => by rw [hg] at h; cases h; exact gIn_spec hin) e
      | false =>
        rw [hin] at e
        simp only [cond_false] at e
        split at e
        · cases e
        · rename_i gd hgd
          split at e
          · rename_i x hx
            split at e
            · rename_i p after hdrop
              split at e
              · rename_i c y z hpick
                generalize hgrp : List.takeWhile (fun p => !gIn act (segGuard p)) (g0 :: rest) = grp at e
                have hl : g0 :: rest = grp ++ [p] :: after := by rw [← hgrp, ← hdrop, List.takeWhile_append_dropWhile]
                cases hchk : (!(Nat.beq c gd) || grp.flatten.any (dstIs gd) || !grpOk ops g [] grp.flatten) with
                | true => rw [hchk] at e; cases e
                | false =>
                rw [hchk] at e
                simp only [cond_false] at e
                simp only [Bool.or_eq_false_iff, Bool.not_eq_false'] at hchk
                obtain ⟨⟨hc, hnw⟩, hgok⟩ := hchk
                have hc := Nat.eq_of_beq_eq_true hc
                subst hc
                have hgdn : c ∉ dstsL grp.flatten := fun hm => by
                  obtain ⟨q, hq, hqd⟩ := List.mem_filterMap.1 hm
                  rw [List.any_eq_false] at hnw
                  have := hnw q hq
                  simp [dstIs, hqd] at this
                have hxa : a.tmps.getD c undef = .bool x := ev_bool R (x := .tmp c) hx
                have hmem : ∀ t, t ∈ dstsL (g0 :: rest).flatten ↔ t ∈ dstsL grp.flatten ∨ t ∈ dstsL [p] ∨ t ∈ dstsL after.flatten := fun t => by rw [hl, List.flatten_append, List.flatten_cons, dstsL_append, dstsL_append]; simp only [List.mem_append]
                have hpg : ∀ g', p.guard = some g' → g' ∈ act := fun g' h => by
                  have := dropWhile_head hdrop
                  simp only [segGuard, h, Bool.not_eq_false'] at this
                  exact gIn_spec this
                have pickF : ∀ (b : Bool) (s2 : AS) (a2 : Act) (w2 : World) (S2 : Blk) (m2 : OMap), Shift w0 B M0 S m s a w (dstsL grp.flatten) s2 a2 w2 S2 m2 → (bif x then a2.eval y else a2.eval z) = .bool b → runOps E ops n act after (s2.put p.dst (.one (.pv .bool b))) k = some r → W ([p] :: (after ++ tail)) a2 w2 := fun b s2 a2 w2 S2 m2 H hv e2 => by
                  refine N.one p (after ++ tail) (pre ++ grp) a2 w2 (by rw [← hp, hl]; simp) ?_
                  have hw : Region.wanted p (yielded ops a2.tmps) = true := by
                    cases h : p.guard with
                    | none => unfold Region.wanted; rw [h]
                    | some g' => exact ((ha g' (hpg g' h)).next (l' := []) (fun t ht => (hmem t).2 (.inl ht)) (by simp) H.keep).wanted h
                  rw [if_pos hw]
                  have hca : a2.eval (.tmp c) = .bool x := (H.keep c hgdn).trans hxa
                  refine wp_value (run_pick hpick hca w2) ?_
                  rw [hv]
                  have R3 := H.rel.put (v := .one (.pv .bool b)) (v' := .bool b) (pv_bool b) p.dst
                  have hh : (s2.put p.dst (.one (.pv .bool b))).h = s2.h := by cases p.dst <;> rfl
                  have htt : (s2.put p.dst (.one (.pv .bool b))).t = s2.t := by cases p.dst <;> rfl
                  have H2 : Shift w0 B M0 S m s a w (dstsL grp.flatten ++ dstsL [p]) (s2.put p.dst (.one (.pv .bool b))) (a2.put p.dst (.bool b)) w2 S2 m2 :=
                    ⟨R3, H.ext, by rw [htt]; exact H.t, fun et => by rw [hh]; rw [htt] at et; exact H.wide et, fun t ht => by
                      simp only [List.mem_append, not_or] at ht
                      rw [← H.keep t ht.1]
                      refine Act.eval_put (a := a2) (dst := p.dst) (v := .bool b) (x := .tmp t) fun d hd hx => ht.2 ?_
                      cases hx
                      simp [dstsL, hd], (by cases p.dst <;> simp [Act.put] : (a2.put p.dst (.bool b)).tmps.size = a2.tmps.size).trans H.len⟩
                  refine runOps_sound N hE hB0 n act after tail (pre ++ grp ++ [[p]]) (by rw [← hp, hl]; simp) R3 (fun g' h => (ha g' h).next (d := dstsL grp.flatten ++ dstsL [p]) (fun t ht => (hmem t).2 ?_) (fun t ht => (hmem t).2 (.inr (.inr ht))) H2.keep) e2 fun s3 a3 w3 S3 m3 hk3 H3 => ?_
                  · simp only [List.mem_append] at ht
                    exact ht.imp id .inl
                  · refine K s3 a3 w3 S3 m3 hk3 (H2.trans H3 (fun t ht => (hmem t).2 ?_) fun t ht => (hmem t).2 (.inr (.inr ht)))
                    simp only [List.mem_append] at ht
                    exact ht.imp id .inl
                have hsplit : g0 :: rest ++ tail = grp ++ ([p] :: (after ++ tail)) := by rw [hl]; simp
                rw [hsplit]
                have hin' : ∀ q ∈ grp, segGuard q ≠ none ∧ q ≠ [] := fun q hq => by
                  rw [← hgrp] at hq
                  have := takeWhile_all hq
                  have hn : segGuard q ≠ none := fun h => by rw [h] at this; simp [gIn] at this
                  exact ⟨hn, fun h => by rw [h] at hn; exact hn rfl⟩
                cases hfk : E.forks.any (Nat.beq c)
                case true =>
                  rw [hfk] at e
                  simp only [cond_true] at e
                  have run : x = g.2 → runOps E ops n (g :: act) grp s (fun s' => (AVal.bool? (s'.ev (bif g.2 then y else z))).bind fun r => runOps E ops n act after (s'.put p.dst (.one (.pv .bool r))) k) = some r → W (grp ++ ([p] :: (after ++ tail))) a w := fun hxg e1 => by
                    refine runOps_sound N hE hB0 n (g :: act) grp ([p] :: (after ++ tail)) pre (by rw [← hp, ← hsplit]) R (fun g' h => ?_) e1 fun s2 a2 w2 S2 m2 hk2 H2 => ?_
                    · rcases List.mem_cons.1 h with rfl | h
                      · exact ⟨c, hgd, hgdn, by rw [hxa, hxg]⟩
                      · exact (ha g' h).next (d := []) (by simp) (fun t ht => (hmem t).2 (.inl ht)) fun _ _ => rfl
                    · obtain ⟨b, hv, hk2⟩ := Option.bind_eq_some_iff.1 hk2
                      refine pickF b s2 a2 w2 S2 m2 H2 ?_ hk2
                      · skip
                        rw [← hxg] at hv
                        cases x with
                        | true => exact ev_bool? H2.rel hv
                        | false => exact ev_bool? H2.rel hv
                  have skip : x ≠ g.2 → ((AVal.bool? ((undAll grp.flatten s).ev (bif g.2 then z else y))).bind fun r => runOps E ops n act after ((undAll grp.flatten s).put p.dst (.one (.pv .bool r))) k) = some r → W (grp ++ ([p] :: (after ++ tail))) a w := fun hxg hk2 => by
                    obtain ⟨b, hv, hk2⟩ := Option.bind_eq_some_iff.1 hk2
                    have hy : yielded ops a.tmps g.1 ≠ some g.2 := by
                      unfold yielded
                      rw [hgd]
                      simp only [Option.bind_some, getD_bool hxa]
                      exact fun h => hxg (Option.some.inj h)
                    refine skip_grp N grp pre [] a (by rw [← hp, ← hsplit]) hin' hgok (by simp) hy (fun gd h => by rw [hgd] at h; cases h; exact hgdn) fun a2 k1 k2 k3 => ?_
                    have Wd : Wider s.h.get s.h.get S S w w m m := Wider.refl _ _ _ _
                    have u := undAll_spec grp.flatten s
                    have R2 := R.back Wd R.frm grp.flatten k1 k2 (k3.trans R.defers)
                    refine pickF b (undAll grp.flatten s) a2 w S m ⟨R2, Ext.refl B M0 S w, by rw [u.2.1]; exact Nat.le_refl _, fun _ => by rw [u.1]; exact Wd, k1, k2⟩ ?_ hk2
                    cases x with
                    | true =>
                      have : g.2 = false := by cases h : g.2 with | false => rfl | true => exact absurd h.symm hxg
                      rw [this] at hv
                      exact ev_bool? R2 hv
                    | false =>
                      have : g.2 = true := by cases h : g.2 with | true => rfl | false => exact absurd h.symm hxg
                      rw [this] at hv
                      exact ev_bool? R2 hv
                  cases x with
                  | true =>
                    cases h : g.2 with
                    | true => simp only [h, cond_true] at e; exact run h.symm (by simpa [h] using e)
                    | false => simp only [h, cond_true, cond_false] at e; exact skip (by simp [h]) (by simpa [h] using e)
                  | false =>
                    cases h : g.2 with
                    | true => simp only [h, cond_true, cond_false] at e; exact skip (by simp [h]) (by simpa [h] using e)
                    | false => simp only [h, cond_false] at e; exact run h.symm (by simpa [h] using e)
                case false =>
                  rw [hfk] at e
                  simp only [cond_false, Option.bind_eq_some_iff] at e
                  obtain ⟨b, e1, e2⟩ := e
                  have pick : ∀ (s2 : AS) (a2 : Act) (w2 : World) (S2 : Blk) (m2 : OMap), Shift w0 B M0 S m s a w (dstsL grp.flatten) s2 a2 w2 S2 m2 → s2.t = s.t → Rel w0 B M0 S m (undAll grp.flatten s) a2 w2 → Wider s.h.get s.h.get S S w w2 m m → (bif x then a2.eval y else a2.eval z) = .bool b → W ([p] :: (after ++ tail)) a2 w2 := fun s2 a2 w2 S2 m2 H ht R2 Wd hv => by
                    have u := undAll_spec grp.flatten s
                    exact pickF b (undAll grp.flatten s) a2 w2 S m ⟨R2, Wd.ext fun _ h => .inl h, by rw [u.2.1]; exact Nat.le_refl _, fun _ => by rw [u.1]; exact Wd, H.keep, H.len⟩ hv e2
                  have run : x = g.2 → runOps E ops n (g :: act) grp s (fun s' => bif !(Nat.beq s'.t s.t) then none else AVal.bool? (s'.ev (bif g.2 then y else z))) = some b → W (grp ++ ([p] :: (after ++ tail))) a w := fun hxg e1 => by
                    refine runOps_sound N hE hB0 n (g :: act) grp ([p] :: (after ++ tail)) pre (by rw [← hp, ← hsplit]) R (fun g' h => ?_) e1 fun s2 a2 w2 S2 m2 hk2 H2 => ?_
                    · rcases List.mem_cons.1 h with rfl | h
                      · exact ⟨c, hgd, hgdn, by rw [hxa, hxg]⟩
                      · exact (ha g' h).next (d := []) (by simp) (fun t ht => (hmem t).2 (.inl ht)) fun _ _ => rfl
                    · cases ht : Nat.beq s2.t s.t with
                      | false => rw [ht] at hk2; cases hk2
                      | true =>
                        rw [ht] at hk2
                        have ht := Nat.eq_of_beq_eq_true ht
                        have Wd := (H2.wide ht).self
                        refine pick s2 a2 w2 S2 m2 H2 ht (R.back Wd H2.rel.frm grp.flatten H2.keep H2.len H2.rel.defers) Wd ?_
                        have hv : AVal.bool? (s2.ev (bif g.2 then y else z)) = some b := hk2
                        rw [← hxg] at hv
                        cases x with
                        | true => exact ev_bool? H2.rel hv
                        | false => exact ev_bool? H2.rel hv
                  have skip : x ≠ g.2 → AVal.bool? ((undAll grp.flatten s).ev (bif g.2 then z else y)) = some b → W (grp ++ ([p] :: (after ++ tail))) a w := fun hxg hv => by
                    have hy : yielded ops a.tmps g.1 ≠ some g.2 := by
                      unfold yielded
                      rw [hgd]
                      simp only [Option.bind_some, getD_bool hxa]
                      exact fun h => hxg (Option.some.inj h)
                    refine skip_grp N grp pre [] a (by rw [← hp, ← hsplit]) hin' hgok (by simp) hy (fun gd h => by rw [hgd] at h; cases h; exact hgdn) fun a2 k1 k2 k3 => ?_
                    have Wd : Wider s.h.get s.h.get S S w w m m := Wider.refl _ _ _ _
                    have u := undAll_spec grp.flatten s
                    have R2 := R.back Wd R.frm grp.flatten k1 k2 (k3.trans R.defers)
                    refine pick (undAll grp.flatten s) a2 w S m ⟨R2, Ext.refl B M0 S w, by rw [u.2.1]; exact Nat.le_refl _, fun _ => by rw [u.1]; exact Wd, k1, k2⟩ u.2.1 R2 Wd ?_
                    cases x with
                    | true =>
                      have : g.2 = false := by cases h : g.2 with | false => rfl | true => exact absurd h.symm hxg
                      rw [this] at hv
                      exact ev_bool? R2 hv
                    | false =>
                      have : g.2 = true := by cases h : g.2 with | true => rfl | false => exact absurd h.symm hxg
                      rw [this] at hv
                      exact ev_bool? R2 hv
                  cases x with
                  | true =>
                    cases h : g.2 with
                    | true => simp only [h, cond_true] at e1; exact run h.symm (by simpa [h] using e1)
                    | false => simp only [h, cond_true, cond_false] at e1; exact skip (by simp [h]) (by simpa [h] using e1)
                  | false =>
                    cases h : g.2 with
                    | true => simp only [h, cond_true, cond_false] at e1; exact skip (by simp [h]) (by simpa [h] using e1)
                    | false => simp only [h, cond_false] at e1; exact run h.symm (by simpa [h] using e1)
              · cases e
            · cases e
          · cases e
end
end Go.Ab
