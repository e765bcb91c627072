/-
  Stretches whose operations turn nothing: the state after any of them.
-/
import Derived.Test.YtffmiefhnbkcbaaGreatXStep2
namespace Go.Ab
open Go Go.RowKit
def Quiet (E : Env) (s : AS) (o : Oper) (v : AVal) (os : AHeap) : Prop :=
  (aQ E s.ev s.h.get (o.dst.getD 0) o.op).gives v os ∨
  ∃ c f g caps C x y z, o.op = .call c ∧ c.callee = .value f ∧ s.ev f = .one (.cl g caps) ∧ (g, C) ∈ E.G ∧ allVal C.ps = true ∧ (RK.leads C.rs = true → argIds C.ps (callVals s.ev c.args.toList caps) = []) ∧
    takeArgs s.h C.ps (callVals s.ev c.args.toList caps) = some x ∧ C.fn x = some y ∧ midV C.ps y = some z ∧ (putRes (o.dst.getD 0 * 16) C.rs z).2.2 ≤ o.dst.getD 0 * 16 + 16 ∧ v = resVal (putRes (o.dst.getD 0 * 16) C.rs z).1 ∧ os = (putRes (o.dst.getD 0 * 16) C.rs z).2.1
def Clear (s : AS) (d : Nat) : Prop := ∀ id, d * 16 ≤ id → id ≤ d * 16 + 15 → s.h.get id = none
theorem fresh_clear [Tabs] (s : AS) (d : Nat) : Clear (s.fresh d) d := fun id h1 h2 => by
  unfold AS.fresh
  apply kills_none
  cases hg : s.h.get id with
  | none => exact .inl rfl
  | some o =>
    right
    simp only [List.mem_map, List.mem_filter, Bool.and_eq_true]
    exact ⟨(id, o), ⟨get_some_mem hg, Nat.ble_eq_true_of_le h1, Nat.ble_eq_true_of_le h2⟩, rfl⟩
theorem aQuiet_quiet [Tabs] {E : Env} {s : AS} {o : Oper} {R : Type} {k : AVal → AS → Option R} {r : R} (e : aQuiet E s (o.dst.getD 0) o.op k = some r) :
    ∃ v s', k v s' = some r ∧ s.t ≤ s'.t ∧ (s'.t = s.t → ∃ os, s' = { s with h := os ++ s.h } ∧ Quiet E s o v os ∧ Clear s (o.dst.getD 0)) := by
  unfold aQuiet at e
  generalize hd : o.dst.getD 0 = d at e
  have t1 := fresh_t s d
  have c1 := fresh_clear s d
  generalize s.fresh d = s1 at *
  have t2 := frzAll_t (gives E s1 d o.op) s1
  simp only at e
  generalize s1.frzAll (gives E s1 d o.op) = s2 at *
  obtain ⟨v, os, g, hk⟩ := QRes.gives_of_run e
  refine ⟨v, _, hk, Nat.le_trans t1.1 t2.1, fun et => ?_⟩
  simp only at et
  have e2 : s2 = s1 := t2.2 (by omega)
  have e1 : s1 = s := t1.2 (by omega)
  subst e2; subst e1
  exact ⟨os, rfl, .inl (by rw [hd]; exact g), c1⟩
theorem aStore_t [Tabs] {mv : Bool} {s : AS} {u : Ty} {c : ACell} {v : AVal} {R : Type} {k : AS → Option R} {r : R} (e : aStore mv s u c v k = some r) : ∃ s', k s' = some r ∧ s.t < s'.t := by
  unfold aStore at e
  split at e
  · split at e
    · generalize (v.solid && Nat.beq v.cells.length u.size && Nat.ble _ _) = b at e
      cases b with
      | false => cases e
      | true => exact ⟨_, e, Nat.lt_succ_self _⟩
    · cases e
  · split at e
    · generalize (mv && _) = bm at e
      cases bm with
      | true =>
        simp only [cond_true] at e
        generalize (v.solid && Nat.beq v.cells.length u.size && Nat.ble _ _ && _) = b at e
        cases b with
        | false => cases e
        | true =>
          simp only [cond_true] at e
          generalize Nat.beq u.size _ = b2 at e
          cases b2 with
          | true =>
            simp only [cond_true] at e
            split at e
            · exact ⟨_, e, Nat.lt_succ_of_le (killL_t _ s)⟩
            · cases e
          | false =>
            simp only [cond_false, Option.bind_eq_some_iff] at e
            obtain ⟨x, _, e⟩ := e
            split at e
            · exact ⟨_, e, Nat.lt_succ_of_le (killL_t _ s)⟩
            · cases e
      | false =>
      simp only [cond_false] at e
      generalize (v.solid && Nat.beq v.cells.length u.size && Nat.ble _ _ && _) = b at e
      cases b with
      | false => cases e
      | true =>
        simp only [cond_true] at e
        generalize Nat.beq u.size _ = b2 at e
        cases b2 with
        | true =>
          simp only [cond_true] at e
          split at e
          · exact ⟨_, e, Nat.lt_succ_of_le (frzAll_t _ s).1⟩
          · cases e
        | false =>
          simp only [cond_false, Option.bind_eq_some_iff] at e
          obtain ⟨x, _, e⟩ := e
          split at e
          · exact ⟨_, e, Nat.lt_succ_of_le (frzAll_t _ s).1⟩
          · cases e
    · cases e
  · cases e
theorem bear_t (s : AS) (id : Nat) (t : Ty) (zs : List t.den) : (s.bear id t zs).t = s.t + 1 := rfl
theorem aAppendMv_t [Tabs] {s : AS} {d : Nat} {t : Ty} {a x : ACell} {R : Type} {k : AVal → AS → Option R} {r : R} (e : aAppendMv s d t a x k = some r) : ∃ v s', k v s' = some r ∧ s.t < s'.t := by
  unfold aAppendMv at e
  split at e
  · rename_i j
    split at e
    · split at e
      · split at e
        · generalize decide (_ ≤ lim) = b at e
          cases b with
          | false => cases e
          | true => exact ⟨_, _, e, by rw [bear_t]; have := (fresh_t (s.kill j) d).1; have e1 : (s.kill j).t = s.t + 1 := rfl; omega⟩
        · split at e
          · generalize (Nat.beq _ _ || _) = b at e
            cases b with
            | true => cases e
            | false =>
              simp only [cond_false] at e
              split at e
              · generalize decide (_ ≤ lim) = b at e
                cases b with
                | false => cases e
                | true => exact ⟨_, _, e, by show s.t < s.t + 1 + 1; omega⟩
              · cases e
          · cases e
        · cases e
      · cases e
    · cases e
  · cases e
theorem aBuildMv_t [Tabs] {E : Env} {s : AS} {d t n : Nat} {ps : List (Nat × Operand)} {R : Type} {k : AVal → AS → Option R} {r : R} (e : aBuildMv E s d t n ps k = some r) : ∃ v s', k v s' = some r ∧ s.t < s'.t := by
  unfold aBuildMv at e
  split at e
  · rename_i u x _
    generalize (_ && _ : Bool) = b at e
    cases b with
    | false => cases e
    | true =>
      simp only [cond_true] at e
      split at e
      · exact ⟨_, _, e, by rw [bear_t]; have := (fresh_t (s.killL (osIn (s.ev x).cells)) d).1; have := killL_t (osIn (s.ev x).cells) s; omega⟩
      · cases e
  · cases e
theorem aAppend_t [Tabs] {E : Env} {s : AS} {d st : Nat} {a x : ACell} {R : Type} {k : AVal → AS → Option R} {r : R} (e : aAppend E s d st a x k = some r) : ∃ v s', k v s' = some r ∧ s.t < s'.t := by
  unfold aAppend at e
  split at e
  · rename_i t _
    cases hmv : (E.mv && (t.leads && canMv s a x)) with
    | true =>
      rw [hmv] at e
      simp only [cond_true] at e
      exact aAppendMv_t e
    | false =>
    rw [hmv] at e
    simp only [cond_false] at e
    cases hn : (t.leads && !noSb [x]) with
    | true => rw [hn] at e; cases e
    | false =>
    rw [hn] at e
    simp only [cond_false] at e
    split at e
    · rename_i ys _
      have ts : s.t ≤ (bif t.leads then s.frzAll (osIn [x]) else s).t := by
        cases t.leads with
        | false => exact Nat.le_refl _
        | true => exact (frzAll_t _ s).1
      generalize (bif t.leads then s.frzAll (osIn [x]) else s) = s1 at *
      split at e
      · generalize decide (ys.length ≤ lim) = b at e
        cases b with
        | false => cases e
        | true => exact ⟨_, _, e, Nat.lt_succ_of_le (Nat.le_trans ts (fresh_t s1 d).1)⟩
      · split at e
        · generalize (Nat.ble _ _ && Nat.ble _ _) = b at e
          cases b with
          | true => cases e
          | false =>
            simp only [cond_false] at e
            split at e
            · generalize decide (_ ≤ lim) = b at e
              cases b with
              | false => cases e
              | true => exact ⟨_, _, e, Nat.lt_succ_of_le ts⟩
            · cases e
        · cases e
      · cases e
    · cases e
  · cases e
theorem backIn_t : ∀ {t : Ty} {x : t.den} {cs : List ACell} {s : AS} {R : Type} {k : AS → Option R} {r : R}, backIn t x cs s k = some r → ∃ s', k s' = some r ∧ s.t ≤ s'.t
  | .unit, _, _, s, _, _, _, e => ⟨s, e, Nat.le_refl _⟩
  | .bool, _, _, s, _, _, _, e => ⟨s, e, Nat.le_refl _⟩
  | .int _, _, _, s, _, _, _, e => ⟨s, e, Nat.le_refl _⟩
  | .str, _, _, s, _, _, _, e => ⟨s, e, Nat.le_refl _⟩
  | .pair a b, x, cs, s, _, k, r, e => by
    simp only [backIn] at e
    obtain ⟨s1, e1, h1⟩ := backIn_t e
    obtain ⟨s2, e2, h2⟩ := backIn_t e1
    exact ⟨s2, e2, Nat.le_trans h1 h2⟩
  | .slice t, x, [], s, _, k, r, e => ⟨s, e, Nat.le_refl _⟩
  | .slice t, x, c :: cs, s, _, k, r, e => by
    cases c with
    | os id =>
      simp only [backIn] at e
      split at e
      · exact ⟨_, e, Nat.le_succ _⟩
      · cases e
    | sb id i off e' y =>
      simp only [backIn] at e
      split at e
      · split at e
        · exact ⟨_, e, Nat.le_succ _⟩
        · cases e
      · cases e
    | _ => exact ⟨s, e, Nat.le_refl _⟩
theorem putMuts_t [Tabs] : ∀ {ps : List PK} {vs : List AVal} {ts : List Ty} {x : dens (PK.mtys ps ts)} {s : AS} {R : Type} {k : dens ts → AS → Option R} {r : R}, putMuts ps vs ts x s k = some r → ∃ y s', k y s' = some r ∧ s.t ≤ s'.t
  | [], vs, _, x, s, _, k, r, e => by cases vs <;> exact ⟨x, s, e, Nat.le_refl _⟩
  | .val t :: ps, [], _, _, _, _, _, _, e => by cases e
  | .val t :: ps, _ :: vs, _, x, s, _, k, r, e => putMuts_t (ps := ps) (vs := vs) (x := x) e
  | .rp t :: ps, [], _, _, _, _, _, _, e => by cases e
  | .rp t :: ps, _ :: vs, _, x, s, _, k, r, e => putMuts_t (ps := ps) (vs := vs) (x := x) e
  | .fn g ts :: ps, [], _, _, _, _, _, _, e => by cases e
  | .fn g ts :: ps, _ :: vs, _, x, s, _, k, r, e => putMuts_t (ps := ps) (vs := vs) (x := x) e
  | .own t :: ps, [], _, _, _, _, _, _, e => by cases e
  | .own t :: ps, v :: vs, ts, x, s, _, k, r, e => by
    simp only [putMuts] at e
    obtain ⟨s1, e1, h1⟩ := backIn_t e
    obtain ⟨y, s2, e2, h2⟩ := putMuts_t e1
    exact ⟨y, s2, e2, Nat.le_trans h1 h2⟩
  | .mbox t :: ps, [], _, _, _, _, _, _, e => by cases e
  | .mbox t :: ps, v :: vs, ts, x, s, _, k, r, e => by
    cases v with
    | one c =>
      cases c with
      | op id off =>
        simp only [putMuts] at e
        obtain ⟨y, s2, e2, h2⟩ := putMuts_t e
        exact ⟨y, s2, e2, Nat.le_trans (Nat.le_succ _) h2⟩
      | _ => cases e
    | _ => cases e
theorem aCall_quiet [Tabs] {E : Env} {s : AS} {o : Oper} {c : Call} {f : Operand} {g : FuncId} {C : FnSpec} {caps : List Cap} (ho : o.op = .call c) (hc : c.callee = .value f) (hf : s.ev f = .one (.cl g caps)) (hl : (g, C) ∈ E.G) {R : Type} {k : AVal → AS → Option R} {r : R}
    (e : aCall s (o.dst.getD 0) C c.args.toList caps k = some r) : ∃ v s', k v s' = some r ∧ s.t ≤ s'.t ∧ (s'.t = s.t → ∃ os, s' = { s with h := os ++ s.h } ∧ Quiet E s o v os ∧ Clear s (o.dst.getD 0)) := by
  unfold aCall at e
  cases hg : (!(allVal C.ps || (ownShape C.ps && plainRs C.rs))) with
  | true => rw [hg] at e; cases e
  | false =>
  rw [hg] at e
  simp only [cond_false] at e
  generalize hd : o.dst.getD 0 = d at e
  obtain ⟨s1, hs, ts⟩ : ∃ s1, (bif RK.leads C.rs then s.frzAll (argOs C.ps (callVals s.ev c.args.toList caps)) else s) = s1 ∧ s.t ≤ s1.t ∧ (s1.t = s.t → s1 = s) := by
    cases RK.leads C.rs with
    | false => exact ⟨s, rfl, Nat.le_refl _, fun _ => rfl⟩
    | true => exact ⟨_, rfl, frzAll_t _ s⟩
  simp only [hs] at e
  cases hle : ((RK.leads C.rs || !allVal C.ps) && !(argIds C.ps (callVals s1.ev c.args.toList caps)).isEmpty) with
  | true => rw [hle] at e; cases e
  | false =>
  rw [hle] at e
  simp only [cond_false] at e
  cases hx : takeArgs s1.h C.ps (callVals s1.ev c.args.toList caps) with
  | none => rw [hx] at e; cases e
  | some x =>
  rw [hx] at e
  simp only [Option.bind_eq_some_iff] at e
  obtain ⟨y, hy, e⟩ := e
  cases hv : allVal C.ps with
  | false =>
    obtain ⟨z, s2, e, h2⟩ := putMuts_t e
    cases hn : Nat.ble (putRes (d * 16) C.rs z).2.2 (d * 16 + 16) with
    | false => simp only [hn, cond_false] at e; cases e
    | true =>
      simp only [hn, cond_true, hv, cond_false] at e
      have t3 := fresh_t s2 d
      refine ⟨_, _, e, ?_, fun et => ?_⟩
      · show s.t ≤ (s2.fresh d).t + 1; omega
      · have : (s2.fresh d).t + 1 = s.t := et
        omega
  | true =>
  obtain ⟨z, hz, e⟩ := put_val hv e
  have t1 := fresh_t s1 d
  have c1 := fresh_clear s1 d
  cases hn : Nat.ble (putRes (d * 16) C.rs z).2.2 (d * 16 + 16) with
  | false => simp only [hn, cond_false] at e; cases e
  | true =>
  simp only [hn, cond_true, hv] at e
  refine ⟨_, _, e, Nat.le_trans ts.1 t1.1, fun et => ?_⟩
  simp only at et
  have e2 : s1.fresh d = s1 := t1.2 (by omega)
  have e1 : s1 = s := ts.2 (by omega)
  rw [e2, e1] at c1
  rw [e2, e1]
  subst e1
  refine ⟨_, rfl, .inr ⟨c, f, g, caps, C, x, y, z, ho, hc, hf, hl, hv, fun hr => ?_, hx, hy, hz, ?_⟩, c1⟩
  · rw [hr] at hle; simpa using hle
  · rw [hd]; exact ⟨Nat.le_of_ble_eq_true hn, rfl, rfl⟩
theorem aCallB_t [Tabs] {s0 : AS} {d : Nat} {C : FnSpec} {xs : List Operand} {caps : List Cap} {R : Type} {k : AVal → AS → Option R} {r : R} (e : aCallB s0 d C xs caps k = some r) : ∃ v s', k v s' = some r ∧ s0.t < s'.t := by
  obtain ⟨ps, rs, fn⟩ := C
  cases ps with
  | nil => cases e
  | cons p ps =>
  cases p with
  | mbox t =>
    simp only [aCallB] at e
    have ts := frzAll_t (argOs (.mbox t :: ps) (callVals s0.ev xs caps)) s0
    generalize s0.frzAll (argOs (.mbox t :: ps) (callVals s0.ev xs caps)) = s at e ts
    cases hle : (argIds (.mbox t :: ps) (callVals s.ev xs caps)).isEmpty with
    | false => rw [hle] at e; cases e
    | true =>
    rw [hle] at e
    simp only [Bool.not_true, cond_false] at e
    cases hid : boxId (callVals s.ev xs caps) with
    | none => rw [hid] at e; cases e
    | some id =>
    rw [hid] at e
    simp only at e
    cases hrg : (Nat.ble (d * 16) id && Nat.ble id (d * 16 + 15)) with
    | true => rw [hrg] at e; cases e
    | false =>
    rw [hrg] at e
    simp only [cond_false] at e
    cases hx : takeArgs s.h (.mbox t :: ps) (callVals s.ev xs caps) with
    | none => rw [hx] at e; cases e
    | some x =>
    rw [hx] at e
    simp only [Option.bind_eq_some_iff] at e
    obtain ⟨y, hy, e⟩ := e
    unfold boxGo at e
    simp only [Option.bind_eq_some_iff] at e
    obtain ⟨z, hz, e⟩ := e
    cases hn : Nat.ble (putRes (d * 16) rs z).2.2 (d * 16 + 16) with
    | false => simp only [hn, cond_false] at e; cases e
    | true =>
    simp only [hn, cond_true] at e
    have tf := fresh_t s d
    exact ⟨_, _, e, by show s0.t < (s.fresh d).t + 1; omega⟩
  | _ => cases e
theorem aStoreInn_t {s : AS} {u : Ty} {id i off j : Nat} {e : Ty} {y : e.den} {v : AVal} {R : Type} {k : AS → Option R} {r : R} (h : aStoreInn s u id i off e y j v k = some r) : ∃ s', k s' = some r ∧ s.t < s'.t := by
  unfold aStoreInn at h
  split at h
  · rename_i e' xs u2 z _ _
    cases hb : (u2.leads || (u2.isAgg || !(decide (u2 = u) && v.fits u2))) with
    | true => rw [hb] at h; cases h
    | false =>
      rw [hb] at h
      simp only [cond_false] at h
      split at h
      · split at h
        · split at h
          · exact ⟨_, h, Nat.lt_succ_self _⟩
          · cases h
        · cases h
      · cases h
  · cases h
theorem aStoreSame_t {s : AS} {id : Nat} {R : Type} {k : AS → Option R} {r : R} (h : aStoreSame s id k = some r) : ∃ s', k s' = some r ∧ s.t < s'.t := by
  unfold aStoreSame at h
  split at h
  · exact ⟨_, h, Nat.lt_succ_self _⟩
  · cases h
theorem aStoreApp_t {s : AS} {id i off : Nat} {e : Ty} {y : e.den} {t : Ty} {ys : List t.den} {R : Type} {k : AS → Option R} {r : R} (h : aStoreApp s id i off e y t ys k = some r) : ∃ s', k s' = some r ∧ s.t < s'.t := by
  unfold aStoreApp at h
  split at h
  · split at h
    · split at h
      · split at h
        · exact ⟨_, h, Nat.lt_succ_self _⟩
        · cases h
      · cases h
    · cases h
  · cases h
theorem aAppSb_t [Tabs] {E : Env} {s : AS} {d st id i off : Nat} {e : Ty} {y : e.den} {x : ACell} {R : Type} {k : AVal → AS → Option R} {r : R} (h : aAppSb E s d st id i off e y x k = some r) : ∃ v s', k v s' = some r ∧ s.t < s'.t := by
  unfold aAppSb at h
  split at h
  · rename_i t _ _ _ _ _ _ _
    split at h
    · rename_i zs ys _ _
      cases hb : (t.leads || List.isEmpty ys) with
      | true => rw [hb] at h; cases h
      | false =>
        rw [hb] at h
        simp only [cond_false] at h
        split at h
        · cases hle : decide (List.length zs + List.length ys ≤ lim) with
          | false => rw [hle] at h; cases h
          | true =>
            rw [hle] at h
            exact ⟨_, _, (bothSame_spec h).2, by have := (fresh_t s d).1; show s.t < (s.fresh d).t + 1; omega⟩
        · cases h
    · cases h
  · cases h
theorem aOp_quiet [Tabs] {E : Env} {s : AS} {o : Oper} {R : Type} {k : AVal → AS → Option R} {r : R} (e : aOp E s o.dst o.op k = some r) :
    ∃ v s', k v s' = some r ∧ s.t ≤ s'.t ∧ (s'.t = s.t → ∃ os, s' = { s with h := os ++ s.h } ∧ Quiet E s o v os ∧ Clear s (o.dst.getD 0)) := by
  have quiet : aQuiet E s (o.dst.getD 0) o.op k = some r → _ := fun e => aQuiet_quiet e
  have loud : ∀ {v s'}, k v s' = some r → s.t < s'.t → ∃ v s', k v s' = some r ∧ s.t ≤ s'.t ∧ (s'.t = s.t → ∃ os, s' = { s with h := os ++ s.h } ∧ Quiet E s o v os ∧ Clear s (o.dst.getD 0)) := fun e h => ⟨_, _, e, Nat.le_of_lt h, fun et => by omega⟩
  unfold aOp at e
  generalize hop : o.op = op at e quiet
  cases op with
  | store t x y =>
    simp only at e
    cases hu : look E.T t with
    | none => rw [hu] at e; cases e
    | some u =>
    cases hc : s.ev x with
    | one c =>
      rw [hu, hc] at e
      simp only at e
      rcases stSel_cases c (s.ev y) with ⟨id, i, off, el, y0, j, _, h2⟩ | ⟨id, i, off, el, y0, u', ys, i2, _, _, h2⟩ | ⟨id, i, off, el, y0, i2, _, _, h2⟩ | h2
      · rw [h2] at e
        obtain ⟨s', e, h⟩ := aStoreInn_t e
        exact loud e h
      · rw [h2] at e
        simp only at e
        cases hd : decide (u = .slice u') with
        | false => rw [hd] at e; cases e
        | true =>
          rw [hd] at e
          simp only [cond_true] at e
          cases hbi : Nat.beq i i2 with
          | false => rw [hbi] at e; cases e
          | true =>
          rw [hbi] at e
          obtain ⟨s', e, h⟩ := aStoreApp_t e
          exact loud e h
      · rw [h2] at e
        simp only at e
        cases hsz : Nat.beq u.size 1 with
        | false => rw [hsz] at e; cases e
        | true =>
        rw [hsz] at e
        simp only [cond_true] at e
        cases hbi : Nat.beq i i2 with
        | false => rw [hbi] at e; cases e
        | true =>
        rw [hbi] at e
        obtain ⟨s', e, h⟩ := aStoreSame_t e
        exact loud e h
      · rw [h2] at e
        obtain ⟨s', e, h⟩ := aStore_t e
        exact loud e h
    | _ => rw [hu, hc] at e; cases e
  | call c =>
    simp only at e
    cases hc : c.callee with
    | value f =>
      rw [hc] at e
      simp only at e
      cases hf : s.ev f with
      | one cc =>
        rw [hf] at e
        cases cc with
        | cl g cap =>
            simp only at e
            cases hl : lookG E.G g (c.args.toList.map s.ev) with
            | none =>
              rw [hl] at e
              simp only at e
              cases cap with
              | nil =>
                simp only [List.isEmpty_nil, cond_true] at e
                split at e
                · rcases aSel_t e with ⟨v, s', e, h⟩ | ⟨hv, e⟩
                  · exact loud e h
                  · rename_i D _ _
                    obtain ⟨v, s', e, h, _⟩ := aCall_quiet (E := { T := [], G := [(g, D.C)], ro := [], loops := [], joins := [] }) (s := { s with t := s.t + 1 }) hop hc hf (List.mem_singleton.2 rfl) e
                    exact loud (v := v) (s' := s') e (by have : s.t + 1 ≤ s'.t := h; omega)
                · split at e
                  · obtain ⟨v, s', e, h⟩ := aDel_t e
                    exact loud e h
                  · obtain ⟨v, s', e, h⟩ := aIns_t e
                    exact loud e h
              | cons _ _ => cases e
            | some C =>
              rw [hl] at e
              cases hbx : boxShape C.ps with
              | true =>
                simp only [hbx, cond_true] at e
                obtain ⟨v, s', e, h⟩ := aCallB_t e
                exact loud e h
              | false =>
                simp only [hbx, cond_false] at e
                exact aCall_quiet hop hc hf (lookG_mem hl) e
        | _ => cases e
      | _ => rw [hf] at e; cases e
    | builtin b =>
      rw [hc] at e
      cases b with
      | append =>
        simp only at e
        split at e
        · rename_i st st' ca cx h1 h2
          cases hq : quietApp E s st ca cx with
          | true =>
            rw [hq] at e
            exact quiet e
          | false =>
          rw [hq] at e
          simp only [cond_false] at e
          cases hb : Nat.beq st st' with
          | false => rw [hb] at e; cases e
          | true =>
            rw [hb] at e
            simp only [cond_true] at e
            cases hgr : growId E (o.dst.getD 0) ca with
            | some id =>
              rw [hgr] at e
              obtain ⟨v, s', e, h⟩ := aGrow_t e
              exact loud e h
            | none =>
            rw [hgr] at e
            simp only at e
            split at e
            · obtain ⟨v, s', e, h⟩ := aCut_t e
              exact loud e h
            cases ca with
            | sb id i off el y0 =>
              obtain ⟨v, s', e, h⟩ := aAppSb_t e
              exact loud e h
            | _ =>
              obtain ⟨v, s', e, h⟩ := aAppend_t e
              exact loud e h
        · cases e
      | _ => exact quiet e
    | _ => rw [hc] at e; exact quiet e
  | binOp bop t x y t' =>
    simp only at e
    cases hb : isNilCmp E s bop t x y with
    | true =>
      rw [hb] at e
      obtain ⟨v, s', e, h⟩ := aNil_t e
      exact loud e h
    | false => rw [hb] at e; exact quiet e
  | buildSlice t n ps =>
    simp only at e
    cases hb : (E.mv && canBuildMv s ps.toList) with
    | true =>
      rw [hb] at e
      obtain ⟨v, s', e, h⟩ := aBuildMv_t e
      exact loud e h
    | false => rw [hb] at e; exact quiet e
  | indexAddr st x i =>
    simp only at e
    cases hz : fzIdx E s (o.dst.getD 0) x with
    | some id =>
      rw [hz] at e
      simp only at e
      rw [← hop] at e
      obtain ⟨v, s', e, h, _⟩ := aQuiet_quiet e
      exact loud e (by have := fzIdx_t hz; omega)
    | none =>
    rw [hz] at e
    simp only at e
    cases hz2 : shLoad E s (o.dst.getD 0) x with
    | some s1 =>
      rw [hz2] at e
      simp only at e
      rw [← hop] at e
      obtain ⟨id, d, el, xs, h1, rfl⟩ := shLoad_spec hz2
      obtain ⟨v, s', e, h, _⟩ := aQuiet_quiet e
      exact loud e (by have h2 : s.t + 1 ≤ s'.t := h; omega)
    | none =>
    rw [hz2] at e
    simp only at e
    cases hb : isIdxB E s st x i with
    | true =>
      rw [hb] at e
      obtain ⟨v, s', e, h⟩ := aIdxB_t e
      exact loud e h
    | false => rw [hb] at e; exact quiet e
  | load t x =>
    simp only at e
    cases hta : takeAt s x with
    | some p =>
      rw [hta] at e
      obtain ⟨v, s', e, h⟩ := aTake_t e
      exact loud e h
    | none =>
    rw [hta] at e
    simp only at e
    cases hz : shLoad E s (o.dst.getD 0) x with
    | none => rw [hz] at e; exact quiet e
    | some s1 =>
      rw [hz] at e
      simp only at e
      rw [← hop] at e
      obtain ⟨id, d, el, xs, h1, rfl⟩ := shLoad_spec hz
      obtain ⟨v, s', e, h, _⟩ := aQuiet_quiet e
      exact loud e (by have h2 : s.t + 1 ≤ s'.t := h; omega)
  | slice t x lo hi mx =>
    cases lo with
    | some lo => exact quiet e
    | none =>
    cases hi with
    | none => exact quiet e
    | some hi =>
    cases mx with
    | some mx => exact quiet e
    | none =>
    simp only at e
    cases hb : E.trim.any (Nat.beq (o.dst.getD 0)) with
    | true =>
      rw [hb] at e
      obtain ⟨v, s', e, h⟩ := aTrim_t e
      exact loud e h
    | false => rw [hb] at e; exact quiet e
  | _ => exact quiet e
end Go.Ab
