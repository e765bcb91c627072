/-
  Stretches whose operations turn nothing: the state after any of them.
-/
import Derived.Test.YtkemmodgpafkmaaGreatDoorXStep2
import Derived.Orders
import Derived.Tactics
namespace Go.Ab
open Go Go.RowKit
def Quiet (E : Env) (s : AS) (o : Oper) (v : AVal) (os : AHeap) : Prop :=
  (aQ E s.ev s.h.get (o.dst.getD 0) o.op).gives v os ∨
  ∃ c f g caps C x y z, o.op = .call c ∧ c.callee = .value f ∧ s.ev f = .one (.cl g caps) ∧ (g, C) ∈ E.G ∧ allVal C.ps = true ∧ (RK.leads C.rs = true → argIds C.ps (callVals s.ev c.args.toList caps) = []) ∧
    takeArgs s.h C.ps (callVals s.ev c.args.toList caps) = some x ∧ C.fn x = some y ∧ midV C.ps y = some z ∧ (putRes (o.dst.getD 0 * 16) C.rs z).2.2 ≤ o.dst.getD 0 * 16 + 16 ∧ v = resVal (putRes (o.dst.getD 0 * 16) C.rs z).1 ∧ os = (putRes (o.dst.getD 0 * 16) C.rs z).2.1
def Clear (s : AS) (d : Nat) : Prop := ∀ id, d * 16 ≤ id → id ≤ d * 16 + 15 → s.h.get id = none
theorem fresh_clear [Tabs] (s : AS) (d : Nat) : Clear (s.fresh d) d := fun id h1 h2 => by
  unfold AS.fresh
  apply kills_none
  cases hg : s.h.get id with
  | none => exact .inl rfl
  | some o =>
    right
    simp only [List.mem_map, List.mem_filter, Bool.and_eq_true]
    exact ⟨(id, o), ⟨get_some_mem hg, Nat.ble_eq_true_of_le h1, Nat.ble_eq_true_of_le h2⟩, rfl⟩
theorem aQuiet_quiet [Tabs] {E : Env} {s : AS} {o : Oper} {R : Type} {k : AVal → AS → Option R} {r : R} (e : aQuiet E s (o.dst.getD 0) o.op k = some r) :
    ∃ v s', k v s' = some r ∧ s.t ≤ s'.t ∧ (s'.t = s.t → ∃ os, s' = { s with h := os ++ s.h } ∧ Quiet E s o v os ∧ Clear s (o.dst.getD 0)) := by
  unfold aQuiet at e
  generalize hd : o.dst.getD 0 = d at e
  have t1 := fresh_t s d
  have c1 := fresh_clear s d
  generalize s.fresh d = s1 at *
  have t2 := frzAll_t (gives E s1 d o.op) s1
  simp only at e
  generalize s1.frzAll (gives E s1 d o.op) = s2 at *
  obtain ⟨v, os, g, hk⟩ := QRes.gives_of_run e
  refine ⟨v, _, hk, Nat.le_trans t1.1 t2.1, fun et => ?_⟩
  simp only at et
  have e2 : s2 = s1 := t2.2 (by omega)
  have e1 : s1 = s := t1.2 (by omega)
  subst e2; subst e1
  exact ⟨os, rfl, .inl (by rw [hd]; exact g), c1⟩
theorem aStore_t [Tabs] {mv : Bool} {s : AS} {u : Ty} {c : ACell} {v : AVal} {R : Type} {k : AS → Option R} {r : R} (e : aStore mv s u c v k = some r) : ∃ s', k s' = some r ∧ s.t < s'.t := by
  unfold aStore at e
  split at e
  · split at e
    · generalize (v.solid && Nat.beq v.cells.length u.size && Nat.ble _ _) = b at e
      cases b with
      | false => cases e
      | true => exact ⟨_, e, Nat.lt_succ_self _⟩
    · cases e
  · split at e
    · generalize (mv && _) = bm at e
      cases bm with
      | true =>
        simp only [cond_true] at e
        generalize (v.solid && Nat.beq v.cells.length u.size && Nat.ble _ _ && _) = b at e
        cases b with
        | false => cases e
        | true =>
          simp only [cond_true] at e
          generalize Nat.beq u.size _ = b2 at e
          cases b2 with
          | true =>
            simp only [cond_true] at e
            split at e
            · exact ⟨_, e, Nat.lt_succ_of_le (killL_t _ s)⟩
            · cases e
          | false =>
            simp only [cond_false, Option.bind_eq_some_iff] at e
            obtain ⟨x, _, e⟩ := e
            split at e
            · exact ⟨_, e, Nat.lt_succ_of_le (killL_t _ s)⟩
            · cases e
      | false =>
      simp only [cond_false] at e
      generalize (v.solid && Nat.beq v.cells.length u.size && Nat.ble _ _ && _) = b at e
      cases b with
      | false => cases e
      | true =>
        simp only [cond_true] at e
        generalize Nat.beq u.size _ = b2 at e
        cases b2 with
        | true =>
          simp only [cond_true] at e
          split at e
          · exact ⟨_, e, Nat.lt_succ_of_le (frzAll_t _ s).1⟩
          · cases e
        | false =>
          simp only [cond_false, Option.bind_eq_some_iff] at e
          obtain ⟨x, _, e⟩ := e
          split at e
          · exact ⟨_, e, Nat.lt_succ_of_le (frzAll_t _ s).1⟩
          · cases e
    · cases e
  · cases e
theorem bear_t (s : AS) (id : Nat) (t : Ty) (zs : List t.den) : (s.bear id t zs).t = s.t + 1 := rfl
theorem aAppendMv_t [Tabs] {s : AS} {d : Nat} {t : Ty} {a x : ACell} {R : Type} {k : AVal → AS → Option R} {r : R} (e : aAppendMv s d t a x k = some r) : ∃ v s', k v s' = some r ∧ s.t < s'.t := by
  unfold aAppendMv at e
  split at e
  · rename_i j
    split at e
    · split at e
      · split at e
        · generalize decide (_ ≤ lim) = b at e
          cases b with
          | false => cases e
          | true => exact ⟨_, _, e, by rw [bear_t]; have := (fresh_t (s.kill j) d).1; have e1 : (s.kill j).t = s.t + 1 := rfl; omega⟩
        · split at e
          · generalize (Nat.beq _ _ || _) = b at e
            cases b with
            | true => cases e
            | false =>
              simp only [cond_false] at e
              split at e
              · generalize decide (_ ≤ lim) = b at e
                cases b with
                | false => cases e
                | true => exact ⟨_, _, e, by show s.t < s.t + 1 + 1; omega⟩
              · cases e
          · cases e
        · cases e
      · cases e
    · cases e
  · cases e
theorem aBuildMv_t [Tabs] {E : Env} {s : AS} {d t n : Nat} {ps : List (Nat × Operand)} {R : Type} {k : AVal → AS → Option R} {r : R} (e : aBuildMv E s d t n ps k = some r) : ∃ v s', k v s' = some r ∧ s.t < s'.t := by
  unfold aBuildMv at e
  split at e
  · rename_i u x _
    generalize (_ && _ : Bool) = b at e
    cases b with
    | false => cases e
    | true =>
      simp only [cond_true] at e
      split at e
      · exact ⟨_, _, e, by rw [bear_t]; have := (fresh_t (s.killL (osIn (s.ev x).cells)) d).1; have := killL_t (osIn (s.ev x).cells) s; omega⟩
      · cases e
  · cases e
theorem aAppend_t [Tabs] {E : Env} {s : AS} {d st : Nat} {a x : ACell} {R : Type} {k : AVal → AS → Option R} {r : R} (e : aAppend E s d st a x k = some r) : ∃ v s', k v s' = some r ∧ s.t < s'.t := by
  unfold aAppend at e
  split at e
  · rename_i t _
    cases hmv : (E.mv && (t.leads && canMv s a x)) with
    | true =>
      rw [hmv] at e
      simp only [cond_true] at e
      exact aAppendMv_t e
    | false =>
    rw [hmv] at e
    simp only [cond_false] at e
    cases hn : (t.leads && !noSb [x]) with
    | true => rw [hn] at e; cases e
    | false =>
    rw [hn] at e
    simp only [cond_false] at e
    split at e
    · rename_i ys _
      have ts : s.t ≤ (bif t.leads then s.frzAll (osIn [x]) else s).t := by
        cases t.leads with
        | false => exact Nat.le_refl _
        | true => exact (frzAll_t _ s).1
      generalize (bif t.leads then s.frzAll (osIn [x]) else s) = s1 at *
      split at e
      · generalize decide (ys.length ≤ lim) = b at e
        cases b with
        | false => cases e
        | true => exact ⟨_, _, e, Nat.lt_succ_of_le (Nat.le_trans ts (fresh_t s1 d).1)⟩
      · split at e
        · generalize (Nat.ble _ _ && Nat.ble _ _) = b at e
          cases b with
          | true => cases e
          | false =>
            simp only [cond_false] at e
            split at e
            · generalize decide (_ ≤ lim) = b at e
              cases b with
              | false => cases e
              | true => exact ⟨_, _, e, Nat.lt_succ_of_le ts⟩
            · cases e
        · cases e
      · cases e
    · cases e
  · cases e
theorem backIn_t : ∀ {t : Ty} {x : t.den} {cs : List ACell} {s : AS} {R : Type} {k : AS → Option R} {r : R}, backIn t x cs s k = some r → ∃ s', k s' = some r ∧ s.t ≤ s'.t
  | .unit, _, _, s, _, _, _, e => ⟨s, e, Nat.le_refl _⟩
  | .bool, _, _, s, _, _, _, e => ⟨s, e, Nat.le_refl _⟩
  | .int _, _, _, s, _, _, _, e => ⟨s, e, Nat.le_refl _⟩
  | .str, _, _, s, _, _, _, e => ⟨s, e, Nat.le_refl _⟩
  | .raw, _, _, s, _, _, _, e => ⟨s, e, Nat.le_refl _⟩
  | .pair a b, x, cs, s, _, k, r, e => by
    simp only [backIn] at e
    obtain ⟨s1, e1, h1⟩ := backIn_t e
    obtain ⟨s2, e2, h2⟩ := backIn_t e1
    exact ⟨s2, e2, Nat.le_trans h1 h2⟩
  | .slice t, x, [], s, _, k, r, e => ⟨s, e, Nat.le_refl _⟩
  | .slice t, x, c :: cs, s, _, k, r, e => by
    cases c with
    | os id =>
      simp only [backIn] at e
      split at e
      · exact ⟨_, e, Nat.le_succ _⟩
      · cases e
    | sb id i off e' y =>
      simp only [backIn] at e
      split at e
      · split at e
        · exact ⟨_, e, Nat.le_succ _⟩
        · cases e
      · cases e
    | _ => exact ⟨s, e, Nat.le_refl _⟩
theorem putMuts_t [Tabs] : ∀ {ps : List PK} {vs : List AVal} {ts : List Ty} {x : dens (PK.mtys ps ts)} {s : AS} {R : Type} {k : dens ts → AS → Option R} {r : R}, putMuts ps vs ts x s k = some r → ∃ y s', k y s' = some r ∧ s.t ≤ s'.t
  | [], vs, _, x, s, _, k, r, e => by cases vs <;> exact ⟨x, s, e, Nat.le_refl _⟩
  | .val t :: ps, [], _, _, _, _, _, _, e => by cases e
  | .val t :: ps, _ :: vs, _, x, s, _, k, r, e => putMuts_t (ps := ps) (vs := vs) (x := x) e
  | .rp t :: ps, [], _, _, _, _, _, _, e => by cases e
  | .rp t :: ps, _ :: vs, _, x, s, _, k, r, e => putMuts_t (ps := ps) (vs := vs) (x := x) e
  | .fn g ts :: ps, [], _, _, _, _, _, _, e => by cases e
  | .fn g ts :: ps, _ :: vs, _, x, s, _, k, r, e => putMuts_t (ps := ps) (vs := vs) (x := x) e
  | .own t :: ps, [], _, _, _, _, _, _, e => by cases e
  | .own t :: ps, v :: vs, ts, x, s, _, k, r, e => by
    simp only [putMuts] at e
    obtain ⟨s1, e1, h1⟩ := backIn_t e
    obtain ⟨y, s2, e2, h2⟩ := putMuts_t e1
    exact ⟨y, s2, e2, Nat.le_trans h1 h2⟩
  | .mbox t :: ps, [], _, _, _, _, _, _, e => by cases e
  | .mbox t :: ps, v :: vs, ts, x, s, _, k, r, e => by
    cases v with
    | one c =>
      cases c with
      | op id off =>
        simp only [putMuts] at e
        obtain ⟨y, s2, e2, h2⟩ := putMuts_t e
        exact ⟨y, s2, e2, Nat.le_trans (Nat.le_succ _) h2⟩
      | _ => cases e
    | _ => cases e
theorem aCall_quiet [Tabs] {E : Env} {s : AS} {o : Oper} {c : Call} {f : Operand} {g : FuncId} {C : FnSpec} {caps : List Cap} (ho : o.op = .call c) (hc : c.callee = .value f) (hf : s.ev f = .one (.cl g caps)) (hl : (g, C) ∈ E.G) {R : Type} {k : AVal → AS → Option R} {r : R}
    (e : aCall s (o.dst.getD 0) C c.args.toList caps k = some r) : ∃ v s', k v s' = some r ∧ s.t ≤ s'.t ∧ (s'.t = s.t → ∃ os, s' = { s with h := os ++ s.h } ∧ Quiet E s o v os ∧ Clear s (o.dst.getD 0)) := by
  unfold aCall at e
  cases hg : (!(allVal C.ps || (ownShape C.ps && plainRs C.rs))) with
  | true => rw [hg] at e; cases e
  | false =>
  rw [hg] at e
  simp only [cond_false] at e
  generalize hd : o.dst.getD 0 = d at e
  obtain ⟨s1, hs, ts⟩ : ∃ s1, (bif RK.leads C.rs then s.frzAll (argOs C.ps (callVals s.ev c.args.toList caps)) else s) = s1 ∧ s.t ≤ s1.t ∧ (s1.t = s.t → s1 = s) := by
    cases RK.leads C.rs with
    | false => exact ⟨s, rfl, Nat.le_refl _, fun _ => rfl⟩
    | true => exact ⟨_, rfl, frzAll_t _ s⟩
  simp only [hs] at e
  cases hle : ((RK.leads C.rs || !allVal C.ps) && !(argIds C.ps (callVals s1.ev c.args.toList caps)).isEmpty) with
  | true => rw [hle] at e; cases e
  | false =>
  rw [hle] at e
  simp only [cond_false] at e
  cases hx : takeArgs s1.h C.ps (callVals s1.ev c.args.toList caps) with
  | none => rw [hx] at e; cases e
  | some x =>
  rw [hx] at e
  simp only [Option.bind_eq_some_iff] at e
  obtain ⟨y, hy, e⟩ := e
  cases hv : allVal C.ps with
  | false =>
    obtain ⟨z, s2, e, h2⟩ := putMuts_t e
    cases hn : Nat.ble (putRes (d * 16) C.rs z).2.2 (d * 16 + 16) with
    | false => simp only [hn, cond_false] at e; cases e
    | true =>
      simp only [hn, cond_true, hv, cond_false] at e
      have t3 := fresh_t s2 d
      refine ⟨_, _, e, ?_, fun et => ?_⟩
      · show s.t ≤ (s2.fresh d).t + 1; omega
      · have : (s2.fresh d).t + 1 = s.t := et
        omega
  | true =>
  obtain ⟨z, hz, e⟩ := put_val hv e
  have t1 := fresh_t s1 d
  have c1 := fresh_clear s1 d
  cases hn : Nat.ble (putRes (d * 16) C.rs z).2.2 (d * 16 + 16) with
  | false => simp only [hn, cond_false] at e; cases e
  | true =>
  simp only [hn, cond_true, hv] at e
  refine ⟨_, _, e, Nat.le_trans ts.1 t1.1, fun et => ?_⟩
  simp only at et
  have e2 : s1.fresh d = s1 := t1.2 (by omega)
  have e1 : s1 = s := ts.2 (by omega)
  rw [e2, e1] at c1
  rw [e2, e1]
  subst e1
  refine ⟨_, rfl, .inr ⟨c, f, g, caps, C, x, y, z, ho, hc, hf, hl, hv, fun hr => ?_, hx, hy, hz, ?_⟩, c1⟩
  · rw [hr] at hle; simpa using hle
  · rw [hd]; exact ⟨Nat.le_of_ble_eq_true hn, rfl, rfl⟩
theorem aCallB_t [Tabs] {s0 : AS} {d : Nat} {C : FnSpec} {xs : List Operand} {caps : List Cap} {R : Type} {k : AVal → AS → Option R} {r : R} (e : aCallB s0 d C xs caps k = some r) : ∃ v s', k v s' = some r ∧ s0.t < s'.t := by
  obtain ⟨ps, rs, fn⟩ := C
  cases ps with
  | nil => cases e
  | cons p ps =>
  cases p with
  | mbox t =>
    simp only [aCallB] at e
    have ts := frzAll_t (argOs (.mbox t :: ps) (callVals s0.ev xs caps)) s0
    generalize s0.frzAll (argOs (.mbox t :: ps) (callVals s0.ev xs caps)) = s at e ts
    cases hle : (argIds (.mbox t :: ps) (callVals s.ev xs caps)).isEmpty with
    | false => rw [hle] at e; cases e
    | true =>
    rw [hle] at e
    simp only [Bool.not_true, cond_false] at e
    cases hid : boxId (callVals s.ev xs caps) with
    | none => rw [hid] at e; cases e
    | some id =>
    rw [hid] at e
    simp only at e
    cases hrg : (Nat.ble (d * 16) id && Nat.ble id (d * 16 + 15)) with
    | true => rw [hrg] at e; cases e
    | false =>
    rw [hrg] at e
    simp only [cond_false] at e
    cases hx : takeArgs s.h (.mbox t :: ps) (callVals s.ev xs caps) with
    | none => rw [hx] at e; cases e
    | some x =>
    rw [hx] at e
    simp only [Option.bind_eq_some_iff] at e
    obtain ⟨y, hy, e⟩ := e
    unfold boxGo at e
    simp only [Option.bind_eq_some_iff] at e
    obtain ⟨z, hz, e⟩ := e
    cases hn : Nat.ble (putRes (d * 16) rs z).2.2 (d * 16 + 16) with
    | false => simp only [hn, cond_false] at e; cases e
    | true =>
    simp only [hn, cond_true] at e
    have tf := fresh_t s d
    exact ⟨_, _, e, by show s0.t < (s.fresh d).t + 1; omega⟩
  | obox t =>
    simp only [aCallB] at e
    have ts := frzAll_t (argOs (.obox t :: ps) (callVals s0.ev xs caps)) s0
    generalize s0.frzAll (argOs (.obox t :: ps) (callVals s0.ev xs caps)) = s at e ts
    cases hle : (argIds (.obox t :: ps) (callVals s.ev xs caps)).isEmpty with
    | false => rw [hle] at e; cases e
    | true =>
    rw [hle] at e
    simp only [Bool.not_true, cond_false] at e
    cases hid : boxId (callVals s.ev xs caps) with
    | none => rw [hid] at e; cases e
    | some id =>
    rw [hid] at e
    simp only at e
    cases hrg : (Nat.ble (d * 16) id && Nat.ble id (d * 16 + 15)) with
    | true => rw [hrg] at e; cases e
    | false =>
    rw [hrg] at e
    simp only [cond_false] at e
    cases hx : takeArgs s.h (.obox t :: ps) (callVals s.ev xs caps) with
    | none => rw [hx] at e; cases e
    | some x =>
    rw [hx] at e
    simp only [Option.bind_eq_some_iff] at e
    obtain ⟨y, hy, e⟩ := e
    unfold oboxGo at e
    cases hb : s.h.get id with
    | none => rw [hb] at e; cases e
    | some ob =>
    rw [hb] at e
    cases ob with
    | arr _ _ _ => cases e
    | src _ _ _ => cases e
    | box cs =>
    simp only [Option.bind_eq_some_iff] at e
    obtain ⟨z, hz, e⟩ := e
    generalize headD (t := t) (ts := PK.mtys ps (RK.tys rs)) y = p at e
    cases hn : Nat.ble (putRes (mutCells (d * 16) t p).2.2 rs z).2.2 (d * 16 + 16) with
    | false => simp only [hn, cond_false] at e; cases e
    | true =>
    simp only [hn, cond_true] at e
    have tk := killL_t (osIn cs) s
    have tf := fresh_t (s.killL (osIn cs)) d
    exact ⟨_, _, e, by show s0.t < ((s.killL (osIn cs)).fresh d).t + 2; omega⟩
  | _ => cases e
theorem aCallO_t [Tabs] {s0 : AS} {d : Nat} {t : Ty} {ps : List PK} {rs : List RK} {fn : dens (PK.tys (.obox t :: ps)) → Option (dens (PK.mtys (.obox t :: ps) (RK.tys rs)))} {xs : List Operand} {caps : List Cap} {R : Type} {k : AVal → AS → Option R} {r : R} (e : aCallB s0 d ⟨.obox t :: ps, rs, fn⟩ xs caps k = some r) : ∃ v s', k v s' = some r ∧ s0.t + 1 < s'.t := by
  simp only [aCallB] at e
  have ts := frzAll_t (argOs (.obox t :: ps) (callVals s0.ev xs caps)) s0
  generalize s0.frzAll (argOs (.obox t :: ps) (callVals s0.ev xs caps)) = s at e ts
  cases hle : (argIds (.obox t :: ps) (callVals s.ev xs caps)).isEmpty with
  | false => rw [hle] at e; cases e
  | true =>
  rw [hle] at e
  simp only [Bool.not_true, cond_false] at e
  cases hid : boxId (callVals s.ev xs caps) with
  | none => rw [hid] at e; cases e
  | some id =>
  rw [hid] at e
  simp only at e
  cases hrg : (Nat.ble (d * 16) id && Nat.ble id (d * 16 + 15)) with
  | true => rw [hrg] at e; cases e
  | false =>
  rw [hrg] at e
  simp only [cond_false] at e
  cases hx : takeArgs s.h (.obox t :: ps) (callVals s.ev xs caps) with
  | none => rw [hx] at e; cases e
  | some x =>
  rw [hx] at e
  simp only [Option.bind_eq_some_iff] at e
  obtain ⟨y, hy, e⟩ := e
  unfold oboxGo at e
  cases hb : s.h.get id with
  | none => rw [hb] at e; cases e
  | some ob =>
  rw [hb] at e
  cases ob with
  | arr _ _ _ => cases e
  | src _ _ _ => cases e
  | box cs =>
  simp only [Option.bind_eq_some_iff] at e
  obtain ⟨z, hz, e⟩ := e
  generalize headD (t := t) (ts := PK.mtys ps (RK.tys rs)) y = p at e
  cases hn : Nat.ble (putRes (mutCells (d * 16) t p).2.2 rs z).2.2 (d * 16 + 16) with
  | false => simp only [hn, cond_false] at e; cases e
  | true =>
  simp only [hn, cond_true] at e
  have tk := killL_t (osIn cs) s
  have tf := fresh_t (s.killL (osIn cs)) d
  exact ⟨_, _, e, by show s0.t + 1 < ((s.killL (osIn cs)).fresh d).t + 2; omega⟩
theorem aCallK_t [Tabs] {s0 : AS} {d : Nat} {K : KFn} {xs : List Operand} {caps : List Cap} {R : Type} {k : AVal → AS → Option R} {r : R} (e : aCallK s0 d K xs caps k = some r) : ∃ v s', k v s' = some r ∧ s0.t < s'.t := by
  obtain ⟨t, ps, rs, kfn⟩ := K
  unfold aCallK at e
  simp only at e
  cases hvl : (allVal ps && listT t) with
  | false => rw [hvl] at e; cases e
  | true =>
  rw [hvl] at e
  simp only [Bool.not_true, cond_false] at e
  have ts := frzAll_t (argOs (.obox t :: ps) (callVals s0.ev xs caps)) s0
  generalize s0.frzAll (argOs (.obox t :: ps) (callVals s0.ev xs caps)) = s at e ts
  cases hle : (argIds (.obox t :: ps) (callVals s.ev xs caps)).isEmpty with
  | false => rw [hle] at e; cases e
  | true =>
  rw [hle] at e
  simp only [Bool.not_true, cond_false] at e
  split at e
  rotate_left
  · cases e
  rename_i id vs heq
  cases hrg : (Nat.ble (d * 16) id && Nat.ble id (d * 16 + 15)) with
  | true => rw [hrg] at e; cases e
  | false =>
  rw [hrg] at e
  simp only [cond_false] at e
  cases hb0 : s.h.get id with
  | none => rw [hb0] at e; cases e
  | some ob =>
  rw [hb0] at e
  cases ob with
  | arr _ _ _ => cases e
  | src _ _ _ => cases e
  | box cs =>
  simp only at e
  cases hcs : (Nat.beq cs.length (t.size + 1) && deepIn (s.h.del id) (cs.take t.size)) with
  | false => rw [hcs] at e; cases e
  | true =>
  rw [hcs] at e
  simp only [cond_true, Option.bind_eq_some_iff] at e
  obtain ⟨x0, hx0, xr, hxr, y, hy, e⟩ := e
  unfold kboxGo at e
  rw [hb0] at e
  simp only at e
  have tk := killL_t (osIn (cs.take t.size)) s
  have tf := fresh_t (s.killL (osIn (cs.take t.size))) d
  generalize (s.killL (osIn (cs.take t.size))).fresh d = sf at e tf
  cases hb1 : sf.h.get id with
  | none => rw [hb1] at e; cases e
  | some ob =>
  rw [hb1] at e
  cases ob with
  | arr _ _ _ => cases e
  | src _ _ _ => cases e
  | box cs1 =>
  simp only [Option.bind_eq_some_iff] at e
  obtain ⟨z, hz, e⟩ := e
  generalize headD (t := t) (ts := PK.mtys ps (RK.tys rs)) y = p at e
  cases hn : Nat.ble (putRes (mutCells (d * 16) t p).2.2 rs z).2.2 (d * 16 + 16) with
  | false => simp only [hn, cond_false] at e; cases e
  | true =>
  simp only [hn, cond_true] at e
  exact ⟨_, _, e, by show s0.t < sf.t + 2; omega⟩
theorem aStoreInn_t {s : AS} {u : Ty} {id i off j : Nat} {e : Ty} {y : e.den} {v : AVal} {R : Type} {k : AS → Option R} {r : R} (h : aStoreInn s u id i off e y j v k = some r) : ∃ s', k s' = some r ∧ s.t < s'.t := by
  unfold aStoreInn at h
  split at h
  · rename_i e' xs u2 z _ _
    cases hb : (u2.leads || (u2.isAgg || !(decide (u2 = u) && v.fits u2))) with
    | true => rw [hb] at h; cases h
    | false =>
      rw [hb] at h
      simp only [cond_false] at h
      split at h
      · split at h
        · split at h
          · exact ⟨_, h, Nat.lt_succ_self _⟩
          · cases h
        · cases h
      · cases h
  · cases h
theorem aStoreSame_t {s : AS} {id : Nat} {R : Type} {k : AS → Option R} {r : R} (h : aStoreSame s id k = some r) : ∃ s', k s' = some r ∧ s.t < s'.t := by
  unfold aStoreSame at h
  split at h
  · exact ⟨_, h, Nat.lt_succ_self _⟩
  · cases h
theorem aStoreApp_t {s : AS} {id i off : Nat} {e : Ty} {y : e.den} {t : Ty} {ys : List t.den} {R : Type} {k : AS → Option R} {r : R} (h : aStoreApp s id i off e y t ys k = some r) : ∃ s', k s' = some r ∧ s.t < s'.t := by
  unfold aStoreApp at h
  split at h
  · split at h
    · split at h
      · split at h
        · exact ⟨_, h, Nat.lt_succ_self _⟩
        · cases h
      · cases h
    · cases h
  · cases h
theorem aAppSb_t [Tabs] {E : Env} {s : AS} {d st id i off : Nat} {e : Ty} {y : e.den} {x : ACell} {R : Type} {k : AVal → AS → Option R} {r : R} (h : aAppSb E s d st id i off e y x k = some r) : ∃ v s', k v s' = some r ∧ s.t < s'.t := by
  unfold aAppSb at h
  split at h
  · rename_i t _ _ _ _ _ _ _
    split at h
    · rename_i zs ys _ _
      cases hb : (t.leads || List.isEmpty ys) with
      | true => rw [hb] at h; cases h
      | false =>
        rw [hb] at h
        simp only [cond_false] at h
        split at h
        · cases hle : decide (List.length zs + List.length ys ≤ lim) with
          | false => rw [hle] at h; cases h
          | true =>
            rw [hle] at h
            exact ⟨_, _, (bothSame_spec h).2, by have := (fresh_t s d).1; show s.t < (s.fresh d).t + 1; omega⟩
        · cases h
    · cases h
  · cases h
theorem aOp_quiet [Tabs] {E : Env} {s : AS} {o : Oper} {R : Type} {k : AVal → AS → Option R} {r : R} (e : aOp E s o.dst o.op k = some r) :
    ∃ v s', k v s' = some r ∧ s.t ≤ s'.t ∧ (s'.t = s.t → ∃ os, s' = { s with h := os ++ s.h } ∧ Quiet E s o v os ∧ Clear s (o.dst.getD 0)) := by
  have quiet : aQuiet E s (o.dst.getD 0) o.op k = some r → _ := fun e => aQuiet_quiet e
  have loud : ∀ {v s'}, k v s' = some r → s.t < s'.t → ∃ v s', k v s' = some r ∧ s.t ≤ s'.t ∧ (s'.t = s.t → ∃ os, s' = { s with h := os ++ s.h } ∧ Quiet E s o v os ∧ Clear s (o.dst.getD 0)) := fun e h => ⟨_, _, e, Nat.le_of_lt h, fun et => by omega⟩
  unfold aOp at e
  generalize hop : o.op = op at e quiet
  cases op with
  | store t x y =>
    simp only at e
    cases hu : look E.T t with
    | none => rw [hu] at e; cases e
    | some u =>
    cases hc : s.ev x with
    | one c =>
      rw [hu, hc] at e
      simp only at e
      rcases stSel_cases c (s.ev y) with ⟨id, i, off, el, y0, j, _, h2⟩ | ⟨id, i, off, el, y0, u', ys, i2, _, _, h2⟩ | ⟨id, i, off, el, y0, i2, _, _, h2⟩ | h2
      · rw [h2] at e
        obtain ⟨s', e, h⟩ := aStoreInn_t e
        exact loud e h
      · rw [h2] at e
        simp only at e
        cases hd : decide (u = .slice u') with
        | false => rw [hd] at e; cases e
        | true =>
          rw [hd] at e
          simp only [cond_true] at e
          cases hbi : Nat.beq i i2 with
          | false => rw [hbi] at e; cases e
          | true =>
          rw [hbi] at e
          obtain ⟨s', e, h⟩ := aStoreApp_t e
          exact loud e h
      · rw [h2] at e
        simp only at e
        cases hsz : Nat.beq u.size 1 with
        | false => rw [hsz] at e; cases e
        | true =>
        rw [hsz] at e
        simp only [cond_true] at e
        cases hbi : Nat.beq i i2 with
        | false => rw [hbi] at e; cases e
        | true =>
        rw [hbi] at e
        obtain ⟨s', e, h⟩ := aStoreSame_t e
        exact loud e h
      · rw [h2] at e
        obtain ⟨s', e, h⟩ := aStore_t e
        exact loud e h
    | _ => rw [hu, hc] at e; cases e
  | call c =>
    simp only at e
    cases hc : c.callee with
    | value f =>
      rw [hc] at e
      simp only at e
      cases hf : s.ev f with
      | one cc =>
        rw [hf] at e
        cases cc with
        | cl g cap =>
            simp only at e
            cases hl : lookG E.G g (c.args.toList.map s.ev) with
            | none =>
              rw [hl] at e
              simp only at e
              cases cap with
              | nil =>
                simp only [List.isEmpty_nil, cond_true] at e
                split at e
                · rcases aSel_t e with ⟨v, s', e, h⟩ | ⟨hv, e⟩
                  · exact loud e h
                  · rename_i D _ _
                    obtain ⟨v, s', e, h, _⟩ := aCall_quiet (E := { T := [], G := [(g, D.C)], ro := [], loops := [], joins := [] }) (s := { s with t := s.t + 1 }) hop hc hf (List.mem_singleton.2 rfl) e
                    exact loud (v := v) (s' := s') e (by have : s.t + 1 ≤ s'.t := h; omega)
                · split at e
                  · rename_i D _
                    cases hb : D.out.isSome with
                    | true =>
                      rw [hb] at e
                      obtain ⟨v, s', e, h⟩ := aMv_t e
                      exact loud e h
                    | false =>
                    rw [hb] at e
                    obtain ⟨v, s', e, h⟩ := aDel_t e
                    exact loud e h
                  · split at e
                    · obtain ⟨v, s', e, h⟩ := aCallK_t e
                      exact loud e h
                    · obtain ⟨v, s', e, h⟩ := aIns_t e
                      exact loud e h
              | cons _ _ => cases e
            | some C =>
              rw [hl] at e
              cases hbx : boxShape C.ps with
              | true =>
                simp only [hbx, cond_true] at e
                obtain ⟨v, s', e, h⟩ := aCallB_t e
                exact loud e h
              | false =>
                simp only [hbx, cond_false] at e
                exact aCall_quiet hop hc hf (lookG_mem hl) e
        | _ => cases e
      | _ => rw [hf] at e; cases e
    | builtin b =>
      rw [hc] at e
      cases b with
      | append =>
        simp only at e
        split at e
        · rename_i st st' ca cx h1 h2
          cases hq : quietApp E s st ca cx with
          | true =>
            rw [hq] at e
            exact quiet e
          | false =>
          rw [hq] at e
          simp only [cond_false] at e
          cases hb : Nat.beq st st' with
          | false => rw [hb] at e; cases e
          | true =>
            rw [hb] at e
            simp only [cond_true] at e
            cases hgr : growId E (o.dst.getD 0) ca with
            | some id =>
              rw [hgr] at e
              obtain ⟨v, s', e, h⟩ := aGrow_t e
              exact loud e h
            | none =>
            rw [hgr] at e
            simp only at e
            split at e
            · obtain ⟨v, s', e, h⟩ := aCut_t e
              exact loud e h
            cases ca with
            | sb id i off el y0 =>
              obtain ⟨v, s', e, h⟩ := aAppSb_t e
              exact loud e h
            | _ =>
              obtain ⟨v, s', e, h⟩ := aAppend_t e
              exact loud e h
        · cases e
      | _ => exact quiet e
    | _ => rw [hc] at e; exact quiet e
  | binOp bop t x y t' =>
    simp only at e
    cases hb : isNilCmp E s bop t x y with
    | true =>
      rw [hb] at e
      obtain ⟨v, s', e, h⟩ := aNil_t e
      exact loud e h
    | false => rw [hb] at e; exact quiet e
  | buildSlice t n ps =>
    simp only at e
    cases hb : (E.mv && canBuildMv s ps.toList) with
    | true =>
      rw [hb] at e
      obtain ⟨v, s', e, h⟩ := aBuildMv_t e
      exact loud e h
    | false => rw [hb] at e; exact quiet e
  | indexAddr st x i =>
    simp only at e
    cases hz : fzIdx E s (o.dst.getD 0) x with
    | some id =>
      rw [hz] at e
      simp only at e
      rw [← hop] at e
      obtain ⟨v, s', e, h, _⟩ := aQuiet_quiet e
      exact loud e (by have := fzIdx_t hz; omega)
    | none =>
    rw [hz] at e
    simp only at e
    cases hz2 : shLoad E s (o.dst.getD 0) x with
    | some s1 =>
      rw [hz2] at e
      simp only at e
      rw [← hop] at e
      obtain ⟨id, d, el, xs, h1, rfl⟩ := shLoad_spec hz2
      obtain ⟨v, s', e, h, _⟩ := aQuiet_quiet e
      exact loud e (by have h2 : s.t + 1 ≤ s'.t := h; omega)
    | none =>
    rw [hz2] at e
    simp only at e
    cases hb : isIdxB E s st x i with
    | true =>
      rw [hb] at e
      obtain ⟨v, s', e, h⟩ := aIdxB_t e
      exact loud e h
    | false => rw [hb] at e; exact quiet e
  | index st x i =>
    simp only at e
    cases hb : isIdxV E s st x i with
    | true =>
      rw [hb] at e
      obtain ⟨v, s', e, h⟩ := aIdxV_t hb e
      exact loud e h
    | false => rw [hb] at e; exact quiet e
  | load t x =>
    simp only at e
    cases hta : takeAt s x with
    | some p =>
      rw [hta] at e
      obtain ⟨v, s', e, h⟩ := aTake_t e
      exact loud e h
    | none =>
    rw [hta] at e
    simp only at e
    cases hz : shLoad E s (o.dst.getD 0) x with
    | none => rw [hz] at e; exact quiet e
    | some s1 =>
      rw [hz] at e
      simp only at e
      rw [← hop] at e
      obtain ⟨id, d, el, xs, h1, rfl⟩ := shLoad_spec hz
      obtain ⟨v, s', e, h, _⟩ := aQuiet_quiet e
      exact loud e (by have h2 : s.t + 1 ≤ s'.t := h; omega)
  | slice t x lo hi mx =>
    cases lo with
    | some lo => exact quiet e
    | none =>
    cases hi with
    | none => exact quiet e
    | some hi =>
    cases mx with
    | some mx => exact quiet e
    | none =>
    simp only at e
    cases hb : E.trim.any (Nat.beq (o.dst.getD 0)) with
    | true =>
      rw [hb] at e
      obtain ⟨v, s', e, h⟩ := aTrim_t e
      exact loud e h
    | false => rw [hb] at e; exact quiet e
  | _ => exact quiet e
end Go.Ab
namespace Go.Ab
open Go Go.RowKit
def SmallOs (d : Nat) (os : AHeap) : Prop := ∀ id, AHeap.get os id ≠ none → d * 16 ≤ id ∧ id ≤ d * 16 + 15
def QRes.Small (d : Nat) : QRes → Prop
  | .fail => True
  | .ok _ os => SmallOs d os
  | .guard _ _ os => SmallOs d os
  | .bind _ _ f => ∀ x, SmallOs d (f x).2
theorem SmallOs.nil (d : Nat) : SmallOs d [] := fun _ h => absurd rfl h
theorem SmallOs.one [Tabs] (d : Nat) (o : AObj) : SmallOs d [(d * 16, o)] := fun id h => by
  rw [get_one] at h
  have : id = d * 16 := by
    by_cases e : id = d * 16
    · exact e
    · simp [e] at h
  omega
theorem QRes.Small.one [Tabs] (d : Nat) (c : ACell) : (qone c).Small d := SmallOs.nil d
theorem QRes.Small.ite {d : Nat} {b : Bool} {x y : QRes} (hx : x.Small d) (hy : y.Small d) : (bif b then x else y).Small d := by cases b <;> assumption
theorem aBin_small [Tabs] (d : Nat) (tb : Bool) (op : BinOp) (a b : ACell) : (aBin tb op a b).Small d := by
  unfold aBin
  split
  · refine QRes.Small.ite (SmallOs.nil d) (QRes.Small.ite ?_ trivial)
    split <;> first | exact SmallOs.nil d | trivial
  · split <;> first | exact SmallOs.nil d | trivial
  · split <;> first | exact SmallOs.nil d | trivial
  · trivial
theorem aUn_small [Tabs] (d : Nat) (op : UnOp) (a : ACell) : (aUn op a).Small d := by
  unfold aUn
  split <;> first | exact SmallOs.nil d | trivial
theorem aLoad_small [Tabs] (d : Nat) (get : HGet) (t : Ty) (a : ACell) : (aLoad get t a).Small d := by
  unfold aLoad
  split
  · split <;> first | exact SmallOs.nil d | trivial
  · split
    · exact QRes.Small.ite (SmallOs.nil d) trivial
    · trivial
  · split
    · refine QRes.Small.ite (QRes.Small.ite (fun _ => SmallOs.nil d) ?_) trivial
      split
      · exact QRes.Small.ite (fun _ => SmallOs.nil d) trivial
      · trivial
    · trivial
  · trivial
theorem aEq_small (d : Nat) (u : Ty) (op : BinOp) (a b : List ACell) : (aEq u op a b).Small d := by
  unfold aEq
  split
  · split
    · exact SmallOs.nil d
    · exact SmallOs.nil d
    · trivial
  · trivial
theorem aQ_small [Tabs] (E : Env) (ev : Operand → AVal) (get : HGet) (d : Nat) (o : Op) : (aQ E ev get d o).Small d := by
  unfold aQ
  split
  all_goals (repeat' split)
  all_goals (first
    | trivial
    | exact SmallOs.nil d
    | exact SmallOs.one d _
    | exact aBin_small d _ _ _ _
    | exact aEq_small d _ _ _ _
    | exact aUn_small d _ _
    | exact aLoad_small d _ _ _
    | exact fun _ => SmallOs.nil d
    | skip)
  all_goals (repeat' (first | refine QRes.Small.ite ?_ ?_ | split))
  all_goals (first
    | trivial
    | exact SmallOs.nil d
    | exact SmallOs.one d _
    | exact fun _ => SmallOs.nil d)
theorem Small.gives {d : Nat} {q : QRes} (h : q.Small d) {v : AVal} {os : AHeap} (g : q.gives v os) : SmallOs d os := by
  cases q with
  | fail => cases g
  | ok v' os' => obtain ⟨rfl, rfl⟩ := g; exact h
  | guard c v' os' => obtain ⟨_, rfl, rfl⟩ := g; exact h
  | bind α m f =>
    obtain ⟨x, _, hx⟩ := g
    have := h x
    rw [hx] at this
    exact this
theorem mutCells_ids [Tabs] : ∀ (t : Ty) (base : Nat) (x : t.den), base ≤ (mutCells base t x).2.2 ∧ ∀ id, AHeap.get (mutCells base t x).2.1 id ≠ none → base ≤ id ∧ id < (mutCells base t x).2.2
  | .unit, b, _ => ⟨Nat.le_refl b, fun _ h => absurd rfl h⟩
  | .bool, b, _ => ⟨Nat.le_refl b, fun _ h => absurd rfl h⟩
  | .int _, b, _ => ⟨Nat.le_refl b, fun _ h => absurd rfl h⟩
  | .str, b, _ => ⟨Nat.le_refl b, fun _ h => absurd rfl h⟩
  | .raw, b, _ => ⟨Nat.le_refl b, fun _ h => absurd rfl h⟩
  | .slice t, b, x => ⟨Nat.le_succ b, fun id h => by
      simp only [mutCells] at h ⊢
      rw [get_one] at h
      have : id = b := by
        by_cases e : id = b
        · exact e
        · simp [e] at h
      omega⟩
  | .pair a c, b, x => by
    have h1 := mutCells_ids a b x.1
    have h2 := mutCells_ids c (mutCells b a x.1).2.2 x.2
    simp only [mutCells]
    refine ⟨Nat.le_trans h1.1 h2.1, fun id h => ?_⟩
    rw [get_append] at h
    cases e : AHeap.get (mutCells b a x.1).2.1 id with
    | some o => have h3 := h1.2 id (by rw [e]; simp); exact ⟨h3.1, Nat.lt_of_lt_of_le h3.2 h2.1⟩
    | none => rw [e] at h; have h3 := h2.2 id h; exact ⟨Nat.le_trans h1.1 h3.1, h3.2⟩
theorem putRes_ids [Tabs] : ∀ (rs : List RK) (base : Nat) (x : dens (RK.tys rs)), base ≤ (putRes base rs x).2.2 ∧ ∀ id, AHeap.get (putRes base rs x).2.1 id ≠ none → base ≤ id ∧ id < (putRes base rs x).2.2
  | [], b, _ => ⟨Nat.le_refl b, fun _ h => absurd rfl h⟩
  | .val t :: rs, b, x => by simpa [putRes] using putRes_ids rs b (tailD x)
  | .rp t :: rs, b, x => by simpa [putRes] using putRes_ids rs b (tailD x)
  | .sh t :: rs, b, x => by
    have h2 := putRes_ids rs (b + 1) (tailD (t := .slice t) x)
    refine ⟨Nat.le_trans (Nat.le_succ b) h2.1, fun id h => ?_⟩
    have h : AHeap.get ((b, AObj.arr false t (headD (t := .slice t) x)) :: (putRes (b + 1) rs (tailD (t := .slice t) x)).2.1) id ≠ none := h
    simp only [AHeap.get] at h
    cases hb : Nat.beq b id with
    | true => have := Nat.eq_of_beq_eq_true hb; subst this; exact ⟨Nat.le_refl _, h2.1⟩
    | false => rw [hb] at h; have := h2.2 id h; exact ⟨Nat.le_trans (Nat.le_succ b) this.1, this.2⟩
  | .ob t :: rs, b, x => by
    have h1 := mutCells_ids t (b + 1) (headD x)
    have h2 := putRes_ids rs (mutCells (b + 1) t (headD x)).2.2 (tailD x)
    refine ⟨Nat.le_trans (Nat.le_succ b) (Nat.le_trans h1.1 h2.1), fun id h => ?_⟩
    have h : AHeap.get ((b, AObj.box (mutCells (b + 1) t (headD x)).1) :: ((mutCells (b + 1) t (headD x)).2.1 ++ (putRes (mutCells (b + 1) t (headD x)).2.2 rs (tailD x)).2.1)) id ≠ none := h
    show b ≤ id ∧ id < (putRes (mutCells (b + 1) t (headD x)).2.2 rs (tailD x)).2.2
    simp only [AHeap.get] at h
    cases hb : Nat.beq b id with
    | true => have := Nat.eq_of_beq_eq_true hb; subst this; exact ⟨Nat.le_refl _, by omega⟩
    | false =>
      rw [hb] at h
      simp only [cond_false] at h
      rw [get_append] at h
      cases e : AHeap.get (mutCells (b + 1) t (headD x)).2.1 id with
      | some o => have h3 := h1.2 id (by rw [e]; simp); exact ⟨by omega, Nat.lt_of_lt_of_le h3.2 h2.1⟩
      | none => rw [e] at h; have h3 := h2.2 id h; exact ⟨by omega, h3.2⟩
  | .own t :: rs, b, x => by
    have h1 := mutCells_ids t b (headD x)
    have h2 := putRes_ids rs (mutCells b t (headD x)).2.2 (tailD x)
    simp only [putRes]
    refine ⟨Nat.le_trans h1.1 h2.1, fun id h => ?_⟩
    rw [get_append] at h
    cases e : AHeap.get (mutCells b t (headD x)).2.1 id with
    | some o => have h3 := h1.2 id (by rw [e]; simp); exact ⟨h3.1, Nat.lt_of_lt_of_le h3.2 h2.1⟩
    | none => rw [e] at h; have h3 := h2.2 id h; exact ⟨Nat.le_trans h1.1 h3.1, h3.2⟩
theorem Quiet.small [Tabs] {E : Env} {s : AS} {o : Oper} {v : AVal} {os : AHeap} (q : Quiet E s o v os) : SmallOs (o.dst.getD 0) os := by
  rcases q with q | ⟨c, f, g, caps, C, x, y, z, _, _, _, _, _, _, _, _, _, hn, _, rfl⟩
  · exact Small.gives (aQ_small E _ _ _ _) q
  · intro id h
    have := (putRes_ids C.rs (o.dst.getD 0 * 16) z).2 id h
    omega
abbrev Tr := List (Oper × AVal × AHeap)
def ap (s : AS) (p : Oper × AVal × AHeap) : AS := ({ s with h := p.2.2 ++ s.h } : AS).put p.1.dst p.2.1
def subSt : (Nat → Bool) → Tr → AS → AS
  | _, [], s => s
  | L, p :: r, s => subSt (fun j => L (j + 1)) r (bif L 0 then ap s p else s)
theorem subSt_none : ∀ (l : Tr) (L : Nat → Bool) (s : AS), (∀ j, L j = false) → subSt L l s = s
  | [], _, _, _ => rfl
  | p :: r, L, s, h => by
    simp only [subSt, h 0, cond_false]
    exact subSt_none r _ s fun j => h (j + 1)
theorem ap_len (s : AS) (p : Oper × AVal × AHeap) : (ap s p).ρ.length = s.ρ.length := by
  unfold ap AS.put; cases p.1.dst <;> simp
theorem ap_t (s : AS) (p : Oper × AVal × AHeap) : (ap s p).t = s.t := by
  unfold ap AS.put; cases p.1.dst <;> rfl
theorem ap_h (s : AS) (p : Oper × AVal × AHeap) : (ap s p).h = p.2.2 ++ s.h := by
  unfold ap AS.put; cases p.1.dst <;> rfl
theorem put_getD (s : AS) (dst : Option Tmp) (v : AVal) (t : Nat) : (s.put dst v).ρ.getD t (.one .und) = if dst = some t then (if t < s.ρ.length then v else .one .und) else s.ρ.getD t (.one .und) := by
  cases dst with
  | none => simp [AS.put]
  | some d =>
    simp only [AS.put, List.getD_eq_getElem?_getD, List.getElem?_set]
    by_cases e : d = t
    · subst e
      by_cases h : d < s.ρ.length <;> simp [h]
    · simp [e]
theorem ap_getD [Tabs] (s : AS) (p : Oper × AVal × AHeap) (t : Nat) : (ap s p).ρ.getD t (.one .und) = if p.1.dst = some t then (if t < s.ρ.length then p.2.1 else .one .und) else s.ρ.getD t (.one .und) := put_getD _ _ _ _
theorem subSt_len [Tabs] : ∀ (l : Tr) (L : Nat → Bool) (s : AS), (subSt L l s).ρ.length = s.ρ.length
  | [], _, _ => rfl
  | p :: r, L, s => by
    simp only [subSt]
    rw [subSt_len r]
    cases L 0 with
    | true => exact ap_len s p
    | false => rfl
theorem subSt_t [Tabs] : ∀ (l : Tr) (L : Nat → Bool) (s : AS), (subSt L l s).t = s.t
  | [], _, _ => rfl
  | p :: r, L, s => by
    simp only [subSt]
    rw [subSt_t r]
    cases L 0 with
    | true => exact ap_t s p
    | false => rfl
theorem subSt_ρ [Tabs] (t : Nat) : ∀ (l : Tr) (L L' : Nat → Bool) (s s' : AS), (∀ j p, l[j]? = some p → p.1.dst = some t → L j = L' j) → s.ρ.length = s'.ρ.length → s.ρ.getD t (.one .und) = s'.ρ.getD t (.one .und) →
    (subSt L l s).ρ.getD t (.one .und) = (subSt L' l s').ρ.getD t (.one .und)
  | [], _, _, _, _, _, _, e => e
  | p :: r, L, L', s, s', h, hl, e => by
    simp only [subSt]
    refine subSt_ρ t r _ _ _ _ (fun j q hq => h (j + 1) q (by simpa using hq)) ?_ ?_
    · cases L 0 <;> cases L' 0 <;> simp [ap_len, hl]
    · by_cases hd : p.1.dst = some t
      · have := h 0 p rfl hd
        rw [this]
        cases L' 0 with
        | true => simp only [cond_true]; rw [ap_getD, ap_getD, if_pos hd, if_pos hd, hl]
        | false => exact e
      · have : ∀ (b : Bool) (s : AS), (bif b then ap s p else s).ρ.getD t (.one .und) = s.ρ.getD t (.one .und) := fun b s => by
          cases b with
          | true => simp only [cond_true]; rw [ap_getD, if_neg hd]
          | false => rfl
        rw [this, this]
        exact e
theorem ap_get [Tabs] (s : AS) (p : Oper × AVal × AHeap) (id : Nat) : (ap s p).h.get id = (AHeap.get p.2.2 id).or (s.h.get id) := by rw [ap_h, get_append]
theorem subSt_h [Tabs] (id : Nat) : ∀ (l : Tr) (L L' : Nat → Bool) (s s' : AS), (∀ j p, l[j]? = some p → AHeap.get p.2.2 id ≠ none → L j = L' j) → s.h.get id = s'.h.get id → (subSt L l s).h.get id = (subSt L' l s').h.get id
  | [], _, _, _, _, _, e => e
  | p :: r, L, L', s, s', h, e => by
    simp only [subSt]
    refine subSt_h id r _ _ _ _ (fun j q hq => h (j + 1) q (by simpa using hq)) ?_
    by_cases hd : AHeap.get p.2.2 id = none
    · have : ∀ (b : Bool) (s : AS), (bif b then ap s p else s).h.get id = s.h.get id := fun b s => by
        cases b with
        | true => simp only [cond_true]; rw [ap_get, hd]; rfl
        | false => rfl
      rw [this, this]
      exact e
    · have := h 0 p rfl hd
      rw [this]
      cases L' 0 with
      | true => simp only [cond_true]; rw [ap_get, ap_get, e]
      | false => exact e
theorem subSt_append : ∀ (l1 l2 : Tr) (L : Nat → Bool) (s : AS), subSt L (l1 ++ l2) s = subSt (fun j => L (j + l1.length)) l2 (subSt L l1 s)
  | [], _, _, _ => rfl
  | p :: r, l2, L, s => by
    simp only [List.cons_append, subSt, List.length_cons]
    rw [subSt_append r l2]
    congr 1
structure Same (s s' : AS) : Prop where
  len : s.ρ.length = s'.ρ.length
  ρ : ∀ t, s.ρ.getD t (.one .und) = s'.ρ.getD t (.one .und)
  h : ∀ id, s.h.get id = s'.h.get id
theorem Rel.same [Tabs] {w0 w : World} {B : Nat} {M0 S : Blk} {m : OMap} {s s' : AS} {a : Act} (R : Rel w0 B M0 S m s a w) (e : Same s s') : Rel w0 B M0 S m s' a w := by
  have hh : s.h.get = s'.h.get := funext e.h
  exact ⟨hh ▸ R.mem, R.frm, fun i => by rw [← e.ρ i, ← hh]; exact R.tmps i, by rw [← e.len]; exact R.size, R.defers⟩
structure Apart (l : Tr) : Prop where
  dst : ∀ (j : Nat) (p : Oper × AVal × AHeap), l[j]? = some p → p.1.dst ≠ none
  one : ∀ (j k : Nat) (p q : Oper × AVal × AHeap) (t : Nat), l[j]? = some p → l[k]? = some q → p.1.dst = some t → q.1.dst = some t → j = k
  small : ∀ (j : Nat) (p : Oper × AVal × AHeap), l[j]? = some p → SmallOs (p.1.dst.getD 0) p.2.2
theorem Apart.ids {l : Tr} (A : Apart l) (j k : Nat) (p q : Oper × AVal × AHeap) (id : Nat) (hj : l[j]? = some p) (hk : l[k]? = some q) (h1 : AHeap.get p.2.2 id ≠ none) (h2 : AHeap.get q.2.2 id ≠ none) : j = k := by
  have s1 := A.small j p hj id h1
  have s2 := A.small k q hk id h2
  cases e1 : p.1.dst with
  | none => exact absurd e1 (A.dst j p hj)
  | some d =>
    cases e2 : q.1.dst with
    | none => exact absurd e2 (A.dst k q hk)
    | some d' =>
      rw [e1] at s1; rw [e2] at s2
      simp only [Option.getD_some] at s1 s2
      have : d = d' := by
        rcases Nat.lt_trichotomy d d' with h | h | h
        · omega
        · exact h
        · omega
      subst this
      exact A.one j k p q d hj hk e1 e2
theorem subSt_add [Tabs] {l : Tr} (A : Apart l) {L L' : Nat → Bool} {k : Nat} {p : Oper × AVal × AHeap} (hk : l[k]? = some p) (h0 : L k = false) (h1 : ∀ j, L' j = (L j || decide (j = k))) (s : AS) : Same (ap (subSt L l s) p) (subSt L' l s) := by
  have hne : ∀ j, j ≠ k → L j = L' j := fun j hj => by rw [h1 j]; simp [hj]
  obtain ⟨l1, l2, rfl, hlen⟩ : ∃ l1 l2, l = l1 ++ p :: l2 ∧ l1.length = k := by
    have hkl : k < l.length := (List.getElem?_eq_some_iff.1 hk).1
    refine ⟨l.take k, l.drop (k + 1), ?_, by simp; omega⟩
    have : l[k] = p := (List.getElem?_eq_some_iff.1 hk).2
    rw [← this, ← List.drop_eq_getElem_cons hkl, List.take_append_drop]
  have at2 : ∀ (j : Nat) (q : Oper × AVal × AHeap), l2[j]? = some q → (l1 ++ p :: l2)[k + (j + 1)]? = some q := fun j q hq => by
    rw [List.getElem?_append_right (by omega)]
    have : k + (j + 1) - l1.length = j + 1 := by omega
    rw [this]; simpa using hq
  refine ⟨by rw [ap_len, subSt_len, subSt_len], fun t => ?_, fun id => ?_⟩
  · rw [ap_getD, subSt_len]
    by_cases hd : p.1.dst = some t
    · rw [if_pos hd, subSt_append]
      simp only [subSt]
      have hL : L' (0 + l1.length) = true := by rw [h1]; simp [hlen]
      rw [hL, cond_true]
      have := subSt_ρ t l2 (fun j => L' (j + 1 + l1.length)) (fun _ => false) (ap (subSt L' l1 s) p) (ap (subSt L' l1 s) p) (fun j q hq hqd => by
        have := A.one (k + (j + 1)) k q p t (at2 j q hq) hk hqd hd
        omega) rfl rfl
      rw [this, subSt_none l2 _ _ fun _ => rfl, ap_getD, if_pos hd, subSt_len]
    · rw [if_neg hd]
      refine subSt_ρ t _ L L' s s (fun j q hq hqd => hne j fun e => ?_) rfl rfl
      subst e
      rw [hk] at hq
      cases hq
      exact hd hqd
  · rw [ap_get]
    cases hg : AHeap.get p.2.2 id with
    | none =>
      simp only [Option.none_or]
      refine subSt_h id _ L L' s s (fun j q hq hqd => hne j fun e => ?_) rfl
      subst e
      rw [hk] at hq
      cases hq
      exact hqd hg
    | some o =>
      simp only [Option.some_or]
      rw [subSt_append]
      simp only [subSt]
      have hL : L' (0 + l1.length) = true := by rw [h1]; simp [hlen]
      rw [hL, cond_true]
      have := subSt_h id l2 (fun j => L' (j + 1 + l1.length)) (fun _ => false) (ap (subSt L' l1 s) p) (ap (subSt L' l1 s) p) (fun j q hq hqd => by
        have := A.ids (k + (j + 1)) k q p id (at2 j q hq) hk hqd (by rw [hg]; simp)
        omega) rfl
      rw [this, subSt_none l2 _ _ fun _ => rfl, ap_get, hg]
      rfl
theorem subSt_agree [Tabs] {l : Tr} (A : Apart l) {s : AS} (hs : ∀ (j : Nat) (p : Oper × AVal × AHeap), l[j]? = some p → ∀ id, AHeap.get p.2.2 id ≠ none → s.h.get id = none) (L L' : Nat → Bool) (id : Nat) (o : AObj) (e : (subSt L l s).h.get id = some o) (hn : (subSt L' l s).h.get id ≠ none) : (subSt L' l s).h.get id = some o := by
  by_cases hex : ∃ (j : Nat) (p : Oper × AVal × AHeap), l[j]? = some p ∧ AHeap.get p.2.2 id ≠ none
  · obtain ⟨j, p, hj, hp⟩ := hex
    have key : ∀ L : Nat → Bool, L j = false → (subSt L l s).h.get id = none := fun L hL => by
      rw [subSt_h id l L (fun _ => false) s s (fun i q hq hqd => by
        have := A.ids i j q p id hq hj hqd hp
        subst this
        exact hL) rfl, subSt_none l _ _ fun _ => rfl]
      exact hs j p hj id hp
    cases h1 : L j with
    | false => rw [key L h1] at e; cases e
    | true =>
      cases h2 : L' j with
      | false => exact absurd (key L' h2) hn
      | true =>
        rw [← e]
        exact subSt_h id l L' L s s (fun i q hq hqd => by
          have := A.ids i j q p id hq hj hqd hp
          subst this
          rw [h1, h2]) rfl
  · rw [← e]
    exact subSt_h id l L' L s s (fun j p hj hp => absurd ⟨j, p, hj, hp⟩ hex) rfl
theorem runQ_trace [Tabs] {E : Env} : ∀ {g : List Oper} {s : AS} {R : Type} {k : AS → Option R} {r : R}, runQ E g s k = some r → ∃ l : Tr, l.map (·.1) = g ∧ k (subSt (fun _ => true) l s) = some r ∧
    ∀ (j : Nat) (o : Oper) (v : AVal) (os : AHeap), l[j]? = some (o, v, os) → Quiet E (subSt (fun i => decide (i < j)) l s) o v os ∧ Clear (subSt (fun i => decide (i < j)) l s) (o.dst.getD 0)
  | [], s, _, _, _, e => ⟨[], rfl, e, fun j o v os h => by simp at h⟩
  | o :: g, s, _, k, r, e => by
    simp only [runQ] at e
    obtain ⟨v, s', hk, _, hq⟩ := aOp_quiet e
    cases hb : Nat.beq s'.t s.t with
    | false => rw [hb] at hk; cases hk
    | true =>
      rw [hb] at hk
      simp only [cond_true] at hk
      obtain ⟨os, rfl, q, c⟩ := hq (Nat.eq_of_beq_eq_true hb)
      obtain ⟨l, h1, h2, h3⟩ := runQ_trace hk
      refine ⟨(o, v, os) :: l, by simp [h1], h2, fun j o' v' os' hj => ?_⟩
      cases j with
      | zero =>
        simp only [List.getElem?_cons_zero, Option.some.injEq, Prod.mk.injEq] at hj
        obtain ⟨rfl, rfl, rfl⟩ := hj
        rw [subSt_none _ _ _ fun j => by simp]
        exact ⟨q, c⟩
      | succ j =>
        have := h3 j o' v' os' (by simpa using hj)
        simpa [subSt, ap] using this
end Go.Ab
namespace Go.Ab
open Go Go.RowKit
section
variable {P : Program} {E : Env} {h get : HGet} {S : Blk} {w : World} {m : OMap} {B : Nat} {M0 : Blk}
theorem run_slice_pv [Tabs] {st : TypeId} {t : Ty} (ht : tyOk P st (.slice t) = true) {xs ys : List t.den} {x : Value} (r : CellRel h S w m (.pv (.slice t) xs) x) {lo hi : Option Value} {l q : Int}
    (hl : BoundIs lo 0 l) (hq : BoundIs hi xs.length q) (hs : sub xs l q = some ys) : ∃ v', (∀ w2, (Instr.sliceAt st x lo hi none).run P w2 = .ok v' w2) ∧ CellRel h S w m (.pv (.slice t) ys) v' := by
  obtain ⟨h0, h1, h2, rfl⟩ := sub_some hs
  obtain ⟨te, i, z, hu, hi', hsz, _⟩ := slice_ty ht
  obtain ⟨_, hlen, hr⟩ := r
  rcases hr with ⟨hx, rfl⟩ | ⟨a, cap, hx, hc, hb, hel⟩
  · simp only [List.cons.injEq, and_true] at hx
    subst hx
    simp only [List.length_nil] at h2 hq
    obtain rfl : q = 0 := by omega
    obtain rfl : l = 0 := by omega
    refine ⟨.slice none 0 0, fun w2 => ?_, ⟨rfl, by simp, .inl ⟨rfl, by simp⟩⟩⟩
    simp only [Instr.sliceAt, Sem.run_bind, run_underlying hu, Result.andThen_ok, Instr.slice, run_sliceBounds hl hq (Int.le_refl _) (Int.le_refl _) (by simp) (Nat.le_refl _), sizeOf, typeInfo, run_program, hi', Sem.run_pure]
    rfl
  · simp only [List.cons.injEq, and_true] at hx
    subst hx
    have hyl : ((xs.take q.toNat).drop l.toNat).length = q.toNat - l.toNat := by simp; omega
    refine ⟨.slice (if cap = l.toNat then some a else some (a.add (l.toNat * t.size))) (q.toNat - l.toNat) (cap - l.toNat), fun w2 => ?_, ⟨rfl, by rw [hyl]; omega, .inr ?_⟩⟩
    · simp only [Instr.sliceAt, Sem.run_bind, run_underlying hu, Result.andThen_ok, Instr.slice, run_sliceBounds hl hq h0 h1 h2 hc.1, sizeOf, typeInfo, run_program, hi', Sem.run_pure, hsz, Option.map_some]
    · refine ⟨if cap = l.toNat then a else a.add (l.toNat * t.size), cap - l.toNat, ?_, ⟨by rw [hyl]; omega, by omega⟩, ?_, fun j e hj => ?_⟩
      · rw [hyl]
        split <;> rfl
      · refine hb.imp (fun h => by rw [h]; simp) fun h => ?_
        obtain ⟨b, o, sp⟩ := a
        obtain ⟨k1, k2⟩ := h
        simp only at k1
        subst k1
        split
        · exact ⟨rfl, k2⟩
        · rw [add_none]; exact ⟨rfl, k2⟩
      · have hj' : j < q.toNat - l.toNat := by rw [← hyl]; exact (List.getElem?_eq_some_iff.1 hj).1
        rw [if_neg (by omega)]
        rw [List.getElem?_drop, List.getElem?_take, if_pos (by omega)] at hj
        obtain ⟨hsp, _⟩ := hb.resolve_left fun h => by rw [h] at hj; simp at hj
        obtain ⟨b, o, sp⟩ := a
        simp only at hsp hel
        subst hsp
        rw [add_none]
        obtain ⟨ds, k1, k2, k3⟩ := hel _ _ hj
        refine ⟨ds, k1, ?_, k3⟩
        simp only
        rw [show o + l.toNat * t.size + j * t.size = o + (l.toNat + j) * t.size by rw [Nat.add_mul]; omega]
        exact k2
theorem run_slice_str [Tabs] {st : TypeId} (ht : tyOk P st .str = true) {xs ys : Bytes} {x : Value} (r : CellRel h S w m (.pv .str xs) x) {lo hi : Option Value} {l q : Int}
    (hl : BoundIs lo 0 l) (hq : BoundIs hi xs.length q) (hs : sub xs l q = some ys) : ∃ v', (∀ w2, (Instr.sliceAt st x lo hi none).run P w2 = .ok v' w2) ∧ VRel h S w m (.one (.pv .str ys)) v' := by
  obtain ⟨h0, h1, h2, rfl⟩ := sub_some hs
  obtain ⟨dd, hd, ho⟩ := tyOk_desc ht
  cases dd <;> (try cases ho)
  obtain ⟨rfl, hlen⟩ := inv_str r
  have hsz : (ByteArray.mk ⟨xs⟩).size = xs.length := by simp [ByteArray.size]
  refine ⟨.string ⟨⟨(xs.take q.toNat).drop l.toNat⟩⟩, fun w2 => ?_, pv_str (by simp; omega)⟩
  simp only [Instr.sliceAt, Sem.run_bind, run_underlying hd, Result.andThen_ok, Instr.slice, Option.isSome_none, Bool.false_eq_true, if_false, hsz, run_sliceBounds hl hq h0 h1 h2 (Nat.le_refl _), Sem.run_pure, extract_mk]
theorem pure_run [Tabs] (hT : ∀ p ∈ E.T, tyOk P p.1 p.2 = true) (M : Mem h S w m B M0) (hg : ∀ id o, get id = some o → h id ≠ none → h id = some o) {d : Nat} {o : Oper} {ρ : Operand → Value} {ev : Operand → AVal} (hev : ∀ x ∈ o.op.operands, VRel h S w m (ev x) (ρ x)) {v : AVal} {os : AHeap} (e : (aQ E ev get d o.op).gives v os) (hp : pureOp o.op = true) :
    os = [] ∧ ∃ v', (∀ w2, (execOp ρ o).run P w2 = .ok (.value v') w2) ∧ VRel h S w m v v' := by
  have ty : ∀ {t : TypeId} {u : Ty}, look E.T t = some u → tyOk P t u = true := fun hl => hT _ (look_mem hl)
  obtain ⟨odst, op, oty, opos, oafter, oguard⟩ := o
  simp only at e hev hp
  unfold execOp
  cases op with
  | move x =>
    obtain ⟨rfl, rfl⟩ := e
    exact ⟨rfl, ρ x, fun _ => rfl, hev x (by simp [Op.operands])⟩
  | slice t x lo hi mx =>
    cases mx with
    | some mx => cases hp
    | none =>
      simp only [aQ] at e
      have hx := hev x (by simp [Op.operands])
      have hlo : ∀ y, lo = some y → VRel h S w m (ev y) (ρ y) := fun y hy => hev y (by simp [Op.operands, hy])
      have hhi : ∀ y, hi = some y → VRel h S w m (ev y) (ρ y) := fun y hy => hev y (by simp [Op.operands, hy])
      split at e
      · rename_i t' t1 xs hl hxs
        rw [hxs] at hx
        cases hu : decide (t1 = t') with
        | false => simp only [hu] at e; exact e.elim
        | true =>
          simp only [hu, cond_true] at e
          have hu := of_decide_eq_true hu
          subst hu
          split at e
          · rename_i l r hbl hbr
            obtain ⟨ys, hys, hv⟩ := e
            simp only [Prod.mk.injEq] at hv
            obtain ⟨rfl, rfl⟩ := hv
            obtain ⟨v', h1, h2⟩ := run_slice_pv (P := P) (h := h) (m := m) (ty hl) hx (bound_is hlo hbl) (bound_is hhi hbr) hys
            exact ⟨rfl, v', fun w2 => by simp [h1 w2], h2⟩
          · exact e.elim
      · rename_i xs hl hxs
        rw [hxs] at hx
        split at e
        · rename_i l r hbl hbr
          obtain ⟨ys, hys, hv⟩ := e
          simp only [Prod.mk.injEq] at hv
          obtain ⟨rfl, rfl⟩ := hv
          obtain ⟨v', h1, h2⟩ := run_slice_str (P := P) (h := h) (m := m) (ty hl) hx (bound_is hlo hbl) (bound_is hhi hbr) hys
          exact ⟨rfl, v', fun w2 => by simp [h1 w2], h2⟩
        · exact e.elim
      · rename_i t' id hl hxs
        rw [hxs] at hx
        split at e
        · rename_i dp t xs ho
          have hne : h id ≠ none := by obtain ⟨⟨_, _, _, hh⟩, _⟩ := hx; rw [hh]; simp
          have ho' := hg id _ ho hne
          cases hu : (decide (t = t') && E.win.any (Nat.beq d)) with
          | false => simp only [hu] at e; exact e.elim
          | true =>
            simp only [hu, cond_true] at e
            simp only [Bool.and_eq_true, decide_eq_true_eq] at hu
            obtain ⟨rfl, _⟩ := hu
            split at e
            · rename_i l r hbl hbr
              obtain ⟨hc, rfl, rfl⟩ := e
              simp only [Bool.and_eq_true, decide_eq_true_eq] at hc
              obtain ⟨v', q1, q2⟩ := q_slice_os (P := P) M (ty hl) ho' hx (bound_is hlo hbl) (bound_is hhi hbr) hc.1 hc.2.1 hc.2.2
              exact ⟨rfl, v', fun w2 => by simp [q1 w2], q2⟩
            · exact e.elim
        · exact e.elim
      · exact e.elim
  | _ => cases hp
end
end Go.Ab
namespace Go.Ab
open Go Go.RowKit
section
variable {P : Program} {E : Env} {S : Blk} {w w0 : World} {m : OMap} {B : Nat} {M0 : Blk}
theorem quiet_wp [Tabs] (hE : Good P E) (hB0 : B ≤ w0.heap.size) {s1 s : AS} {a : Act} (R : Rel w0 B M0 S m s a w) {o : Oper} {v : AVal} {os : AHeap} (q : Quiet E s1 o v os) (hev : ∀ x ∈ o.op.operands, s1.ev x = s.ev x)
    (hg : ∀ id x, s1.h.get id = some x → s.h.get id ≠ none → s.h.get id = some x) (hc : Clear s (o.dst.getD 0)) {next : Act → World → Prop} {Q : Exit → Act → World → Prop}
    (K : ∀ v' w' S' m', Rel w0 B M0 S' m' (ap s (o, v, os)) (a.put o.dst v') w' → Wider s.h.get (ap s (o, v, os)).h.get S S' w w' m m' → (∀ b, S' b → S b ∨ B ≤ b ∨ M0 b) → next (a.put o.dst v') w') : o.wp P a w next Q := by
  have hB : B ≤ w.heap.size := Nat.le_trans hB0 R.frm.size
  have fin : ∀ {v' w' S' m'}, QPost s.h.get S w m B M0 (o.dst.getD 0) v os v' w' S' m' → next (a.put o.dst v') w' := fun {v' w' S' m'} qp => by
    have M := qp.moved R hB s.t
    refine K v' w' S' m' (M.2.1.put M.1 o.dst) ?_ (qp.fresh_blocks hB)
    rw [ap_h]
    exact M.2.2
  rcases q with q | ⟨c, f, g, caps, C, x, y, z, ho, hcal, hf, hl, hv, hle, hx, hy, hz, hn, rfl, rfl⟩
  · obtain ⟨v', w', S', m', hx, qp⟩ := aQ_sound hE.T hE.ins.2.2.2.1 R.mem hB hg hc (ρ := a.eval) (fun x hx => by rw [hev x hx]; exact R.ev x) q
    exact wp_value hx (fin qp)
  · obtain ⟨hS, hfn⟩ := hE.G _ hl
    have inops : ∀ x, x = f ∨ x ∈ c.args.toList → x ∈ o.op.operands := fun x hx => by
      rw [ho]
      simp only [Op.operands, Call.operands, hcal]
      rcases hx with rfl | hx
      · simp
      · exact Array.mem_append.2 (.inr (Array.mem_toList_iff.1 hx))
    have hval := R.ev f
    rw [← hev f (inops f (.inl rfl)), hf] at hval
    obtain ⟨ccs, hval, hcaps⟩ := hval
    have rel : ∀ (i : Nat) (p : AVal) (u : Value), (callVals s1.ev c.args.toList caps)[i]? = some p → (c.args.toList.map a.eval ++ ccs.toList)[i]? = some u → VRel s.h.get S w m p u :=
      callVals_rel (fun q hq => by rw [hev q (inops q (.inr hq))]; exact R.ev q) hcaps
    have hcall := call_quiet hS (R.frm.tabs hB fun _ h => h.elim) R.mem R.mem hB hc hv hg (us := c.args.toList.map a.eval ++ ccs.toList) (callVals_len hcaps) rel hle hx hy hz hn
    have hrun := run_call_fn (ty := o.type) (ρ := a.eval) hfn hcal hval w
    unfold Oper.wp
    have hex : (execOp a.eval o).run P w = .ok (.enter g (c.args.map a.eval ++ ccs)) w := by
      rw [← hrun]
      obtain ⟨odst, op, oty, opos, oafter, oguard⟩ := o
      simp only at ho
      subst ho
      rfl
    rw [hex, Oper.upon_enter]
    have hm : (c.args.toList.map a.eval ++ ccs.toList).toArray = c.args.map a.eval ++ ccs := by
      rw [← Array.toList_map, ← Array.toList_append, Array.toArray_toList]
    rw [hm] at hcall
    refine Calls.mono hcall fun ending w' hk => ?_
    obtain ⟨v', S', m', rfl, qp⟩ := hk
    exact fin qp
theorem ancOf_bit {A : List Nat} {u : Nat} : ∀ (l : List Edge) (m0 : Nat), Nat.testBit (l.foldl (fun m e => bif Region.binds .any e then m ||| 2 ^ e.on ||| A.getD e.on 0 else m) m0) u = true → Nat.testBit m0 u = true ∨ ∃ e ∈ l, Region.binds .any e = true ∧ (u = e.on ∨ Nat.testBit (A.getD e.on 0) u = true)
  | [], _, h => .inl h
  | e :: l, m0, h => by
    simp only [List.foldl_cons] at h
    rcases ancOf_bit l _ h with h | ⟨e', h1, h2⟩
    · cases hb : Region.binds .any e with
      | false => rw [hb] at h; exact .inl h
      | true =>
        rw [hb] at h
        simp only [cond_true, Nat.testBit_or, Bool.or_eq_true, Nat.testBit_two_pow, decide_eq_true_eq] at h
        rcases h with (h | h) | h
        · exact .inl h
        · exact .inr ⟨e, List.mem_cons_self, hb, .inl h.symm⟩
        · exact .inr ⟨e, List.mem_cons_self, hb, .inr h⟩
    · exact .inr ⟨e', List.mem_cons_of_mem _ h1, h2⟩
theorem ancOk_spec {A : List Nat} {ops : List Oper} (h : ancOk A ops = true) {k : Nat} {o : Oper} (hk : ops[k]? = some o) : A.getD k 0 = ancOf A o ∧ ∀ e ∈ o.after.toList, Region.binds .any e = true → e.on < k := by
  unfold ancOk at h
  simp only [Bool.and_eq_true, List.all_eq_true] at h
  have := h.2 (o, k) (List.mem_zipIdx_iff_getElem?.2 hk)
  refine ⟨Nat.eq_of_beq_eq_true this.1, fun e he hb => ?_⟩
  have h2 := this.2 e he
  rw [hb] at h2
  exact Nat.lt_of_succ_le (by simpa [Nat.blt] using h2)
def Closed (ops : Array Oper) (listed : Array Bool) : Prop := ∀ (k : Nat) (o : Oper), ops[k]? = some o → listed.getD k false = true → ∀ e ∈ o.after.toList, Region.binds .any e = true → listed.getD e.on false = true
theorem Closed.anc [Tabs] {A : List Nat} {ops : Array Oper} (hA : ancOk A ops.toList = true) {listed : Array Bool} (hc : Closed ops listed) : ∀ (k u : Nat), (∀ o, ops[k]? = some o → ∀ e ∈ o.after.toList, Region.binds .any e = true → listed.getD e.on false = true) → Nat.testBit (A.getD k 0) u = true → listed.getD u false = true := by
  intro k
  induction k using Nat.strongRecOn with
  | _ k ih =>
    intro u hd hb
    cases ho : ops[k]? with
    | none =>
      have hl : A.length = ops.toList.length := by
        unfold ancOk at hA
        simp only [Bool.and_eq_true] at hA
        exact Nat.eq_of_beq_eq_true hA.1
      have : A.getD k 0 = 0 := by
        rw [List.getD_eq_getElem?_getD, List.getElem?_eq_none]
        · rfl
        · rw [hl]
          have := Array.getElem?_eq_none_iff.1 ho
          simpa using this
      rw [this] at hb
      simp at hb
    | some o =>
      have sp := ancOk_spec hA (k := k) (o := o) (by simpa using ho)
      rw [sp.1] at hb
      rcases ancOf_bit _ _ hb with h | ⟨e, he, hbd, h⟩
      · simp at h
      · have hl := hd o ho e he hbd
        rcases h with rfl | h
        · exact hl
        · exact ih e.on (sp.2 e he hbd) u (fun o' ho' e' he' hb' => hc e.on o' ho' hl e' he' hb') h
theorem barAt_spec {A : List Nat} {i k u : Nat} (h : barAt A i = true) (hk : k < A.length) (hik : i ≤ k) (hu : u < i) : Nat.testBit (A.getD k 0) u = true := by
  unfold barAt at h
  rw [List.all_eq_true] at h
  have hm : A.getD k 0 ∈ A.drop i := by
    rw [List.getD_eq_getElem?_getD, List.getElem?_eq_getElem hk, Option.getD_some]
    rw [List.mem_iff_getElem?]
    exact ⟨k - i, by rw [List.getElem?_drop, Nat.add_sub_cancel' hik, List.getElem?_eq_getElem hk]⟩
  have := Nat.eq_of_beq_eq_true (h _ hm)
  have h2 : Nat.testBit (A.getD k 0 &&& (2 ^ i - 1)) u = Nat.testBit (2 ^ i - 1) u := by rw [this]
  rw [Nat.testBit_and, Nat.testBit_two_pow_sub_one] at h2
  simpa [hu] using h2
theorem nodupB_dst : ∀ {g : List Oper}, nodupB (g.filterMap (·.dst)) = true → ∀ (j k : Nat) (o o' : Oper) (t : Nat), g[j]? = some o → g[k]? = some o' → o.dst = some t → o'.dst = some t → j = k
  | [], _, j, _, _, _, _, h, _, _, _ => by simp at h
  | p :: g, hn, j, k, o, o', t, hj, hk, h1, h2 => by
    have tail : nodupB (g.filterMap (·.dst)) = true := by
      cases hp : p.dst with
      | none => rw [List.filterMap_cons, hp] at hn; exact hn
      | some d => rw [List.filterMap_cons, hp] at hn; simp only [nodupB, Bool.and_eq_true] at hn; exact hn.2
    have head : ∀ (i : Nat) (q : Oper), g[i]? = some q → p.dst = some t → q.dst = some t → False := fun i q hi hp hq => by
      rw [List.filterMap_cons, hp] at hn
      simp only [nodupB, Bool.and_eq_true, Bool.not_eq_true', List.any_eq_false] at hn
      refine hn.1 t (List.mem_filterMap.2 ⟨q, List.mem_of_getElem? hi, hq⟩) ?_
      simp
    cases j with
    | zero =>
      simp only [List.getElem?_cons_zero, Option.some.injEq] at hj
      subst hj
      cases k with
      | zero => rfl
      | succ k => exact (head k o' (by simpa using hk) h1 h2).elim
    | succ j =>
      cases k with
      | zero =>
        simp only [List.getElem?_cons_zero, Option.some.injEq] at hk
        subst hk
        exact (head j o (by simpa using hj) h2 h1).elim
      | succ k => rw [nodupB_dst tail j k o o' t (by simpa using hj) (by simpa using hk) h1 h2]
def cnt (L : Nat → Bool) : Nat → Nat
  | 0 => 0
  | n + 1 => cnt L n + (if L n then 0 else 1)
theorem cnt_false : ∀ n, cnt (fun _ => false) n = n
  | 0 => rfl
  | n + 1 => by simp [cnt, cnt_false n]
theorem cnt_zero {L : Nat → Bool} : ∀ {n : Nat}, cnt L n = 0 → ∀ k, k < n → L k = true
  | n + 1, h, k, hk => by
    simp only [cnt] at h
    by_cases e : k = n
    · subst e
      cases hL : L k with
      | true => rfl
      | false => simp [hL] at h
    · exact cnt_zero (n := n) (by omega) k (by omega)
theorem cnt_pos [Tabs] {L : Nat → Bool} : ∀ {n c : Nat}, cnt L n = c + 1 → ∃ k, k < n ∧ L k = false ∧ ∀ j, j < k → L j = true
  | n + 1, c, h => by
    simp only [cnt] at h
    cases hc : cnt L n with
    | zero =>
      refine ⟨n, Nat.lt_succ_self n, ?_, fun j hj => cnt_zero hc j hj⟩
      cases hL : L n with
      | false => rfl
      | true => simp [hc, hL] at h
    | succ c' =>
      obtain ⟨k, h1, h2, h3⟩ := cnt_pos hc
      exact ⟨k, by omega, h2, h3⟩
theorem cnt_add {L L' : Nat → Bool} {k : Nat} (h0 : L k = false) (h1 : ∀ j, L' j = (L j || decide (j = k))) : ∀ {n : Nat}, k < n → cnt L' n + 1 = cnt L n
  | n + 1, hk => by
    simp only [cnt]
    by_cases e : k = n
    · subst e
      have : ∀ i, i ≤ k → cnt L' i = cnt L i := fun i => by
        induction i with
        | zero => intro _; rfl
        | succ i ih =>
          intro hi
          simp only [cnt]
          rw [ih (by omega), h1 i]
          have : ¬ i = k := by omega
          simp [this]
      rw [this k (Nat.le_refl _), h1 k, h0]
      simp
    · have := cnt_add h0 h1 (n := n) (by omega)
      have hn : L' n = L n := by rw [h1 n]; have : ¬ n = k := fun h => e h.symm; simp [this]
      rw [hn]
      omega
structure Shift [Tabs] (w0 : World) (B : Nat) (M0 S : Blk) (m : OMap) (s : AS) (a : Act) (w : World) (ds : List Nat) (s' : AS) (a' : Act) (w' : World) (S' : Blk) (m' : OMap) : Prop where
  rel : Rel w0 B M0 S' m' s' a' w'
  ext : Ext B M0 S S' w w'
  t : s.t ≤ s'.t
  wide : s'.t = s.t → Wider s.h.get s'.h.get S S' w w' m m'
  keep : ∀ t, t ∉ ds → a'.tmps.getD t undef = a.tmps.getD t undef
  len : a'.tmps.size = a.tmps.size
def dstsL (g : List Oper) : List Nat := g.filterMap (·.dst)
def UpTo (n i : Nat) (listed : Array Bool) : Prop := listed.size = n ∧ ∀ k, k < n → listed[k]? = some (decide (k < i))
def GuardOn (ops : Array Oper) (a : Act) (g : Nat × Bool) (l : List Nat) : Prop := ∃ gd, (ops[g.1]?).bind (·.dst) = some gd ∧ gd ∉ l ∧ a.tmps.getD gd undef = .bool g.2
theorem getD_bool {a : Array Value} {t : Nat} {b : Bool} (h : a.getD t undef = .bool b) : a[t]? = some (.bool b) := by
  rw [Array.getD_eq_getD_getElem?] at h
  cases e : a[t]? with
  | none => rw [e] at h; cases h
  | some v => rw [e] at h; simp at h; rw [h]
theorem GuardOn.wanted [Tabs] {ops : Array Oper} {a : Act} {g : Nat × Bool} {l : List Nat} (h : GuardOn ops a g l) {o : Oper} (ho : o.guard = some g) : Region.wanted o (yielded ops a.tmps) = true := by
  obtain ⟨gd, h1, _, h3⟩ := h
  have : yielded ops a.tmps g.1 = some g.2 := by
    unfold yielded
    rw [h1]
    simp [getD_bool h3]
  unfold Region.wanted
  rw [ho]
  obtain ⟨i, b⟩ := g
  simp only at this ⊢
  rw [this]
  simp
theorem GuardOn.keep {ops : Array Oper} {a a' : Act} {g : Nat × Bool} {l : List Nat} (h : GuardOn ops a g l) (hk : ∀ t, t ∉ l → a'.tmps.getD t undef = a.tmps.getD t undef) : GuardOn ops a' g l := by
  obtain ⟨gd, h1, h2, h3⟩ := h
  exact ⟨gd, h1, h2, (hk gd h2).trans h3⟩
theorem gEq_spec {a b : Nat × Bool} (h : gEq a b = true) : a = b := by
  unfold gEq at h
  simp only [Bool.and_eq_true, beq_iff_eq] at h
  exact Prod.ext (Nat.eq_of_beq_eq_true h.1) h.2
structure SegOk (A : List Nat) (i : Nat) (g : List Oper) : Prop where
  one : ∀ (j k : Nat) (o o' : Oper) (t : Nat), g[j]? = some o → g[k]? = some o' → o.dst = some t → o'.dst = some t → j = k
  guard : ∀ (j : Nat) (o : Oper), g[j]? = some o → o.guard = segGuard g
  order : ∀ (j k : Nat) (o o' : Oper) (t : Nat), g[j]? = some o → g[k]? = some o' → o'.dst = some t → .tmp t ∈ o.op.operands → (k < j → Nat.testBit (A.getD (i + j) 0) (i + k) = true) ∧ (j < k → Nat.testBit (A.getD (i + k) 0) (i + j) = true)
theorem segOk_spec [Tabs] {A : List Nat} {i : Nat} {g : List Oper} (h : segOk A i g = true) (h1 : g.length ≠ 1) : SegOk A i g := by
  have hh : (lateOk A i (lateSplit g) && (nodupB (g.filterMap (·.dst)) && g.zipIdx.all fun p =>
    (match segGuard g, p.1.guard with | none, none => true | some g, some g' => gEq g g' | _, _ => false) &&
    g.zipIdx.all fun q => match q.1.dst with
      | none => true
      | some t => !(tmpsIn p.1).any (Nat.beq t) || (bif Nat.blt q.2 p.2 then Nat.testBit (A.getD (i + p.2) 0) (i + q.2) else bif Nat.blt p.2 q.2 then Nat.testBit (A.getD (i + q.2) 0) (i + p.2) else true))) = true := by
    unfold segOk at h
    split at h
    · exact absurd rfl h1
    · exact h
  rw [Bool.and_eq_true] at hh
  replace hh := hh.2
  simp only [Bool.and_eq_true, List.all_eq_true] at hh
  obtain ⟨h2, h3⟩ := hh
  refine ⟨nodupB_dst h2, fun j o hj => ?_, fun j k o o' t hj hk ht hm => ?_⟩
  · have := (h3 (o, j) (List.mem_zipIdx_iff_getElem?.2 hj)).1
    simp only at this
    split at this
    · rename_i e1 e2; rw [e1, e2]
    · rename_i g1 g2 e1 e2; rw [e1, e2, gEq_spec this]
    · cases this
  · have := (h3 (o, j) (List.mem_zipIdx_iff_getElem?.2 hj)).2 (o', k) (List.mem_zipIdx_iff_getElem?.2 hk)
    simp only [ht] at this
    have hin : (tmpsIn o).any (Nat.beq t) = true := by
      rw [List.any_eq_true]
      exact ⟨t, List.mem_filterMap.2 ⟨.tmp t, Array.mem_toList_iff.2 hm, rfl⟩, by simp⟩
    rw [hin] at this
    simp only [Bool.not_true, Bool.false_or] at this
    have blt : ∀ {x y : Nat}, x < y → Nat.blt x y = true := fun {x y} h => by simp [Nat.blt]; omega
    have nblt : ∀ {x y : Nat}, ¬ x < y → Nat.blt x y = false := fun {x y} h => by
      cases e : Nat.blt x y with
      | false => rfl
      | true => exact absurd (Nat.lt_of_succ_le (by simpa [Nat.blt] using e)) h
    refine ⟨fun hlt => ?_, fun hlt => ?_⟩
    · rw [blt hlt] at this; exact this
    · rw [nblt (by omega : ¬ k < j), blt hlt] at this; exact this
theorem allDst_spec {g : List Oper} (h : allDst g = true) : ∀ (j : Nat) (o : Oper), g[j]? = some o → o.dst ≠ none := fun j o hj e => by
  have := List.all_eq_true.1 h o (List.mem_of_getElem? hj)
  simp only [e] at this
  cases this
theorem segOk_late {A : List Nat} {i : Nat} {g : List Oper} (h : segOk A i g = true) (h1 : g.length ≠ 1) : lateOk A i (lateSplit g) = true := by
  unfold segOk at h
  split at h
  · exact absurd rfl h1
  · exact (Bool.and_eq_true_iff.1 h).1
theorem subSt_congr : ∀ (l : Tr) (L L' : Nat → Bool) (s : AS), (∀ j, j < l.length → L j = L' j) → subSt L l s = subSt L' l s
  | [], _, _, _, _ => rfl
  | p :: r, L, L', s, h => by
    simp only [subSt]
    rw [h 0 (by simp)]
    exact subSt_congr r _ _ _ fun j hj => h (j + 1) (by simp; omega)
theorem any_walk [Tabs] {ops : Array Oper} {Q : Exit → Act → World → Prop} {A : List Nat} (hA : ancOk A ops.toList = true) {pre g rest : List Oper} (hs : ops.toList = pre ++ (g ++ rest)) (hb : barAt A (pre.length + g.length) = true) (Inv : (Nat → Bool) → Act → World → Prop)
    (step : ∀ (L L' : Nat → Bool) (k : Nat) (o : Oper) (a : Act) (w : World) (next : Act → World → Prop), g[k]? = some o → L k = false → (∀ j, L' j = (L j || decide (j = k))) → (∀ i, i < g.length → Nat.testBit (A.getD (pre.length + k) 0) (pre.length + i) = true → L i = true) →
      (∀ i, i < g.length → Nat.testBit (A.getD (pre.length + i) 0) (pre.length + k) = true → L i = false) → Inv L a w → (∀ a' w', Inv L' a' w' → next a' w') → if Region.wanted o (yielded ops a.tmps) then o.wp P a w next Q else next (a.put o.dst undef) w)
    (fin : ∀ L a w listed, (∀ k, k < g.length → L k = true) → Inv L a w → UpTo ops.size (pre.length + g.length) listed → wpAny P .any ops Q rest.length listed a w)
    {a : Act} {w : World} (h0 : Inv (fun _ => false) a w) {listed : Array Bool} (hl : UpTo ops.size pre.length listed) : wpAny P .any ops Q (g.length + rest.length) listed a w := by
  have opsat : ∀ {k : Nat}, k < g.length → ops[pre.length + k]? = g[k]? := fun {k} hk => by
    rw [← Array.getElem?_toList, hs, List.getElem?_append_right (by omega), Nat.add_sub_cancel_left, List.getElem?_append_left hk]
  have opsize : ops.size = pre.length + (g.length + rest.length) := by rw [← Array.length_toList, hs]; simp
  have alen : A.length = ops.size := by
    unfold ancOk at hA
    simp only [Bool.and_eq_true] at hA
    rw [← Array.length_toList]; exact Nat.eq_of_beq_eq_true hA.1
  suffices key : ∀ (n : Nat) (L : Nat → Bool) (lst : Array Bool) (a' : Act) (w' : World), cnt L g.length = n → lst.size = ops.size → (∀ k, k < pre.length → lst[k]? = some true) → (∀ k, k < g.length → lst[pre.length + k]? = some (L k)) → (∀ k, pre.length + g.length ≤ k → k < ops.size → lst[k]? = some false) →
      Closed ops lst → Inv L a' w' → wpAny P .any ops Q (n + rest.length) lst a' w' by
    refine key g.length (fun _ => false) listed a w (cnt_false _) hl.1 (fun k hk => ?_) (fun k hk => ?_) (fun k h1 h2 => ?_) (fun k o hk hlk e he hbd => ?_) h0
    · rw [hl.2 k (by omega)]; simp [hk]
    · rw [hl.2 _ (by omega)]; simp
    · rw [hl.2 k h2]; simp; omega
    · have hks : k < ops.size := (Array.getElem?_eq_some_iff.1 hk).1
      rw [Array.getD_eq_getD_getElem?, hl.2 k hks] at hlk
      simp only [Option.getD_some, decide_eq_true_eq] at hlk
      have := (ancOk_spec hA (k := k) (o := o) (by simpa using hk)).2 e he hbd
      rw [Array.getD_eq_getD_getElem?, hl.2 _ (by omega)]
      simp; omega
  intro n
  induction n with
  | zero =>
    intro L lst a' w' hc hsz h1 h2 h3 hcl I1
    rw [Nat.zero_add]
    refine fin L a' w' lst (cnt_zero hc) I1 ⟨hsz, fun k hk => ?_⟩
    by_cases c1 : k < pre.length
    · rw [h1 k c1]; simp; omega
    · by_cases c2 : k < pre.length + g.length
      · have := h2 (k - pre.length) (by omega)
        rw [Nat.add_sub_cancel' (by omega)] at this
        rw [this, cnt_zero hc _ (by omega)]; simp [c2]
      · rw [h3 k (by omega) hk]; simp [c2]
  | succ n ih =>
    intro L lst a' w' hc hsz h1 h2 h3 hcl I1
    have getL : ∀ {k : Nat}, k < g.length → ∀ d, lst.getD (pre.length + k) d = L k := fun {k} hk d => by
      rw [Array.getD_eq_getD_getElem?, h2 k hk]; rfl
    rw [Nat.add_right_comm]
    refine ⟨fun hr => ?_, fun j hj => ?_⟩
    · obtain ⟨k, hk, hLk, hmin⟩ := cnt_pos hc
      have : pre.length + k ∈ Region.ready .any ops lst := by
        rw [mem_ready]
        refine ⟨by rw [getL hk]; exact hLk, ?_⟩
        obtain ⟨o, hgo⟩ : ∃ o, g[k]? = some o := ⟨g[k], by simp [hk]⟩
        refine ⟨o, (opsat hk).trans hgo, fun e he hbd => ?_⟩
        have hlt := (ancOk_spec hA (k := pre.length + k) (o := o) (by rw [Array.getElem?_toList]; exact (opsat hk).trans hgo)).2 e (by simpa using he) hbd
        by_cases c1 : e.on < pre.length
        · rw [Array.getD_eq_getD_getElem?, h1 _ c1]; rfl
        · have := hmin (e.on - pre.length) (by omega)
          have h5 := getL (k := e.on - pre.length) (by omega) false
          rw [Nat.add_sub_cancel' (by omega)] at h5
          rw [h5, this]
      rw [hr] at this
      cases this
    · rw [mem_ready] at hj
      obtain ⟨hj0, o, hjo, hjr⟩ := hj
      have hjs : j < ops.size := (Array.getElem?_eq_some_iff.1 hjo).1
      have anc : ∀ u, Nat.testBit (A.getD j 0) u = true → lst.getD u false = true := fun u hu =>
        hcl.anc hA j u (fun o' ho' e he hbd => by rw [hjo] at ho'; cases ho'; exact hjr e (by simpa using he) hbd) hu
      have hj1 : ¬ j < pre.length := fun h => by
        rw [Array.getD_eq_getD_getElem?, h1 j h] at hj0; cases hj0
      have hj2 : j < pre.length + g.length := by
        refine Nat.lt_of_not_le fun h => ?_
        obtain ⟨k, hk, hLk, _⟩ := cnt_pos hc
        have := anc (pre.length + k) (barAt_spec hb (by omega) h (by omega))
        rw [getL hk, hLk] at this
        cases this
      obtain ⟨k, rfl⟩ : ∃ k, j = pre.length + k := ⟨j - pre.length, by omega⟩
      have hk : k < g.length := by omega
      have hLk : L k = false := by rw [← getL hk true]; exact hj0
      have hgo : g[k]? = some o := (opsat hk).symm.trans hjo
      have st := step L (fun i => L i || decide (i = k)) k o a' w' (wpAny P .any ops Q (n + rest.length) (lst.setIfInBounds (pre.length + k) true)) hgo hLk (fun _ => rfl)
        (fun i hi hbit => by have := anc _ hbit; rw [getL hi] at this; exact this)
        (fun i hil hbit => by
          cases hLi : L i with
          | false => rfl
          | true =>
            obtain ⟨o', hi⟩ : ∃ o', g[i]? = some o' := ⟨g[i], by simp [hil]⟩
            have hoi : ops[pre.length + i]? = some o' := (opsat hil).trans hi
            have := hcl.anc hA (pre.length + i) (pre.length + k) (fun o2 ho2 e he hbd => hcl _ o2 ho2 (by rw [getL hil]; exact hLi) e he hbd) hbit
            rw [getL hk, hLk] at this
            cases this) I1
        (fun a2 w2 I2 => by
          have hcnt := cnt_add (L := L) (L' := fun i => L i || decide (i = k)) hLk (fun _ => rfl) hk
          refine ih (fun i => L i || decide (i = k)) _ _ _ (by omega) (by simp [hsz]) (fun i hi => ?_) (fun i hi => ?_) (fun i hi1 hi2 => ?_) ?_ I2
          · rw [Array.getElem?_setIfInBounds_ne (by omega)]; exact h1 i hi
          · by_cases e : i = k
            · subst e; rw [Array.getElem?_setIfInBounds_self_of_lt (by omega)]; simp
            · rw [Array.getElem?_setIfInBounds_ne (by omega), h2 i hi]; simp [e]
          · rw [Array.getElem?_setIfInBounds_ne (by omega)]; exact h3 i hi1 hi2
          · intro i o' hio hil e he hbd
            by_cases e' : i = pre.length + k
            · subst e'
              rw [hjo] at hio
              cases hio
              exact getD_set_true (hjr e (by simpa using he) hbd)
            · rw [getD_set_ne false (fun h => e' h.symm)] at hil
              exact getD_set_true (hcl i o' hio hil e he hbd))
      unfold wpOp
      simp only [hjo]
      cases hw : Region.wanted o (yielded ops a'.tmps) with
      | true => rw [hw] at st; rw [if_pos rfl] at st ⊢; exact .inl st
      | false => rw [hw] at st; rw [if_neg (by simp)] at st ⊢; exact st
theorem any_seg [Tabs] (hE : Good P E) (hB0 : B ≤ w0.heap.size) {ops : Array Oper} {Q : Exit → Act → World → Prop} {A : List Nat} (hA : ancOk A ops.toList = true) {pre g rest : List Oper} (hs : ops.toList = pre ++ (g ++ rest)) (ho : SegOk A pre.length g) (hod : ∀ (j : Nat) (o : Oper), g[j]? = some o → o.dst ≠ none) (hb : barAt A (pre.length + g.length) = true)
    {s : AS} {a : Act} (R : Rel w0 B M0 S m s a w) (hgd : ∀ g', segGuard g = some g' → GuardOn ops a g' (dstsL g)) {R' : Type} {k : AS → Option R'} {r : R'} (e : runQ E g s k = some r)
    (K : ∀ s' a' w' S' m' listed, k s' = some r → Shift w0 B M0 S m s a w (dstsL g) s' a' w' S' m' → UpTo ops.size (pre.length + g.length) listed → wpAny P .any ops Q rest.length listed a' w')
    {listed : Array Bool} (hl : UpTo ops.size pre.length listed) : wpAny P .any ops Q (g.length + rest.length) listed a w := by
  obtain ⟨l, lg, lk, lq⟩ := runQ_trace e
  have at_ : ∀ {j : Nat} {p : Oper × AVal × AHeap}, l[j]? = some p → g[j]? = some p.1 := fun {j p} hj => by rw [← lg, List.getElem?_map, hj]; rfl
  have of_ : ∀ {j : Nat} {o : Oper}, g[j]? = some o → ∃ v os, l[j]? = some (o, v, os) := fun {j o} hj => by
    rw [← lg, List.getElem?_map] at hj
    cases hp : l[j]? with
    | none => rw [hp] at hj; cases hj
    | some p => rw [hp] at hj; simp at hj; subst hj; exact ⟨p.2.1, p.2.2, rfl⟩
  have llen : l.length = g.length := by rw [← lg]; simp
  have Ap : Apart l := ⟨fun j p hj => hod j p.1 (at_ hj), fun j k p q t hj hk h1 h2 => ho.one j k p.1 q.1 t (at_ hj) (at_ hk) h1 h2, fun j p hj => by
    obtain ⟨o, v, os⟩ := p
    exact (lq j o v os hj).1.small⟩
  have clear0 : ∀ (j : Nat) (p : Oper × AVal × AHeap), l[j]? = some p → ∀ (id d : Nat), p.1.dst.getD 0 = d → d * 16 ≤ id → id ≤ d * 16 + 15 → ∀ L : Nat → Bool, L j = false → (subSt L l s).h.get id = none := fun j p hj id d0 i0 i1 i2 L hL => by
    obtain ⟨o, v, os⟩ := p
    have c := (lq j o v os hj).2 id (i0 ▸ i1) (i0 ▸ i2)
    rw [← c]
    refine subSt_h id l L _ s s (fun i q hq hqd => ?_) rfl
    have sm := Ap.small i q hq id hqd
    have : i = j := by
      cases e1 : q.1.dst with
      | none => exact absurd e1 (Ap.dst i q hq)
      | some d =>
        cases e2 : o.dst with
        | none => exact absurd e2 (Ap.dst j _ hj)
        | some d' =>
          simp only [e1, e2, Option.getD_some] at sm i0
          have i3 : @Eq Nat d' d0 := i0
          have : d = d' := by
            rcases Nat.lt_trichotomy d d' with h | h | h
            · omega
            · exact h
            · omega
          subst this
          exact Ap.one i j q _ d hq hj e1 e2
    subst this
    simp [hL]
  refine any_walk hA hs hb (fun L a' w' => ∃ S' m', Rel w0 B M0 S' m' (subSt L l s) a' w' ∧ Wider s.h.get (subSt L l s).h.get S S' w w' m m' ∧ (∀ t, t ∉ dstsL g → a'.tmps.getD t undef = a.tmps.getD t undef) ∧ ∀ b, S' b → S b ∨ B ≤ b ∨ M0 b) ?_ ?_ ?_ hl
  · intro L L' k o a' w' next hgo hLk hL' hanc hdes ⟨S', m', R1, W1, k1, n1⟩ hnext
    obtain ⟨v, os, hlk⟩ := of_ hgo
    have hwant : Region.wanted o (yielded ops a'.tmps) = true := by
      have hgu := ho.guard k o hgo
      cases hg' : segGuard g with
      | none => unfold Region.wanted; rw [hgu, hg']
      | some g' => exact ((hgd g' hg').keep k1).wanted (hgu.trans hg')
    rw [if_pos hwant]
    have hother : ∀ (i : Nat) (o' : Oper) (t : Nat), g[i]? = some o' → o'.dst = some t → .tmp t ∈ o.op.operands → decide (i < k) = L i := fun i o' t hi ht hm => by
      have hord := ho.order k i o o' t hgo hi ht hm
      have hil : i < g.length := (List.getElem?_eq_some_iff.1 hi).1
      rcases Nat.lt_trichotomy i k with hik | hik | hik
      · have := hanc i hil (hord.1 hik)
        simp [hik, this]
      · subst hik; simp [hLk]
      · rw [hdes i hil (hord.2 hik)]; simp; omega
    refine quiet_wp hE hB0 R1 (lq k o v os hlk).1 (fun x hx => ?_) (fun id x h5 h6 => ?_) (fun id h5 h6 => clear0 k _ hlk id _ rfl h5 h6 L hLk) (fun v' w1 S1 m1 R2 W2 n2 => ?_)
    · cases x with
      | tmp t => exact subSt_ρ t l _ L s s (fun i p hp hpd => hother i p.1 t (at_ hp) hpd hx) rfl rfl
      | _ => rfl
    · exact subSt_agree Ap (fun i p hp id hid => by
        have sm := Ap.small i p hp id hid
        have := clear0 i p hp id _ rfl sm.1 sm.2 (fun _ => false) rfl
        rw [subSt_none l _ _ fun _ => rfl] at this
        exact this) _ L id x h5 h6
    · have hadd := subSt_add Ap (L := L) (L' := L') hlk hLk hL' s
      have hget : (ap (subSt L l s) (o, v, os)).h.get = (subSt L' l s).h.get := funext hadd.h
      refine hnext _ _ ⟨S1, m1, R2.same hadd, by rw [← hget]; exact W1.trans W2, fun t ht => ?_, fun b hb => (n2 b hb).elim (fun h => n1 b h) .inr⟩
      have hdst : o.dst ≠ some t := fun hd => ht (List.mem_filterMap.2 ⟨o, List.mem_of_getElem? hgo, hd⟩)
      rw [← k1 t ht]
      exact Act.eval_put (a := a') (dst := o.dst) (v := v') (x := .tmp t) (fun d hd hx => hdst (by cases hx; exact hd))
  · intro L a' w' lst hall ⟨S', m', R1, W1, k1, n1⟩ hup
    have hst : subSt L l s = subSt (fun _ => true) l s := subSt_congr l _ _ s fun j hj => hall j (by omega)
    exact K _ a' w' S' m' lst lk ⟨by rw [← hst]; exact R1, W1.ext n1, Nat.le_of_eq (subSt_t _ _ _).symm, fun _ => by rw [← hst]; exact W1, k1, by rw [R1.size, subSt_len, R.size]⟩ hup
  · have h0 := subSt_none l (fun _ => false) s fun _ => rfl
    exact ⟨S, m, by rw [h0]; exact R, by rw [h0]; exact Wider.refl _ _ _ _, fun _ _ => rfl, fun _ h => .inl h⟩
theorem yielded_put {ops : Array Oper} {a : Act} {o : Oper} {g : Nat × Bool} (h : yielded ops a.tmps g.1 ≠ some g.2) : yielded ops (a.put o.dst undef).tmps g.1 ≠ some g.2 := by
  unfold yielded at h ⊢
  cases hg : (ops[g.1]?).bind (·.dst) with
  | none => simp
  | some gd =>
    rw [hg] at h
    simp only [Option.bind_some] at h ⊢
    cases hd : o.dst with
    | none => exact h
    | some d =>
      simp only [Act.put]
      rw [Array.getElem?_setIfInBounds]
      by_cases e : d = gd
      · rw [if_pos e]
        have : ∀ (b : Bool), (if d < a.tmps.size then some undef else none) ≠ some (Value.bool b) := fun b hb => by
          split at hb <;> cases hb
        split
        · rename_i b hb; exact absurd hb (this b)
        · simp
      · rw [if_neg e]; exact h
theorem any_skip [Tabs] {ops : Array Oper} {Q : Exit → Act → World → Prop} {A : List Nat} (hA : ancOk A ops.toList = true) {pre g rest : List Oper} (hs : ops.toList = pre ++ (g ++ rest)) (hgu : ∀ (j : Nat) (o : Oper), g[j]? = some o → o.guard = segGuard g) (hb : barAt A (pre.length + g.length) = true)
    {a : Act} {g' : Nat × Bool} (hg : segGuard g = some g') (hy : yielded ops a.tmps g'.1 ≠ some g'.2)
    (K : ∀ a' listed, (∀ t, t ∉ dstsL g → a'.tmps.getD t undef = a.tmps.getD t undef) → (∀ t, t ∈ dstsL g → a'.tmps.getD t undef = undef) → a'.tmps.size = a.tmps.size → a'.defers = a.defers → UpTo ops.size (pre.length + g.length) listed → wpAny P .any ops Q rest.length listed a' w)
    {listed : Array Bool} (hl : UpTo ops.size pre.length listed) : wpAny P .any ops Q (g.length + rest.length) listed a w := by
  refine any_walk hA hs hb (fun L a' w' => w' = w ∧ (∀ t, t ∉ dstsL g → a'.tmps.getD t undef = a.tmps.getD t undef) ∧ (∀ (k : Nat) (o : Oper) (t : Nat), g[k]? = some o → L k = true → o.dst = some t → a'.tmps.getD t undef = undef) ∧ a'.tmps.size = a.tmps.size ∧ a'.defers = a.defers ∧ yielded ops a'.tmps g'.1 ≠ some g'.2) ?_ ?_ ?_ hl
  · rintro L L' k o a' w' next hgo hLk hL' _ _ ⟨rfl, k1, k2, k3, k4, k5⟩ hnext
    have hwant : Region.wanted o (yielded ops a'.tmps) = false := by
      unfold Region.wanted
      rw [hgu k o hgo, hg]
      simpa using k5
    rw [hwant, if_neg (by simp)]
    have hput : ∀ t, (a'.put o.dst undef).tmps.getD t undef = if o.dst = some t then undef else a'.tmps.getD t undef := fun t => by
      cases hd : o.dst with
      | none => simp [Act.put]
      | some d =>
        simp only [Act.put, Array.getD_eq_getD_getElem?, Array.getElem?_setIfInBounds]
        by_cases e : d = t
        · subst e
          by_cases h : d < a'.tmps.size <;> simp [h]
        · simp [e]
    refine hnext _ _ ⟨rfl, fun t ht => ?_, fun i o' t hi hLi ht => ?_, by rw [← k3]; cases o.dst <;> simp [Act.put], by rw [← k4]; cases o.dst <;> rfl, yielded_put k5⟩
    · have hdst : o.dst ≠ some t := fun hd => ht (List.mem_filterMap.2 ⟨o, List.mem_of_getElem? hgo, hd⟩)
      rw [hput, if_neg hdst]; exact k1 t ht
    · rw [hput]
      split
      · rfl
      · rename_i hne
        refine k2 i o' t hi ?_ ht
        rw [hL' i] at hLi
        by_cases e : i = k
        · subst e
          rw [hgo] at hi
          cases hi
          exact absurd ht hne
        · simpa [e] using hLi
  · rintro L a' w' lst hall ⟨rfl, k1, k2, k3, k4, _⟩ hup
    refine K a' lst k1 (fun t ht => ?_) k3 k4 hup
    obtain ⟨o, ho, hd⟩ := List.mem_filterMap.1 ht
    obtain ⟨k, hk⟩ := List.mem_iff_getElem?.1 ho
    exact k2 k o t hk (hall k (List.getElem?_eq_some_iff.1 hk).1) hd
  · exact ⟨rfl, fun _ _ => rfl, fun _ _ _ _ h _ => absurd h (by simp), rfl, rfl, hy⟩
theorem any_one [Tabs] {ops : Array Oper} {Q : Exit → Act → World → Prop} {A : List Nat} (hA : ancOk A ops.toList = true) {pre rest : List Oper} {o : Oper} (hs : ops.toList = pre ++ ([o] ++ rest)) (hb : barAt A (pre.length + 1) = true) {a : Act} {K : Act → World → Prop}
    (h : if Region.wanted o (yielded ops a.tmps) then o.wp P a w K Q else K (a.put o.dst undef) w) (hK : ∀ a' w' listed, K a' w' → UpTo ops.size (pre.length + 1) listed → wpAny P .any ops Q rest.length listed a' w')
    {listed : Array Bool} (hl : UpTo ops.size pre.length listed) : wpAny P .any ops Q (1 + rest.length) listed a w := by
  refine any_walk (g := [o]) hA hs hb (fun L a' w' => (L 0 = false ∧ a' = a ∧ w' = w) ∨ (L 0 = true ∧ K a' w')) ?_ ?_ (.inl ⟨rfl, rfl, rfl⟩) hl
  · rintro L L' k o' a' w' next hgo hLk hL' _ _ hI hnext
    have hk : k = 0 := by
      have := (List.getElem?_eq_some_iff.1 hgo).1
      simpa using this
    subst hk
    simp only [List.getElem?_cons_zero, Option.some.injEq] at hgo
    subst hgo
    rcases hI with ⟨_, rfl, rfl⟩ | ⟨h1, _⟩
    · have h1 : L' 0 = true := by rw [hL']; simp
      split
      · rename_i hw
        rw [if_pos hw] at h
        exact Oper.wp_mono (fun a2 w2 h2 => hnext a2 w2 (.inr ⟨h1, h2⟩)) h
      · rename_i hw
        rw [if_neg hw] at h
        exact hnext _ _ (.inr ⟨h1, h⟩)
    · rw [hLk] at h1; cases h1
  · rintro L a' w' lst hall hI hup
    rcases hI with ⟨h1, _⟩ | ⟨_, h2⟩
    · rw [hall 0 (by simp)] at h1; cases h1
    · exact hK a' w' lst h2 hup
end
end Go.Ab
namespace Go.Ab
open Go Go.RowKit
section
variable {P : Program} {E : Env} {S : Blk} {w w0 : World} {m : OMap} {B : Nat} {M0 : Blk}
structure Runner [Tabs] (P : Program) (E : Env) (ops : Array Oper) (Q : Exit → Act → World → Prop) (segs : List (List Oper)) (W : List (List Oper) → Act → World → Prop) : Prop where
  one : ∀ (o : Oper) (rest pre : List (List Oper)) (a : Act) (w : World), pre ++ [o] :: rest = segs → (if Region.wanted o (yielded ops a.tmps) then o.wp P a w (W rest) Q else W rest (a.put o.dst undef) w) → W ([o] :: rest) a w
  many : ∀ (g : List Oper) (rest pre : List (List Oper)), pre ++ g :: rest = segs → g.length ≠ 1 → ∀ {w0 w : World} {B : Nat} {M0 S : Blk} {m : OMap} {s : AS} {a : Act} {R' : Type} {k : AS → Option R'} {r : R'}, B ≤ w0.heap.size → Rel w0 B M0 S m s a w →
    (∀ g', segGuard g = some g' → GuardOn ops a g' (dstsL g)) → runMany E g s k = some r → (∀ s' a' w' S' m', k s' = some r → Shift w0 B M0 S m s a w (dstsL g) s' a' w' S' m' → W rest a' w') → W (g :: rest) a w
  skip : ∀ (g : List Oper) (rest pre : List (List Oper)) (a : Act) (w : World) (g' : Nat × Bool), pre ++ g :: rest = segs → g.length ≠ 1 → segGuard g = some g' → yielded ops a.tmps g'.1 ≠ some g'.2 →
    (∀ a', (∀ t, t ∉ dstsL g → a'.tmps.getD t undef = a.tmps.getD t undef) → (∀ t, t ∈ dstsL g → a'.tmps.getD t undef = undef) → a'.tmps.size = a.tmps.size → a'.defers = a.defers → W rest a' w) → W (g :: rest) a w
theorem dstsL_append (a b : List Oper) : dstsL (a ++ b) = dstsL a ++ dstsL b := by simp [dstsL]
theorem Moved.shift [Tabs] {s s' : AS} {a : Act} {w' : World} {S' : Blk} {m' : OMap} {v : AVal} {v' : Value} (M : Moved w0 B M0 S m s a w v s' v' w' S' m') (o : Oper) : Shift w0 B M0 S m s a w (dstsL [o]) (s'.put o.dst v) (a.put o.dst v') w' S' m' := by
  have ht : (s'.put o.dst v).t = s'.t := by cases o.dst <;> rfl
  have hh : (s'.put o.dst v).h = s'.h := by cases o.dst <;> rfl
  refine ⟨M.rel.put M.val o.dst, M.ext, by rw [ht]; exact M.t, fun e => by rw [hh]; exact M.wide (by rw [← ht]; exact e), fun t hn => ?_, ?_⟩
  · refine Act.eval_put (a := a) (dst := o.dst) (v := v') (x := .tmp t) fun d hd hx => hn ?_
    cases hx
    simp [dstsL, hd]
  · cases o.dst <;> simp [Act.put]
theorem Shift.trans [Tabs] {s s' s'' : AS} {a a' a'' : Act} {w' w'' : World} {S' S'' : Blk} {m' m'' : OMap} {d d' ds : List Nat} (x : Shift w0 B M0 S m s a w d s' a' w' S' m') (y : Shift w0 B M0 S' m' s' a' w' d' s'' a'' w'' S'' m'')
    (h1 : ∀ t, t ∈ d → t ∈ ds) (h2 : ∀ t, t ∈ d' → t ∈ ds) : Shift w0 B M0 S m s a w ds s'' a'' w'' S'' m'' := by
  refine ⟨y.rel, x.ext.trans y.ext, Nat.le_trans x.t y.t, fun e => ?_, fun t ht => (y.keep t fun h => ht (h2 t h)).trans (x.keep t fun h => ht (h1 t h)), y.len.trans x.len⟩
  have := x.t; have := y.t
  exact (x.wide (by omega)).trans (y.wide (by omega))
theorem Shift.refl [Tabs] {s : AS} {a : Act} (R : Rel w0 B M0 S m s a w) (ds : List Nat) : Shift w0 B M0 S m s a w ds s a w S m := ⟨R, Ext.refl B M0 S w, Nat.le_refl _, fun _ => Wider.refl _ _ _ _, fun _ _ => rfl, rfl⟩
theorem Runner.seg [Tabs] {ops : Array Oper} {Q : Exit → Act → World → Prop} {segs : List (List Oper)} {W : List (List Oper) → Act → World → Prop} (N : Runner P E ops Q segs W) (hE : Good P E) (hB0 : B ≤ w0.heap.size) {g : List Oper} {rest pre : List (List Oper)} (hp : pre ++ g :: rest = segs)
    {s : AS} {a : Act} (R : Rel w0 B M0 S m s a w) (hgd : ∀ g', segGuard g = some g' → GuardOn ops a g' (dstsL g)) {R' : Type} {k : AS → Option R'} {r : R'} (e : runSeg E g s k = some r)
    (K : ∀ s' a' w' S' m', k s' = some r → Shift w0 B M0 S m s a w (dstsL g) s' a' w' S' m' → W rest a' w') : W (g :: rest) a w := by
  by_cases h1 : g.length = 1
  · obtain ⟨o, rfl⟩ := List.length_eq_one_iff.1 h1
    refine N.one o rest pre a w hp ?_
    have hw : Region.wanted o (yielded ops a.tmps) = true := by
      cases hg : o.guard with
      | none => unfold Region.wanted; rw [hg]
      | some g' => exact (hgd g' hg).wanted hg
    rw [if_pos hw]
    have e' : aOp E s o.dst o.op (fun v s' => k (s'.put o.dst v)) = some r := e
    exact aOp_sound hE hB0 R e' fun v s' v' w' S' m' hk M => K _ _ _ _ _ hk (M.shift o)
  · refine N.many g rest pre hp h1 hB0 R hgd ?_ K
    unfold runSeg at e
    split at e
    · exact absurd rfl h1
    · exact e
theorem Runner.skips [Tabs] {ops : Array Oper} {Q : Exit → Act → World → Prop} {segs : List (List Oper)} {W : List (List Oper) → Act → World → Prop} (N : Runner P E ops Q segs W) {g : List Oper} {rest pre : List (List Oper)} (hp : pre ++ g :: rest = segs) {a : Act} {g' : Nat × Bool} (hg : segGuard g = some g') (hy : yielded ops a.tmps g'.1 ≠ some g'.2)
    (K : ∀ a', (∀ t, t ∉ dstsL g → a'.tmps.getD t undef = a.tmps.getD t undef) → (∀ t, t ∈ dstsL g → a'.tmps.getD t undef = undef) → a'.tmps.size = a.tmps.size → a'.defers = a.defers → W rest a' w) : W (g :: rest) a w := by
  by_cases h1 : g.length = 1
  · obtain ⟨o, rfl⟩ := List.length_eq_one_iff.1 h1
    refine N.one o rest pre a w hp ?_
    have hgu : o.guard = some g' := hg
    have hw : Region.wanted o (yielded ops a.tmps) = false := by
      unfold Region.wanted
      rw [hgu]
      simpa using hy
    rw [hw, if_neg (by simp)]
    have hput : ∀ t, (a.put o.dst undef).tmps.getD t undef = if o.dst = some t then undef else a.tmps.getD t undef := fun t => by
      cases hd : o.dst with
      | none => simp [Act.put]
      | some d =>
        simp only [Act.put, Array.getD_eq_getD_getElem?, Array.getElem?_setIfInBounds]
        by_cases e : d = t
        · subst e
          by_cases h : d < a.tmps.size <;> simp [h]
        · simp [e]
    refine K _ (fun t ht => ?_) (fun t ht => ?_) (by cases o.dst <;> simp [Act.put]) (by cases o.dst <;> rfl)
    · rw [hput, if_neg]
      intro hd
      exact ht (by simp [dstsL, hd])
    · rw [hput, if_pos]
      simpa [dstsL] using ht
  · exact N.skip g rest pre a w g' hp h1 hg hy K
theorem grpOk_append {ops : Array Oper} {g : Nat × Bool} : ∀ {l r : List Oper} {seen : List Nat}, grpOk ops g seen (l ++ r) = true → grpOk ops g seen l = true ∧ grpOk ops g ((dstsL l).reverse ++ seen) r = true
  | [], r, seen, h => ⟨rfl, by simpa [dstsL] using h⟩
  | q :: l, r, seen, h => by
    simp only [List.cons_append, grpOk, Bool.and_eq_true] at h ⊢
    have ih := grpOk_append h.2
    refine ⟨⟨h.1, ih.1⟩, ?_⟩
    have e : dstsL (q :: l) = (match q.dst with | some x => [x] | none => []) ++ dstsL l := by
      cases hq : q.dst <;> simp [dstsL, hq]
    rw [e]
    cases hq : q.dst with
    | none => rw [hq] at ih; simpa using ih.2
    | some x => rw [hq] at ih; simpa using ih.2
theorem skip_grp [Tabs] {ops : Array Oper} {Q : Exit → Act → World → Prop} {segs : List (List Oper)} {W : List (List Oper) → Act → World → Prop} (N : Runner P E ops Q segs W) {g0 : Nat × Bool} {rest : List (List Oper)} : ∀ (grp pre : List (List Oper)) (seen : List Nat) (a : Act), pre ++ (grp ++ rest) = segs →
    (∀ l ∈ grp, segGuard l ≠ none ∧ l ≠ []) → grpOk ops g0 seen grp.flatten = true → (∀ t ∈ seen, a.tmps.getD t undef = undef) → yielded ops a.tmps g0.1 ≠ some g0.2 → (∀ gd, (ops[g0.1]?).bind (·.dst) = some gd → gd ∉ dstsL grp.flatten) →
    (∀ a', (∀ t, t ∉ dstsL grp.flatten → a'.tmps.getD t undef = a.tmps.getD t undef) → a'.tmps.size = a.tmps.size → a'.defers = a.defers → W rest a' w) → W (grp ++ rest) a w
  | [], _, _, a, _, _, _, _, _, _, K => K a (fun _ _ => rfl) rfl rfl
  | l :: grp, pre, seen, a, hp, hgs, hok, hseen, hy, hgd, K => by
    obtain ⟨hl1, hl2⟩ := hgs l List.mem_cons_self
    simp only [List.flatten_cons] at hok
    have hok2 := grpOk_append hok
    obtain ⟨g', hg'⟩ : ∃ g', segGuard l = some g' := by
      cases h : segGuard l with
      | none => exact absurd h hl1
      | some g' => exact ⟨g', rfl⟩
    have hnot : yielded ops a.tmps g'.1 ≠ some g'.2 := by
      cases l with
      | nil => exact absurd rfl hl2
      | cons o l =>
        have ho : o.guard = some g' := hg'
        have := hok2.1
        simp only [grpOk, ho, Bool.and_eq_true, Bool.or_eq_true] at this
        rcases this.1 with h | h
        · rw [← gEq_spec h]; exact hy
        · split at h
          · rename_i x hx
            simp only [List.any_eq_true] at h
            obtain ⟨y, hy', he⟩ := h
            have := Nat.eq_of_beq_eq_true he
            subst this
            have hu := hseen _ hy'
            unfold yielded
            rw [hx]
            simp only [Option.bind_some]
            rw [Array.getD_eq_getD_getElem?] at hu
            cases ht : a.tmps[x]? with
            | none => simp
            | some v => rw [ht] at hu; simp at hu; rw [hu]; simp [undef]
          · cases h
    refine N.skips (pre := pre) hp hg' hnot fun a' k1 k2 k3 k4 => ?_
    have mem : ∀ t, t ∈ dstsL (l ++ grp.flatten) ↔ t ∈ dstsL l ∨ t ∈ dstsL grp.flatten := fun t => by simp [dstsL]
    refine skip_grp N grp (pre ++ [l]) ((dstsL l).reverse ++ seen) a' (by simpa using hp) (fun x hx => hgs x (List.mem_cons_of_mem _ hx)) hok2.2 (fun t ht => ?_) ?_ (fun gd h hm => hgd gd h (by simp only [List.flatten_cons]; exact (mem gd).2 (.inr hm))) (fun a2 j1 j2 j3 => K a2 (fun t ht => ?_) (j2.trans k3) (j3.trans k4))
    · by_cases hl : t ∈ dstsL l
      · exact k2 t hl
      · rw [k1 t hl]
        simp only [List.mem_append, List.mem_reverse] at ht
        exact hseen t (ht.resolve_left hl)
    · unfold yielded at hy ⊢
      cases hb : (ops[g0.1]?).bind (·.dst) with
      | none => simp
      | some gd =>
        rw [hb] at hy
        simp only [Option.bind_some] at hy ⊢
        have hn : gd ∉ dstsL l := fun h => hgd gd hb (by simp only [List.flatten_cons]; exact (mem gd).2 (.inl h))
        have hk := k1 gd hn
        rw [Array.getD_eq_getD_getElem?, Array.getD_eq_getD_getElem?] at hk
        intro h
        apply hy
        split at h
        · rename_i b hb2
          rw [hb2] at hk
          simp only [Option.getD_some] at hk
          cases ha : a.tmps[gd]? with
          | none => rw [ha] at hk; simp [undef] at hk
          | some v => rw [ha] at hk; simp at hk; rw [← hk]; exact h
        · cases h
    · simp only [List.flatten_cons, mem, not_or] at ht
      rw [j1 t ht.2]; exact k1 t ht.1
theorem GuardOn.next {ops : Array Oper} {a a' : Act} {g : Nat × Bool} {l l' d : List Nat} (h : GuardOn ops a g l) (hd : ∀ t, t ∈ d → t ∈ l) (hl : ∀ t, t ∈ l' → t ∈ l) (hk : ∀ t, t ∉ d → a'.tmps.getD t undef = a.tmps.getD t undef) : GuardOn ops a' g l' := by
  obtain ⟨gd, h1, h2, h3⟩ := h
  exact ⟨gd, h1, fun h => h2 (hl gd h), (hk gd fun h => h2 (hd gd h)).trans h3⟩
theorem gIn_spec [Tabs] {act : List (Nat × Bool)} {g : Nat × Bool} (h : gIn act (some g) = true) : g ∈ act := by
  unfold gIn at h
  rw [List.any_eq_true] at h
  obtain ⟨g', h1, h2⟩ := h
  rw [gEq_spec h2]; exact h1
theorem dropWhile_head {α : Type} {f : α → Bool} : ∀ {l : List α} {x : α} {r : List α}, l.dropWhile f = x :: r → f x = false
  | [], _, _, h => by cases h
  | y :: l, x, r, h => by
    rw [List.dropWhile_cons] at h
    split at h
    · exact dropWhile_head h
    · rename_i hf
      cases h
      simpa using hf
theorem takeWhile_all {α : Type} {f : α → Bool} : ∀ {l : List α} {x : α}, x ∈ l.takeWhile f → f x = true
  | y :: l, x, h => by
    rw [List.takeWhile_cons] at h
    split at h
    · rename_i hf
      rcases List.mem_cons.1 h with rfl | h
      · exact hf
      · exact takeWhile_all h
    · cases h
theorem undAll_spec [Tabs] : ∀ (l : List Oper) (s : AS), (undAll l s).h = s.h ∧ (undAll l s).t = s.t ∧ (undAll l s).ρ.length = s.ρ.length ∧ ∀ t, (t ∉ dstsL l → (undAll l s).ρ.getD t (.one .und) = s.ρ.getD t (.one .und)) ∧ ((undAll l s).ρ.getD t (.one .und) = .one .und ∨ (undAll l s).ρ.getD t (.one .und) = s.ρ.getD t (.one .und) ∧ t ∉ dstsL l)
  | [], s => ⟨rfl, rfl, rfl, fun t => ⟨fun _ => rfl, .inr ⟨rfl, by simp [dstsL]⟩⟩⟩
  | q :: l, s => by
    have ih := undAll_spec l (s.put q.dst (.one .und))
    have hh : (s.put q.dst (.one .und)).h = s.h := by cases q.dst <;> rfl
    have ht : (s.put q.dst (.one .und)).t = s.t := by cases q.dst <;> rfl
    have hl : (s.put q.dst (.one .und)).ρ.length = s.ρ.length := by cases q.dst <;> simp [AS.put]
    have mem : ∀ t, t ∈ dstsL (q :: l) ↔ q.dst = some t ∨ t ∈ dstsL l := fun t => by
      cases hq : q.dst <;> simp [dstsL, hq, eq_comm]
    refine ⟨ih.1.trans hh, ih.2.1.trans ht, ih.2.2.1.trans hl, fun t => ⟨fun hn => ?_, ?_⟩⟩
    · rw [mem, not_or] at hn
      have := (ih.2.2.2 t).1 hn.2
      rw [put_getD, if_neg hn.1] at this
      exact this
    · rcases (ih.2.2.2 t).2 with h | ⟨h, h2⟩
      · exact .inl h
      · rw [put_getD] at h
        by_cases hq : q.dst = some t
        · rw [if_pos hq] at h
          left
          have : (if t < s.ρ.length then AVal.one .und else .one .und) = .one .und := by split <;> rfl
          rw [this] at h
          exact h
        · rw [if_neg hq] at h
          exact .inr ⟨h, by rw [mem, not_or]; exact ⟨hq, h2⟩⟩
theorem Wider.self {h h' : HGet} {S S' : Blk} {w w' : World} {m m' : OMap} (W : Wider h h' S S' w w' m m') : Wider h h S S w w' m m := ⟨fun _ _ e => e, fun _ _ => rfl, fun _ e => e, W.size, W.stay, W.own⟩
theorem Mem.still [Tabs] {h : HGet} {w' : World} (M : Mem h S w m B M0) (W : Wider h h S S w w' m m) : Mem h S w' m B M0 :=
  ⟨fun id o e => by
    obtain ⟨c, h1, h2⟩ := M.obj id o e
    exact ⟨c, h1, h2.wider W M (W.own id c (heap_ne e) h1)⟩, M.dis, fun i c hi hc q hq => by
    have := M.apart i c hi hc q hq
    exact ⟨this.1, Nat.lt_of_lt_of_le this.2.1 W.size, this.2.2⟩, fun q hq => Nat.lt_of_lt_of_le (M.lt q hq) W.size⟩
theorem Rel.back [Tabs] {s : AS} {a a' : Act} {w' : World} (R : Rel w0 B M0 S m s a w) (W : Wider s.h.get s.h.get S S w w' m m) (hf : Frm w0 w' B M0) (l : List Oper) (hk : ∀ t, t ∉ dstsL l → a'.tmps.getD t undef = a.tmps.getD t undef) (hs : a'.tmps.size = a.tmps.size) (hd : a'.defers = []) : Rel w0 B M0 S m (undAll l s) a' w' := by
  have u := undAll_spec l s
  refine ⟨by rw [u.1]; exact R.mem.still W, hf, fun t => ?_, by rw [u.2.2.1, hs]; exact R.size, hd⟩
  rw [u.1]
  rcases (u.2.2.2 t).2 with h | ⟨h, h2⟩
  · rw [h]; exact trivial
  · rw [h, hk t h2]; exact (R.tmps t).wider W R.mem
theorem ev_bool [Tabs] {s : AS} {a : Act} (R : Rel w0 B M0 S m s a w) {x : Operand} {b : Bool} (e : s.ev x = .one (.pv .bool b)) : a.eval x = .bool b := by
  have := R.ev x
  rw [e] at this
  have h := this.2
  simp only [Rep, List.cons.injEq, and_true] at h
  exact h
theorem ev_bool? [Tabs] {s : AS} {a : Act} (R : Rel w0 B M0 S m s a w) {x : Operand} {b : Bool} (e : AVal.bool? (s.ev x) = some b) : a.eval x = .bool b := by
  refine ev_bool R ?_
  unfold AVal.bool? at e
  split at e
  · rename_i h; rw [h]; cases e; rfl
  · cases e
theorem run_pick {o : Oper} {c x y : Operand} {ρ : Operand → Value} {b : Bool} (ho : o.op = .pick c x y) (hc : ρ c = .bool b) (w : World) : (execOp ρ o).run P w = .ok (.value (bif b then ρ x else ρ y)) w := by
  obtain ⟨odst, op, oty, opos, oafter, oguard⟩ := o
  simp only at ho
  subst ho
  cases b <;> simp [execOp, hc, asBool]
theorem runOps_sound [Tabs] {ops : Array Oper} {Q : Exit → Act → World → Prop} {segs : List (List Oper)} {W : List (List Oper) → Act → World → Prop} (N : Runner P E ops Q segs W) (hE : Good P E) (hB0 : B ≤ w0.heap.size) : ∀ (n : Nat) (act : List (Nat × Bool)) (l tail pre : List (List Oper)) {s : AS} {a : Act} {w : World} {S : Blk} {m : OMap} {R' : Type} {k : AS → Option R'} {r : R'},
    pre ++ (l ++ tail) = segs → Rel w0 B M0 S m s a w → (∀ g ∈ act, GuardOn ops a g (dstsL l.flatten)) → runOps E ops n act l s k = some r → (∀ s' a' w' S' m', k s' = some r → Shift w0 B M0 S m s a w (dstsL l.flatten) s' a' w' S' m' → W tail a' w') → W (l ++ tail) a w
  | 0, _, _, _, _, _, _, _, _, _, _, _, _, _, _, _, e, _ => by cases e
  | n + 1, act, [], tail, pre, s, a, w, S, m, _, k, r, hp, R, ha, e, K => K s a w S m e (Shift.refl R _)
  | n + 1, act, g0 :: rest, tail, pre, s, a, w, S, m, _, k, r, hp, R, ha, e, K => by
    have memL : ∀ t, t ∈ dstsL (g0 :: rest).flatten ↔ t ∈ dstsL g0 ∨ t ∈ dstsL rest.flatten := fun t => by simp [dstsL]
    have go : (∀ g', segGuard g0 = some g' → g' ∈ act) → (runSeg E g0 s fun s' => runOps E ops n act rest s' k) = some r → W (g0 :: rest ++ tail) a w := fun hg e => by
      refine N.seg hE hB0 (pre := pre) (by simpa using hp) R (fun g' h => (ha g' (hg g' h)).next (d := []) (by simp) (fun t ht => (memL t).2 (.inl ht)) fun _ _ => rfl) e fun s' a' w' S' m' hk H => ?_
      refine runOps_sound N hE hB0 n act rest tail (pre ++ [g0]) (by simpa using hp) H.rel (fun g' h => (ha g' h).next (fun t ht => (memL t).2 (.inl ht)) (fun t ht => (memL t).2 (.inr ht)) H.keep) hk fun s2 a2 w2 S2 m2 hk2 H2 => ?_
      exact K s2 a2 w2 S2 m2 hk2 (H.trans H2 (fun t ht => (memL t).2 (.inl ht)) fun t ht => (memL t).2 (.inr ht))
    simp only [runOps] at e
    split at e
    · rename_i hg
      exact go (fun g' h => by rw [hg] at h; cases h) e
    · rename_i g hg
      cases hin : gIn act (some g) with
      | true =>
        rw [hin] at e
        exact go (fun g' h => by rw [hg] at h; cases h; exact gIn_spec hin) e
      | false =>
        rw [hin] at e
        simp only [cond_false] at e
        split at e
        · cases e
        · rename_i gd hgd
          split at e
          · rename_i x hx
            split at e
            · rename_i p after hdrop
              split at e
              · rename_i c y z hpick
                generalize hgrp : List.takeWhile (fun p => !gIn act (segGuard p)) (g0 :: rest) = grp at e
                have hl : g0 :: rest = grp ++ [p] :: after := by rw [← hgrp, ← hdrop, List.takeWhile_append_dropWhile]
                cases hchk : (!(Nat.beq c gd) || grp.flatten.any (dstIs gd) || !grpOk ops g [] grp.flatten) with
                | true => rw [hchk] at e; cases e
                | false =>
                rw [hchk] at e
                simp only [cond_false] at e
                simp only [Bool.or_eq_false_iff, Bool.not_eq_false'] at hchk
                obtain ⟨⟨hc, hnw⟩, hgok⟩ := hchk
                have hc := Nat.eq_of_beq_eq_true hc
                subst hc
                have hgdn : c ∉ dstsL grp.flatten := fun hm => by
                  obtain ⟨q, hq, hqd⟩ := List.mem_filterMap.1 hm
                  rw [List.any_eq_false] at hnw
                  have := hnw q hq
                  simp [dstIs, hqd] at this
                have hxa : a.tmps.getD c undef = .bool x := ev_bool R (x := .tmp c) hx
                have hmem : ∀ t, t ∈ dstsL (g0 :: rest).flatten ↔ t ∈ dstsL grp.flatten ∨ t ∈ dstsL [p] ∨ t ∈ dstsL after.flatten := fun t => by rw [hl, List.flatten_append, List.flatten_cons, dstsL_append, dstsL_append]; simp only [List.mem_append]
                have hpg : ∀ g', p.guard = some g' → g' ∈ act := fun g' h => by
                  have := dropWhile_head hdrop
                  simp only [segGuard, h, Bool.not_eq_false'] at this
                  exact gIn_spec this
                have pickF : ∀ (b : Bool) (s2 : AS) (a2 : Act) (w2 : World) (S2 : Blk) (m2 : OMap), Shift w0 B M0 S m s a w (dstsL grp.flatten) s2 a2 w2 S2 m2 → (bif x then a2.eval y else a2.eval z) = .bool b → runOps E ops n act after (s2.put p.dst (.one (.pv .bool b))) k = some r → W ([p] :: (after ++ tail)) a2 w2 := fun b s2 a2 w2 S2 m2 H hv e2 => by
                  refine N.one p (after ++ tail) (pre ++ grp) a2 w2 (by rw [← hp, hl]; simp) ?_
                  have hw : Region.wanted p (yielded ops a2.tmps) = true := by
                    cases h : p.guard with
                    | none => unfold Region.wanted; rw [h]
                    | some g' => exact ((ha g' (hpg g' h)).next (l' := []) (fun t ht => (hmem t).2 (.inl ht)) (by simp) H.keep).wanted h
                  rw [if_pos hw]
                  have hca : a2.eval (.tmp c) = .bool x := (H.keep c hgdn).trans hxa
                  refine wp_value (run_pick hpick hca w2) ?_
                  rw [hv]
                  have R3 := H.rel.put (v := .one (.pv .bool b)) (v' := .bool b) (pv_bool b) p.dst
                  have hh : (s2.put p.dst (.one (.pv .bool b))).h = s2.h := by cases p.dst <;> rfl
                  have htt : (s2.put p.dst (.one (.pv .bool b))).t = s2.t := by cases p.dst <;> rfl
                  have H2 : Shift w0 B M0 S m s a w (dstsL grp.flatten ++ dstsL [p]) (s2.put p.dst (.one (.pv .bool b))) (a2.put p.dst (.bool b)) w2 S2 m2 :=
                    ⟨R3, H.ext, by rw [htt]; exact H.t, fun et => by rw [hh]; rw [htt] at et; exact H.wide et, fun t ht => by
                      simp only [List.mem_append, not_or] at ht
                      rw [← H.keep t ht.1]
                      refine Act.eval_put (a := a2) (dst := p.dst) (v := .bool b) (x := .tmp t) fun d hd hx => ht.2 ?_
                      cases hx
                      simp [dstsL, hd], (by cases p.dst <;> simp [Act.put] : (a2.put p.dst (.bool b)).tmps.size = a2.tmps.size).trans H.len⟩
                  refine runOps_sound N hE hB0 n act after tail (pre ++ grp ++ [[p]]) (by rw [← hp, hl]; simp) R3 (fun g' h => (ha g' h).next (d := dstsL grp.flatten ++ dstsL [p]) (fun t ht => (hmem t).2 ?_) (fun t ht => (hmem t).2 (.inr (.inr ht))) H2.keep) e2 fun s3 a3 w3 S3 m3 hk3 H3 => ?_
                  · simp only [List.mem_append] at ht
                    exact ht.imp id .inl
                  · refine K s3 a3 w3 S3 m3 hk3 (H2.trans H3 (fun t ht => (hmem t).2 ?_) fun t ht => (hmem t).2 (.inr (.inr ht)))
                    simp only [List.mem_append] at ht
                    exact ht.imp id .inl
                have hsplit : g0 :: rest ++ tail = grp ++ ([p] :: (after ++ tail)) := by rw [hl]; simp
                rw [hsplit]
                have hin' : ∀ q ∈ grp, segGuard q ≠ none ∧ q ≠ [] := fun q hq => by
                  rw [← hgrp] at hq
                  have := takeWhile_all hq
                  have hn : segGuard q ≠ none := fun h => by rw [h] at this; simp [gIn] at this
                  exact ⟨hn, fun h => by rw [h] at hn; exact hn rfl⟩
                cases hfk : E.forks.any (Nat.beq c)
                case true =>
                  rw [hfk] at e
                  simp only [cond_true] at e
                  have run : x = g.2 → runOps E ops n (g :: act) grp s (fun s' => (AVal.bool? (s'.ev (bif g.2 then y else z))).bind fun r => runOps E ops n act after (s'.put p.dst (.one (.pv .bool r))) k) = some r → W (grp ++ ([p] :: (after ++ tail))) a w := fun hxg e1 => by
                    refine runOps_sound N hE hB0 n (g :: act) grp ([p] :: (after ++ tail)) pre (by rw [← hp, ← hsplit]) R (fun g' h => ?_) e1 fun s2 a2 w2 S2 m2 hk2 H2 => ?_
                    · rcases List.mem_cons.1 h with rfl | h
                      · exact ⟨c, hgd, hgdn, by rw [hxa, hxg]⟩
                      · exact (ha g' h).next (d := []) (by simp) (fun t ht => (hmem t).2 (.inl ht)) fun _ _ => rfl
                    · obtain ⟨b, hv, hk2⟩ := Option.bind_eq_some_iff.1 hk2
                      refine pickF b s2 a2 w2 S2 m2 H2 ?_ hk2
                      · skip
                        rw [← hxg] at hv
                        cases x with
                        | true => exact ev_bool? H2.rel hv
                        | false => exact ev_bool? H2.rel hv
                  have skip : x ≠ g.2 → ((AVal.bool? ((undAll grp.flatten s).ev (bif g.2 then z else y))).bind fun r => runOps E ops n act after ((undAll grp.flatten s).put p.dst (.one (.pv .bool r))) k) = some r → W (grp ++ ([p] :: (after ++ tail))) a w := fun hxg hk2 => by
                    obtain ⟨b, hv, hk2⟩ := Option.bind_eq_some_iff.1 hk2
                    have hy : yielded ops a.tmps g.1 ≠ some g.2 := by
                      unfold yielded
                      rw [hgd]
                      simp only [Option.bind_some, getD_bool hxa]
                      exact fun h => hxg (Option.some.inj h)
                    refine skip_grp N grp pre [] a (by rw [← hp, ← hsplit]) hin' hgok (by simp) hy (fun gd h => by rw [hgd] at h; cases h; exact hgdn) fun a2 k1 k2 k3 => ?_
                    have Wd : Wider s.h.get s.h.get S S w w m m := Wider.refl _ _ _ _
                    have u := undAll_spec grp.flatten s
                    have R2 := R.back Wd R.frm grp.flatten k1 k2 (k3.trans R.defers)
                    refine pickF b (undAll grp.flatten s) a2 w S m ⟨R2, Ext.refl B M0 S w, by rw [u.2.1]; exact Nat.le_refl _, fun _ => by rw [u.1]; exact Wd, k1, k2⟩ ?_ hk2
                    cases x with
                    | true =>
                      have : g.2 = false := by cases h : g.2 with | false => rfl | true => exact absurd h.symm hxg
                      rw [this] at hv
                      exact ev_bool? R2 hv
                    | false =>
                      have : g.2 = true := by cases h : g.2 with | true => rfl | false => exact absurd h.symm hxg
                      rw [this] at hv
                      exact ev_bool? R2 hv
                  cases x with
                  | true =>
                    cases h : g.2 with
                    | true => simp only [h, cond_true] at e; exact run h.symm (by simpa [h] using e)
                    | false => simp only [h, cond_true, cond_false] at e; exact skip (by simp [h]) (by simpa [h] using e)
                  | false =>
                    cases h : g.2 with
                    | true => simp only [h, cond_true, cond_false] at e; exact skip (by simp [h]) (by simpa [h] using e)
                    | false => simp only [h, cond_false] at e; exact run h.symm (by simpa [h] using e)
                case false =>
                  rw [hfk] at e
                  simp only [cond_false, Option.bind_eq_some_iff] at e
                  obtain ⟨b, e1, e2⟩ := e
                  have pick : ∀ (s2 : AS) (a2 : Act) (w2 : World) (S2 : Blk) (m2 : OMap), Shift w0 B M0 S m s a w (dstsL grp.flatten) s2 a2 w2 S2 m2 → s2.t = s.t → Rel w0 B M0 S m (undAll grp.flatten s) a2 w2 → Wider s.h.get s.h.get S S w w2 m m → (bif x then a2.eval y else a2.eval z) = .bool b → W ([p] :: (after ++ tail)) a2 w2 := fun s2 a2 w2 S2 m2 H ht R2 Wd hv => by
                    have u := undAll_spec grp.flatten s
                    exact pickF b (undAll grp.flatten s) a2 w2 S m ⟨R2, Wd.ext fun _ h => .inl h, by rw [u.2.1]; exact Nat.le_refl _, fun _ => by rw [u.1]; exact Wd, H.keep, H.len⟩ hv e2
                  have run : x = g.2 → runOps E ops n (g :: act) grp s (fun s' => bif !(Nat.beq s'.t s.t) then none else AVal.bool? (s'.ev (bif g.2 then y else z))) = some b → W (grp ++ ([p] :: (after ++ tail))) a w := fun hxg e1 => by
                    refine runOps_sound N hE hB0 n (g :: act) grp ([p] :: (after ++ tail)) pre (by rw [← hp, ← hsplit]) R (fun g' h => ?_) e1 fun s2 a2 w2 S2 m2 hk2 H2 => ?_
                    · rcases List.mem_cons.1 h with rfl | h
                      · exact ⟨c, hgd, hgdn, by rw [hxa, hxg]⟩
                      · exact (ha g' h).next (d := []) (by simp) (fun t ht => (hmem t).2 (.inl ht)) fun _ _ => rfl
                    · cases ht : Nat.beq s2.t s.t with
                      | false => rw [ht] at hk2; cases hk2
                      | true =>
                        rw [ht] at hk2
                        have ht := Nat.eq_of_beq_eq_true ht
                        have Wd := (H2.wide ht).self
                        refine pick s2 a2 w2 S2 m2 H2 ht (R.back Wd H2.rel.frm grp.flatten H2.keep H2.len H2.rel.defers) Wd ?_
                        have hv : AVal.bool? (s2.ev (bif g.2 then y else z)) = some b := hk2
                        rw [← hxg] at hv
                        cases x with
                        | true => exact ev_bool? H2.rel hv
                        | false => exact ev_bool? H2.rel hv
                  have skip : x ≠ g.2 → AVal.bool? ((undAll grp.flatten s).ev (bif g.2 then z else y)) = some b → W (grp ++ ([p] :: (after ++ tail))) a w := fun hxg hv => by
                    have hy : yielded ops a.tmps g.1 ≠ some g.2 := by
                      unfold yielded
                      rw [hgd]
                      simp only [Option.bind_some, getD_bool hxa]
                      exact fun h => hxg (Option.some.inj h)
                    refine skip_grp N grp pre [] a (by rw [← hp, ← hsplit]) hin' hgok (by simp) hy (fun gd h => by rw [hgd] at h; cases h; exact hgdn) fun a2 k1 k2 k3 => ?_
                    have Wd : Wider s.h.get s.h.get S S w w m m := Wider.refl _ _ _ _
                    have u := undAll_spec grp.flatten s
                    have R2 := R.back Wd R.frm grp.flatten k1 k2 (k3.trans R.defers)
                    refine pick (undAll grp.flatten s) a2 w S m ⟨R2, Ext.refl B M0 S w, by rw [u.2.1]; exact Nat.le_refl _, fun _ => by rw [u.1]; exact Wd, k1, k2⟩ u.2.1 R2 Wd ?_
                    cases x with
                    | true =>
                      have : g.2 = false := by cases h : g.2 with | false => rfl | true => exact absurd h.symm hxg
                      rw [this] at hv
                      exact ev_bool? R2 hv
                    | false =>
                      have : g.2 = true := by cases h : g.2 with | true => rfl | false => exact absurd h.symm hxg
                      rw [this] at hv
                      exact ev_bool? R2 hv
                  cases x with
                  | true =>
                    cases h : g.2 with
                    | true => simp only [h, cond_true] at e1; exact run h.symm (by simpa [h] using e1)
                    | false => simp only [h, cond_true, cond_false] at e1; exact skip (by simp [h]) (by simpa [h] using e1)
                  | false =>
                    cases h : g.2 with
                    | true => simp only [h, cond_true, cond_false] at e1; exact skip (by simp [h]) (by simpa [h] using e1)
                    | false => simp only [h, cond_false] at e1; exact run h.symm (by simpa [h] using e1)
              · cases e
            · cases e
          · cases e
end
end Go.Ab
