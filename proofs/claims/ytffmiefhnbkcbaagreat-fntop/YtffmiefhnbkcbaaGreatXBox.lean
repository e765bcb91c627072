/-
  A call that is handed a pointer to a variable of ours ahead.
-/
import Derived.Test.YtffmiefhnbkcbaaGreatXStep
namespace Go.Ab
open Go Go.RowKit
section
variable {P : Program} {E : Env} {h : HGet} {S S' : Blk} {w w' w0 : World} {m m' : OMap} {B : Nat} {M0 : Blk}
theorem CellRel.moreS [Tabs] (hs : ∀ q, S q → S' q) : {c : ACell} → {v : Value} → CellRel h S w m c v → CellRel h S' w m c v
  | .und, _, _ => trivial
  | .nils, _, r => r
  | .pv _ _, _, r => ⟨r.1, r.2.mono hs (fun _ _ => rfl) (Nat.le_refl _)⟩
  | .pc _ _, _, r => PcRel.mono hs (fun _ _ => rfl) (Nat.le_refl _) r
  | .os _, _, r => r
  | .op _ _, _, r => r
  | .oe _ _ _, _, r => r
  | .sb _ _ _ _ _, _, r => r
  | .vw _ _, _, r => r
  | .cl _ _, _, ⟨cs, e, k⟩ => ⟨cs, e, k.mono hs (fun _ _ => rfl) (Nat.le_refl _)⟩
def addM (os : AHeap) (c m : OMap) : OMap := fun id => match AHeap.get os id with | some _ => c id | none => m id
theorem Mem.add [Tabs] (M : Mem h S w m B M0) {os : AHeap} {c : OMap} {FR : Blk} {lo hi : Nat} (no : NewObjs S w os c FR lo hi) (hnew : ∀ id, AHeap.get os id ≠ none → h id = none)
    (hFR : ∀ q, FR q → ¬ S q ∧ q < w.heap.size ∧ (B ≤ q ∨ M0 q)) (hdis : ∀ j d, h j ≠ none → m j = some d → ∀ q, FR q → d.F q → False) :
    Mem (hplus os h) S w (addM os c m) B M0 ∧ Wider h (hplus os h) S S w w m (addM os c m) := by
  have W : Wider h (hplus os h) S S w w m (addM os c m) := by
    have nn : ∀ id, h id ≠ none → AHeap.get os id = none := fun id hid => by
      cases e : AHeap.get os id with
      | none => rfl
      | some o => exact absurd (hnew id (by rw [e]; simp)) hid
    refine ⟨fun id o e => ?_, fun id e => ?_, fun _ e => e, Nat.le_refl _, fun _ _ => rfl, fun _ _ _ _ _ _ => rfl⟩
    · simp [hplus, nn id (heap_ne e), e]
    · simp only [addM, nn id e]
  have old : ∀ id, hplus os h id ≠ none → AHeap.get os id = none → h id ≠ none := fun id e e' => by simpa [hplus, e'] using e
  have newF : ∀ {id : Nat} {x : AObj} {oc : OC}, AHeap.get os id = some x → addM os c m id = some oc → c id = some oc ∧ ∀ q, oc.F q → FR q := fun {id x oc} e hc => by
    simp only [addM, e] at hc
    obtain ⟨oc', _, t, xs, h1, _, _, _, h5⟩ := no.obj id x e
    obtain rfl : oc' = oc := Option.some.inj (h1.symm.trans hc)
    exact ⟨hc, h5⟩
  have oldM : ∀ {id : Nat} {oc : OC}, AHeap.get os id = none → addM os c m id = some oc → m id = some oc := fun {id oc} e hc => by
    simp only [addM, e] at hc; exact hc
  refine ⟨⟨fun id o e => ?_, fun i j a b hij hi hj ha hb q hq hq' => ?_, fun i a hi ha q hq => ?_, M.lt⟩, W⟩
  · cases e' : AHeap.get os id with
    | some x =>
      have : x = o := by simpa [hplus, e'] using e
      subst this
      obtain ⟨oc, dd, t, xs, h1, h2, h3, h4, h5⟩ := no.obj id x e'
      subst h2
      exact ⟨oc, by simp only [addM, e']; exact h1, h3, h4⟩
    | none =>
      have e2 : h id = some o := by simpa [hplus, e'] using e
      obtain ⟨c1, h1, h2⟩ := M.obj id o e2
      exact ⟨c1, by simp only [addM, e']; exact h1, h2.wider W M fun _ _ => rfl⟩
  · cases ei : AHeap.get os i with
    | some x =>
      obtain ⟨a1, a2⟩ := newF ei ha
      cases ej : AHeap.get os j with
      | some y =>
        obtain ⟨b1, b2⟩ := newF ej hb
        exact no.dis i j a b hij (by rw [ei]; simp) (by rw [ej]; simp) a1 b1 q hq hq'
      | none => exact hdis j b (old j hj ej) (oldM ej hb) q (a2 q hq) hq'
    | none =>
      have hi' := old i hi ei
      have ha' := oldM ei ha
      cases ej : AHeap.get os j with
      | some y =>
        obtain ⟨b1, b2⟩ := newF ej hb
        exact hdis i a hi' ha' q (b2 q hq') hq
      | none => exact M.dis i j a b hij hi' (old j hj ej) ha' (oldM ej hb) q hq hq'
  · cases ei : AHeap.get os i with
    | some x => exact hFR q ((newF ei ha).2 q hq)
    | none => exact M.apart i a (old i hi ei) (oldM ei ha) q hq
theorem kills_box [Tabs] {id : Nat} : ∀ (l : List (Nat × AObj)) (s : AS) {cs : List ACell}, s.h.get id = some (.box cs) → (∀ p ∈ l, p.1 ≠ id) → ∃ cs', (l.foldl (fun s p => s.kill p.1) s).h.get id = some (.box cs')
  | [], s, cs, e, _ => ⟨cs, e⟩
  | p :: l, s, cs, e, hn => by
    refine kills_box l (s.kill p.1) (cs := cs.map (ACell.kill p.1)) ?_ (fun q hq => hn q (List.mem_cons_of_mem _ hq))
    rw [get_kill, if_neg (fun e => hn p List.mem_cons_self e.symm), e]
    rfl
theorem fresh_box [Tabs] {s : AS} {d id : Nat} {cs : List ACell} (e : s.h.get id = some (.box cs)) (hr : (Nat.ble (d * 16) id && Nat.ble id (d * 16 + 15)) = false) : ∃ cs', (s.fresh d).h.get id = some (.box cs') := by
  refine kills_box _ s e fun p hp he => ?_
  have := (List.mem_filter.1 hp).2
  rw [he] at this
  rw [this] at hr
  cases hr
theorem ids_nil {l : List Nat} (h : l.isEmpty = true) : l = [] := by simpa using h
theorem aCallB_soundX [Tabs] (hG : ∀ p ∈ E.G, Sound P p.1 p.2 ∧ FnOk P p.1) (hB0 : B ≤ w0.heap.size) {s0 : AS} {a : Act} (R0 : Rel w0 B M0 S m s0 a w) {o : Oper} {c : Call} (ho : o.op = .call c) {f : Operand} (hc : c.callee = .value f) {g : FuncId} {C : FnSpec} {caps : List Cap} (hf : s0.ev f = .one (.cl g caps))
    (hl : (g, C) ∈ E.G) (hv : boxShape C.ps = true) {d : Nat} {R' : Type} {k : AVal → AS → Option R'} {r : R'} (e : aCallB s0 d C c.args.toList caps k = some r)
    {next : Act → World → Prop} {Q : Exit → Act → World → Prop} (K : ∀ v s' v' w' S' m', k v s' = some r → Moved w0 B M0 S m s0 a w v s' v' w' S' m' →
      (s'.t = s0.t + 1 → s'.ρ = s0.ρ ∧ (∀ c u, CellRel s0.h.get S w m c u → CellRel s'.h.get S' w' m' c u) ∧ ∃ id, boxId (callVals s0.ev c.args.toList caps) = some id ∧ ∀ j o, j ≠ id → s0.h.get j = some o → s'.h.get j = some o) → next (a.put o.dst v') w') : o.wp P a w next Q := by
  obtain ⟨hS, hfn⟩ := hG _ hl
  have hB : B ≤ w.heap.size := Nat.le_trans hB0 R0.frm.size
  obtain ⟨ps, rs, fn⟩ := C
  cases ps with
  | nil => cases hv
  | cons p ps =>
  cases p with
  | mbox t =>
    have hav : allVal ps = true := hv
    simp only [aCallB] at e
    obtain ⟨S1, hS1, nS1, R⟩ := Rel.frzAll (argOs (.mbox t :: ps) (callVals s0.ev c.args.toList caps)) R0
    have ts := frzAll_t (argOs (.mbox t :: ps) (callVals s0.ev c.args.toList caps)) s0
    generalize s0.frzAll (argOs (.mbox t :: ps) (callVals s0.ev c.args.toList caps)) = s at e R ts
    have hav0 : s = s0 → callVals s.ev c.args.toList caps = callVals s0.ev c.args.toList caps := fun h => by rw [h]
    have hargs : VRel s0.h.get S w m (s0.ev f) (a.eval f) := R0.ev f
    rw [hf] at hargs
    obtain ⟨ccs, hval, hcaps⟩ := hargs
    have rel : ∀ (i : Nat) (p : AVal) (u : Value), (callVals s.ev c.args.toList caps)[i]? = some p → (c.args.toList.map a.eval ++ ccs.toList)[i]? = some u → VRel s.h.get S1 w m p u := callVals_rel (fun q _ => R.ev q) (hcaps.mono hS1 (fun _ _ => rfl) (Nat.le_refl _))
    have hlen : (callVals s.ev c.args.toList caps).length = (c.args.toList.map a.eval ++ ccs.toList).length := callVals_len hcaps
    have hrun := run_call_fn (ty := o.type) (ρ := a.eval) hfn hc hval w
    have hm : (c.args.toList.map a.eval ++ ccs.toList).toArray = c.args.map a.eval ++ ccs := by
      rw [← Array.toList_map, ← Array.toList_append, Array.toArray_toList]
    have hex : (execOp a.eval o).run P w = .ok (.enter g (c.args.map a.eval ++ ccs)) w := by
      rw [← hrun]
      obtain ⟨odst, op, oty, opos, oafter, oguard⟩ := o
      simp only at ho
      subst ho
      rfl
    generalize callVals s.ev c.args.toList caps = av at e rel hlen hav0
    generalize c.args.toList.map a.eval ++ ccs.toList = us at rel hlen hm
    cases hle : (argIds (.mbox t :: ps) av).isEmpty with
    | false => rw [hle] at e; cases e
    | true =>
    rw [hle] at e
    simp only [Bool.not_true, cond_false] at e
    have hids := ids_nil hle
    cases hid : boxId av with
    | none => rw [hid] at e; cases e
    | some id =>
    rw [hid] at e
    simp only at e
    obtain ⟨vs, rfl⟩ : ∃ vs, av = .one (.op id 0) :: vs := by
      unfold boxId at hid
      split at hid
      · cases hid; exact ⟨_, rfl⟩
      · cases hid
    cases us with
    | nil => cases hlen
    | cons u0 us =>
    cases hrg : (Nat.ble (d * 16) id && Nat.ble id (d * 16 + 15)) with
    | true => rw [hrg] at e; cases e
    | false =>
    rw [hrg] at e
    simp only [cond_false] at e
    cases hx : takeArgs s.h (.mbox t :: ps) (.one (.op id 0) :: vs) with
    | none => rw [hx] at e; cases e
    | some x =>
    rw [hx] at e
    simp only [Option.bind_eq_some_iff] at e
    obtain ⟨y, hy, e⟩ := e
    unfold boxGo at e
    simp only [Option.bind_eq_some_iff] at e
    obtain ⟨z, hz, e⟩ := e
    cases hn : Nat.ble (putRes (d * 16) rs z).2.2 (d * 16 + 16) with
    | false => simp only [hn, cond_false] at e; cases e
    | true =>
    simp only [hn, cond_true] at e
    simp only [takeArgs] at hx
    cases hb0 : s.h.get id with
    | none => rw [hb0] at hx; cases hx
    | some ob =>
    rw [hb0] at hx
    cases ob with
    | arr _ _ _ => cases hx
    | src _ _ _ => cases hx
    | box cs =>
    simp only at hx
    cases hcs : (Nat.beq cs.length t.size && (idsOf cs).isEmpty) with
    | false => rw [hcs] at hx; cases hx
    | true =>
    rw [hcs] at hx
    simp only [cond_true, Option.bind_eq_some_iff, Option.some.injEq] at hx
    obtain ⟨x0, hx0, xr, hxr, rfl⟩ := hx
    simp only [Bool.and_eq_true] at hcs
    have hcl := Nat.eq_of_beq_eq_true hcs.1
    have hci := ids_nil hcs.2
    obtain ⟨_, oc, b, hoc, hov, hu0⟩ := (rel 0 _ u0 rfl rfl : CellRel s.h.get S1 w m (.op id 0) u0)
    obtain ⟨oc', hoc', b', cur, te, k1, k2, k3, k4⟩ := R.mem.obj id _ hb0
    obtain rfl : oc' = oc := Option.some.inj (hoc'.symm.trans hoc)
    rw [k1] at hov
    simp only [Value.pointer.injEq, Option.some.injEq, Addr.mk.injEq] at hov
    obtain ⟨rfl, _⟩ := hov
    have hnoids : ∀ {S : Blk} {l : List Nat}, l = [] → ∀ q, Plus m s.h.get S l q → S q := fun {S l} hl q hq => by
      rcases hq with hq | ⟨i, hi, _⟩
      · exact hq
      · rw [hl] at hi; cases hi
    have hrep : Rep S1 w t cur.toList x0 := (gather_rep (get := fun _ => none) R.mem (fun id o e => by cases e) hx0 k3 hcl).mono (hnoids hci) (fun _ _ => rfl) (Nat.le_refl _)
    have hids' : argIds ps vs = [] := hids
    have hrest : ArgsRel S1 w ps us xr (fun _ => False) := ArgsRel.mono (hnoids hids') hav (args_val R.mem hav (fun j o e hne => by
      rw [get_del] at e
      split at e
      · cases e
      · exact e) hxr (by simpa using hlen) (fun i p u h1 h2 => rel (i + 1) p u (by simpa using h1) (by simpa using h2)))
    have hbS : ¬ S1 b' ∧ b' < w.heap.size := by
      have := R.mem.apart id oc' (heap_ne hb0) hoc b' ((k4 b').2 rfl)
      exact ⟨this.1, this.2.1⟩
    unfold Oper.wp
    rw [hex, Oper.upon_enter, ← hm]
    refine Calls.mono (hS w (u0 :: us) (consD x0 xr) y S1 (fun q => q = b') (R.frm.tabs hB fun q hq => by subst hq; exact (R.mem.apart id oc' (heap_ne hb0) hoc _ ((k4 _).2 rfl)).2.2) R.mem.lt ⟨b', cur, te, us, fun _ => False, by rw [hu0], k2, by rw [headD_consD]; exact hrep, by rw [tailD_consD]; exact hrest, fun h => h, fun q => by simp⟩ (fun q hq => by subst hq; exact hbS) hy) fun ending w' hk => ?_
    obtain ⟨rv, S', FM, FR, rfl, past, s1, s2, out, f1, f2⟩ := hk
    obtain ⟨b2, cur2, e2, r2, H, hu2, hb2, hrep2, out, hHb, hFM⟩ := out
    rw [hu0] at hu2
    simp only [List.cons.injEq, Value.pointer.injEq, Option.some.injEq, Addr.mk.injEq] at hu2
    obtain ⟨⟨rfl, _⟩, rfl⟩ := hu2
    have res : ResRel S' w' rs rv z FR := out_val hav hz out
    have fr := R.fresh d
    have tf := fresh_t s d
    obtain ⟨cs1, hb1⟩ := fresh_box (d := d) hb0 hrg
    have hfr := fr.2
    generalize s.fresh d = sf at e fr tf hb1 hfr
    have RF := fr.1
    have T : Turn sf.h.get S1 w w' m m id oc' := ⟨heap_ne hb1, hoc, past.size, fun q hq hF => past.block q hq (fun e => hF ((k4 q).2 e)), fun _ _ => rfl⟩
    have hget : ∀ j, (sf.upd id (.box (flat t (headD (t := t) (ts := PK.mtys ps (RK.tys rs)) y)))).h.get j = if j = id then some (.box (flat t (headD (t := t) (ts := PK.mtys ps (RK.tys rs)) y))) else sf.h.get j := by
      intro j
      show AHeap.get _ j = _
      rw [AS.upd, get_upd]
      split
      · rename_i e; subst e; rw [hb1]; rfl
      · rfl
    have hρ : (sf.upd id (.box (flat t (headD (t := t) (ts := PK.mtys ps (RK.tys rs)) y)))).ρ = sf.ρ := rfl
    rw [hρ] at e
    generalize hH1 : (sf.upd id (.box (flat t (headD (t := t) (ts := PK.mtys ps (RK.tys rs)) y)))).h = H1 at e hget
    have hh : ∀ j, j ≠ id → AHeap.get H1 j = (sf.h.get j).map (AObj.mapC fun c => c) := fun j hj => by
      rw [hget j, if_neg hj]; cases sf.h.get j <;> simp [mapC_id]
    have F : Carry sf.h.get (AHeap.get H1) S1 S1 w w' m m (fun c => c) := by
      refine carry_turn T RF.mem hh (fun c _ => .inl rfl) (fun c v hr r => ?_)
      cases c with
      | op j off' =>
        have := Nat.eq_of_beq_eq_true hr
        subst this
        obtain ⟨_, rest⟩ := r
        exact ⟨⟨_, by rw [hget j, if_pos rfl]⟩, rest⟩
      | os j => have := Nat.eq_of_beq_eq_true hr; subst this; obtain ⟨⟨_, _, _, hx⟩, _⟩ := r; rw [hb1] at hx; cases hx
      | oe j i off' => have := Nat.eq_of_beq_eq_true hr; subst this; obtain ⟨⟨_, _, _, hx, _⟩, _⟩ := r; rw [hb1] at hx; cases hx
      | sb j i off' e' y => have := Nat.eq_of_beq_eq_true hr; subst this; obtain ⟨_, _, hx, _⟩ := r; rw [hb1] at hx; cases hx
      | vw j k => have := Nat.eq_of_beq_eq_true hr; subst this; obtain ⟨_, hx, hnb, _⟩ := r; rw [hb1] at hx; cases hx; cases hnb
      | _ => cases hr
    have F2 : ∀ c v, CellRel sf.h.get S1 w m c v → CellRel (AHeap.get H1) S' w' m c v := fun c v r => (F.cell c v r).moreS s1
    have hne : ∀ j, AHeap.get H1 j ≠ none → sf.h.get j ≠ none := fun j hj => by
      by_cases e : j = id
      · rw [e, hb1]; simp
      · rw [hget j, if_neg e] at hj; exact hj
    have notS' : ∀ q, ¬ S1 q → q < w.heap.size → ¬ S' q := fun q h1 h2 h3 => (s2 q h3).elim h1 fun h => by omega
    have M1 : Mem (AHeap.get H1) S' w' m B M0 := by
      refine ⟨fun j ob e => ?_, fun i j c d hij hi hj hci hdj q hq hq' => RF.mem.dis i j c d hij (hne i hi) (hne j hj) hci hdj q hq hq', fun i c hi hci q hq => ?_, fun q hq => ?_⟩
      · by_cases hj : j = id
        · subst hj
          rw [hget j, if_pos rfl] at e
          cases e
          exact ⟨oc', hoc, b', cur2, e2, k1, hb2, flat_rel hrep2, k4⟩
        · rw [hget j, if_neg hj] at e
          obtain ⟨c1, h1, h2⟩ := RF.mem.obj j ob e
          have hown := T.own RF.mem j c1 hj (heap_ne e) h1
          refine ⟨c1, h1, ?_⟩
          cases ob with
          | box cs => obtain ⟨b, cur, e, k1, k2, k3, k4⟩ := h2; exact ⟨b, cur, e, k1, (hown b ((k4 b).2 rfl)).trans k2, k3.imp F2, k4⟩
          | arr d t ys => exact ⟨h2.1, h2.2.mono s1 (T.stay RF.mem) hown T.size⟩
          | src t k ys => exact ⟨h2.1, h2.2.mono hown⟩
      · have := RF.mem.apart i c (hne i hi) hci q hq
        exact ⟨notS' q this.1 this.2.1, Nat.lt_of_lt_of_le this.2.1 T.size, this.2.2⟩
      · rcases s2 q hq with h | h
        · exact Nat.lt_of_lt_of_le (RF.mem.lt q h) T.size
        · exact h.2
    obtain ⟨cm, no, hlen2, hval⟩ := put_res (d * 16) res
    generalize (putRes (d * 16) rs z).1 = l at *
    generalize (putRes (d * 16) rs z).2.1 = os at *
    generalize (putRes (d * 16) rs z).2.2 = n at *
    have hn' := Nat.le_of_ble_eq_true hn
    have inos : ∀ id, AHeap.get os id ≠ none → d * 16 ≤ id ∧ id ≤ d * 16 + 15 := fun id hid => by have := no.ids id hid; omega
    have hnew : ∀ j, AHeap.get os j ≠ none → AHeap.get H1 j = none := fun j hj => by
      obtain ⟨i1, i2⟩ := inos j hj
      have h0 := hfr j i1 i2
      have : j ≠ id := fun e => by rw [e, hb1] at h0; cases h0
      rw [hget j, if_neg this]
      exact h0
    have A := M1.add no hnew (fun q hq => ⟨(f2 q hq).2.2.1, (f2 q hq).2.1, .inl (Nat.le_trans hB (f2 q hq).1)⟩) (fun j dd hj hdj q hq hF => by
      have := (RF.mem.apart j dd (hne j hj) hdj q hF).2.1
      have := (f2 q hq).1
      omega)
    refine K _ _ (retV rv) w' S' (addM os cm m) e ⟨?_, ⟨?_, ?_, fun i => ?_, RF.size, RF.defers⟩, ⟨fun q hq => s1 q (hS1 q hq), past.size, fun q hq => T.stay RF.mem q (hS1 q hq), fun q hq => ?_⟩, ?_, fun et => ?_⟩ fun et => ?_
    · show VRel (AHeap.get (os ++ H1)) S' w' _ _ _
      rw [get_plus]
      exact ret_rel hlen2 (hval _ _ fun id ob e => ⟨by simp only [hplus, e, Option.some_or], by simp only [addM, e]⟩)
    · show Mem (AHeap.get (os ++ H1)) S' w' _ B M0
      rw [get_plus]
      exact A.1
    · refine ⟨past.os.trans RF.frm.os, past.tape.trans RF.frm.tape, past.output.trans RF.frm.output, Nat.le_trans RF.frm.size past.size, fun q hq hm => (past.block q (Nat.lt_of_lt_of_le hq hB) fun e => ?_).trans (RF.frm.block q hq hm), fun a ha => (past.fz a (Nat.lt_of_lt_of_le ha RF.frm.size)).trans (RF.frm.fz a ha), RF.frm.tab⟩
      subst e
      rcases (RF.mem.apart id oc' (heap_ne hb1) hoc q ((k4 q).2 rfl)).2.2 with hx | hx
      · omega
      · exact hm hx
    · show VRel (AHeap.get (os ++ H1)) S' w' _ (sf.ρ.getD i (.one .und)) _
      rw [get_plus]
      exact ((RF.tmps i).imp F2).wider A.2 M1
    · rcases s2 q hq with h | h
      · exact nS1 q h
      · exact .inr (.inl (Nat.le_trans hB h.1))
    · show s0.t ≤ sf.t + 1
      omega
    · have h1 : sf.t + 1 = s0.t := et
      omega
    · have h1 : sf.t + 1 = s0.t + 1 := et
      have e2 : s = s0 := ts.2 (by omega)
      have e1 : sf = s := tf.2 (by omega)
      subst e1
      subst e2
      refine ⟨rfl, fun c u r => ?_, id, ?_, fun j ob hj hob => ?_⟩
      · show CellRel (AHeap.get (os ++ H1)) S' w' _ c u
        rw [get_plus]
        exact CellRel.wider A.2 M1 (F2 c u (r.moreS hS1))
      · rw [← hav0 rfl]; exact hid
      · show AHeap.get (os ++ H1) j = some ob
        rw [get_append]
        have h3 : AHeap.get H1 j = some ob := by rw [hget j, if_neg hj]; exact hob
        cases h4 : AHeap.get os j with
        | none => rw [h3]; rfl
        | some o4 => have := hnew j (heap_ne h4); rw [h3] at this; cases this
  | _ => cases hv
theorem aCallB_sound [Tabs] (hG : ∀ p ∈ E.G, Sound P p.1 p.2 ∧ FnOk P p.1) (hB0 : B ≤ w0.heap.size) {s0 : AS} {a : Act} (R0 : Rel w0 B M0 S m s0 a w) {o : Oper} {c : Call} (ho : o.op = .call c) {f : Operand} (hc : c.callee = .value f) {g : FuncId} {C : FnSpec} {caps : List Cap} (hf : s0.ev f = .one (.cl g caps))
    (hl : (g, C) ∈ E.G) (hv : boxShape C.ps = true) {d : Nat} {R' : Type} {k : AVal → AS → Option R'} {r : R'} (e : aCallB s0 d C c.args.toList caps k = some r)
    {next : Act → World → Prop} {Q : Exit → Act → World → Prop} (K : ∀ v s' v' w' S' m', k v s' = some r → Moved w0 B M0 S m s0 a w v s' v' w' S' m' → next (a.put o.dst v') w') : o.wp P a w next Q :=
  aCallB_soundX hG hB0 R0 ho hc hf hl hv e fun v s' v' w' S' m' hk M _ => K v s' v' w' S' m' hk M
theorem run_equalIn_nil {t te : TypeId} (hu : P.underlying t = some (.slice te)) (d : Nat) (o : Option Addr) (n c : Nat) : (Op.equalIn (d + 1) t (.slice o n c) (.slice none 0 0)).run P w = .ok o.isNone w := by
  unfold Op.equalIn
  cases o <;> simp [run_underlying hu]
theorem run_eqGuard_slice (op : BinOp) (t : TypeId) (x y : Operand) (o : Option Addr) (n c : Nat) : (eqGuard op t x y (.slice o n c) (.slice none 0 0)).run P w = .ok () w := by
  unfold eqGuard; cases op <;> rfl
theorem run_nilCmp [Tabs] {op : BinOp} (ho : op = .eql ∨ op = .neq) {t te : TypeId} (hu : P.underlying t = some (.slice te)) (o : Option Addr) (n c : Nat) : (binOp op t (.slice o n c) (.slice none 0 0)).run P w = .ok (.bool (nilOp op o.isNone)) w := by
  have := run_equalIn_nil (P := P) (w := w) hu 9999 o n c
  rcases ho with rfl | rfl
  · show (do pure (.bool (← Op.equal t (.slice o n c) (.slice none 0 0))) : Sem Value).run P w = _
    simp only [Sem.run_bind, Op.equal, Op.maxDepth, this, Result.andThen_ok, Sem.run_pure]
    rfl
  · show (do pure (.bool (!(← Op.equal t (.slice o n c) (.slice none 0 0)))) : Sem Value).run P w = _
    simp only [Sem.run_bind, Op.equal, Op.maxDepth, this, Result.andThen_ok, Sem.run_pure]
    rfl
theorem bothSame_spec {R : Type} {a b : Option R} {r : R} (h : bothSame a b = some r) : a = some r ∧ b = some r := by
  unfold bothSame at h
  split at h
  · rename_i e; exact ⟨h, e ▸ h⟩
  · cases h
theorem isNilCmp_spec {s : AS} {op : BinOp} {t : TypeId} {x y : Operand} (h : isNilCmp E s op t x y = true) : (op = .eql ∨ op = .neq) ∧ (∃ u, look E.T t = some (.slice u)) ∧ (∃ u xs, s.ev x = .one (.pv (.slice u) xs)) ∧ y = .const (.slice none 0 0) := by
  unfold isNilCmp at h
  split at h
  · rename_i h1 h2; exact ⟨.inl rfl, ⟨_, h1⟩, ⟨_, _, h2⟩, rfl⟩
  · rename_i h1 h2; exact ⟨.inr rfl, ⟨_, h1⟩, ⟨_, _, h2⟩, rfl⟩
  · cases h
theorem aNil_t [Tabs] {s : AS} {op : BinOp} {x : Operand} {R : Type} {k : AVal → AS → Option R} {r : R} (e : aNil s op x k = some r) : ∃ v s', k v s' = some r ∧ s.t < s'.t := by
  unfold aNil at e
  split at e
  · rename_i u xs hx
    cases hxs : xs.isEmpty with
    | true => rw [hxs] at e; exact ⟨_, _, (bothSame_spec e).1, Nat.lt_succ_self _⟩
    | false => rw [hxs] at e; exact ⟨_, _, e, Nat.lt_succ_self _⟩
  · cases e
theorem aNil_sound [Tabs] (hT : ∀ p ∈ E.T, tyOk P p.1 p.2 = true) {s : AS} {a : Act} (R : Rel w0 B M0 S m s a w) {o : Oper} {op : BinOp} {t t' : TypeId} {x y : Operand} (ho : o.op = .binOp op t x y t') (hn : isNilCmp E s op t x y = true) {R' : Type} {k : AVal → AS → Option R'} {r : R'} (e : aNil s op x k = some r)
    {next : Act → World → Prop} {Q : Exit → Act → World → Prop} (K : ∀ v s' v' w' S' m', k v s' = some r → Moved w0 B M0 S m s a w v s' v' w' S' m' → next (a.put o.dst v') w') : o.wp P a w next Q := by
  obtain ⟨hop, ⟨u, hl⟩, ⟨u', xs, hx⟩, hy⟩ := isNilCmp_spec hn
  obtain ⟨te, i, z, hu, _⟩ := slice_ty (hT _ (look_mem hl))
  have hxr := R.ev x
  rw [hx] at hxr
  have hyv : a.eval y = .slice none 0 0 := by rw [hy]; rfl
  obtain ⟨_, hlen, hr⟩ := (hxr : CellRel s.h.get S w m (.pv (.slice u') xs) (a.eval x))
  have go : ∀ (oo : Option Addr) (n c : Nat), a.eval x = .slice oo n c → k (.one (.pv .bool (nilOp op oo.isNone))) { s with t := s.t + 1 } = some r → o.wp P a w next Q := fun oo n c hxv hk => by
    refine wp_value (v' := .bool (nilOp op oo.isNone)) (w' := w) ?_ (K _ _ _ w S m hk ⟨pv_bool _, ⟨R.mem, R.frm, R.tmps, R.size, R.defers⟩, Ext.refl B M0 S w, Nat.le_succ _, fun et => by have : s.t + 1 = s.t := et; omega⟩)
    obtain ⟨odst, oop, oty, opos, oafter, oguard⟩ := o
    simp only at ho
    subst ho
    simp only [execOp, hxv, hyv, Sem.run_bind, run_eqGuard_slice, Result.andThen_ok, run_nilCmp hop hu, Sem.run_pure]
  unfold aNil at e
  rw [hx] at e
  simp only at e
  rcases hr with ⟨hv, rfl⟩ | ⟨ad, cap, hv, _⟩
  · simp only [List.cons.injEq, and_true] at hv
    exact go none 0 0 hv (bothSame_spec (by simpa using e)).1
  · simp only [List.cons.injEq, and_true] at hv
    refine go (some ad) _ _ hv ?_
    cases hxs : xs.isEmpty with
    | true => rw [hxs] at e; exact (bothSame_spec (by simpa using e)).2
    | false => rw [hxs] at e; simpa using e
theorem pickB_spec {n : Int} {R : Type} {k : Nat → Option R} {r : R} : ∀ {j : Nat}, pickB n k j = some r → ∃ i, i < j ∧ n = (i : Int) ∧ k i = some r
  | 0, h => by cases h
  | j + 1, h => by
    unfold pickB at h
    by_cases hn : n = (j : Int)
    · rw [decide_eq_true hn] at h
      exact ⟨j, Nat.lt_succ_self _, hn, h⟩
    · rw [decide_eq_false hn] at h
      obtain ⟨i, h1, h2, h3⟩ := pickB_spec (j := j) h
      exact ⟨i, Nat.lt_succ_of_lt h1, h2, h3⟩
theorem aIdxB_spec [Tabs] {s : AS} {st : TypeId} {x i : Operand} {R : Type} {k : AVal → AS → Option R} {r : R} (e : aIdxB E s st x i k = some r) :
    ∃ u id off q n p j, look E.T st = some u ∧ s.ev x = .one (.op id off) ∧ s.ev i = .one (.pv (.int q) n) ∧ arrIn u = some p ∧ j < p.1 ∧ n = (j : Int) ∧ k (.one (.op id (off + j * p.2.size))) { s with t := s.t + 1 } = some r := by
  unfold aIdxB at e
  split at e
  · rename_i u id off q n h1 h2 h3
    split at e
    · rename_i p hp
      obtain ⟨j, hj, hn, hk⟩ := pickB_spec e
      exact ⟨u, id, off, q, n, p, j, h1, h2, h3, hp, hj, hn, hk⟩
    · cases e
  · cases e
theorem aIdxB_t [Tabs] {s : AS} {st : TypeId} {x i : Operand} {R : Type} {k : AVal → AS → Option R} {r : R} (e : aIdxB E s st x i k = some r) : ∃ v s', k v s' = some r ∧ s.t < s'.t := by
  obtain ⟨u, id, off, q, n, p, j, h1, h2, h3, hp, hj, hn, hk⟩ := aIdxB_spec e
  exact ⟨_, _, hk, Nat.lt_succ_self _⟩
theorem aIdxB_sound [Tabs] (hT : ∀ p ∈ E.T, tyOk P p.1 p.2 = true) {s : AS} {a : Act} (R : Rel w0 B M0 S m s a w) {o : Oper} {st : TypeId} {x i : Operand} (ho : o.op = .indexAddr st x i) {R' : Type} {k : AVal → AS → Option R'} {r : R'} (e : aIdxB E s st x i k = some r)
    {next : Act → World → Prop} {Q : Exit → Act → World → Prop} (K : ∀ v s' v' w' S' m', k v s' = some r → Moved w0 B M0 S m s a w v s' v' w' S' m' → next (a.put o.dst v') w') : o.wp P a w next Q := by
  obtain ⟨u, id, off, q, n, p, j, h1, h2, h3, hp, hj, hn, hk⟩ := aIdxB_spec e
  have hx := R.ev x
  have hi := R.ev i
  rw [h2] at hx
  rw [h3] at hi
  obtain ⟨hob, c, b, e1, e2, e3⟩ := (hx : CellRel s.h.get S w m (.op id off) (a.eval x))
  have hiv := (inv_int (h := s.h.get) (S := S) (w := w) (m := m) hi).1
  have hrun := run_indexAtA (P := P) (w := w) (k := q) (b := b) (o := off) (n := (j : Int)) (hT _ (look_mem h1)) hp (by omega) (by omega)
  rw [Int.toNat_natCast] at hrun
  have hiv : a.eval i = .int q (j : Int) := hiv.trans (by rw [hn])
  refine wp_value (v' := .pointer (some ⟨b, off + j * p.2.size, none⟩)) (w' := w) ?_ (K _ _ _ w S m hk ⟨⟨hob, c, b, e1, e2, rfl⟩, ⟨R.mem, R.frm, R.tmps, R.size, R.defers⟩, Ext.refl B M0 S w, Nat.le_succ _, fun et => by have : s.t + 1 = s.t := et; omega⟩)
  obtain ⟨odst, oop, oty, opos, oafter, oguard⟩ := o
  simp only at ho
  subst ho
  simp only [execOp, e3, hiv, Sem.run_bind, hrun, Result.andThen_ok, Sem.run_pure]
end
end Go.Ab
