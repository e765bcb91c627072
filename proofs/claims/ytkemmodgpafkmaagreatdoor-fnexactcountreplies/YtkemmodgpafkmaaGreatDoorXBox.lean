/-
  A call that is handed a pointer to a variable of ours ahead.
-/
import Derived.Test.YtkemmodgpafkmaaGreatDoorXStep
namespace Go.Ab
open Go Go.RowKit
section
variable {P : Program} {E : Env} {h : HGet} {S S' : Blk} {w w' w0 : World} {m m' : OMap} {B : Nat} {M0 : Blk}
theorem CellRel.moreS [Tabs] (hs : ∀ q, S q → S' q) : {c : ACell} → {v : Value} → CellRel h S w m c v → CellRel h S' w m c v
  | .und, _, _ => trivial
  | .nils, _, r => r
  | .pv _ _, _, r => ⟨r.1, r.2.mono hs (fun _ _ => rfl) (Nat.le_refl _)⟩
  | .pc _ _, _, r => PcRel.mono hs (fun _ _ => rfl) (Nat.le_refl _) r
  | .os _, _, r => r
  | .op _ _, _, r => r
  | .oe _ _ _, _, r => r
  | .sb _ _ _ _ _, _, r => r
  | .vw _ _, _, r => r
  | .cl _ _, _, ⟨cs, e, k⟩ => ⟨cs, e, k.mono hs (fun _ _ => rfl) (Nat.le_refl _)⟩
def addM (os : AHeap) (c m : OMap) : OMap := fun id => match AHeap.get os id with | some _ => c id | none => m id
theorem Mem.add [Tabs] (M : Mem h S w m B M0) {os : AHeap} {c : OMap} {FR : Blk} {lo hi : Nat} (no : NewObjs S w os c FR lo hi) (hnew : ∀ id, AHeap.get os id ≠ none → h id = none)
    (hFR : ∀ q, FR q → ¬ S q ∧ q < w.heap.size ∧ (B ≤ q ∨ M0 q)) (hdis : ∀ j d, h j ≠ none → m j = some d → ∀ q, FR q → d.F q → False) :
    Mem (hplus os h) S w (addM os c m) B M0 ∧ Wider h (hplus os h) S S w w m (addM os c m) := by
  have W : Wider h (hplus os h) S S w w m (addM os c m) := by
    have nn : ∀ id, h id ≠ none → AHeap.get os id = none := fun id hid => by
      cases e : AHeap.get os id with
      | none => rfl
      | some o => exact absurd (hnew id (by rw [e]; simp)) hid
    refine ⟨fun id o e => ?_, fun id e => ?_, fun _ e => e, Nat.le_refl _, fun _ _ => rfl, fun _ _ _ _ _ _ => rfl⟩
    · simp [hplus, nn id (heap_ne e), e]
    · simp only [addM, nn id e]
  have old : ∀ id, hplus os h id ≠ none → AHeap.get os id = none → h id ≠ none := fun id e e' => by simpa [hplus, e'] using e
  have newF : ∀ {id : Nat} {x : AObj} {oc : OC}, AHeap.get os id = some x → addM os c m id = some oc → c id = some oc ∧ ∀ q, oc.F q → FR q := fun {id x oc} e hc => by
    simp only [addM, e] at hc
    obtain ⟨oc', h1, _, h5⟩ := no.obj id x e
    obtain rfl : oc' = oc := Option.some.inj (h1.symm.trans hc)
    exact ⟨hc, h5⟩
  have oldM : ∀ {id : Nat} {oc : OC}, AHeap.get os id = none → addM os c m id = some oc → m id = some oc := fun {id oc} e hc => by
    simp only [addM, e] at hc; exact hc
  refine ⟨⟨fun id o e => ?_, fun i j a b hij hi hj ha hb q hq hq' => ?_, fun i a hi ha q hq => ?_, M.lt⟩, W⟩
  · cases e' : AHeap.get os id with
    | some x =>
      have : x = o := by simpa [hplus, e'] using e
      subst this
      obtain ⟨oc, h1, h4, h5⟩ := no.obj id x e'
      exact ⟨oc, by simp only [addM, e']; exact h1, h4 _ _ fun i o ei => ⟨by simp only [hplus, ei, Option.some_or], by simp only [addM, ei]⟩⟩
    | none =>
      have e2 : h id = some o := by simpa [hplus, e'] using e
      obtain ⟨c1, h1, h2⟩ := M.obj id o e2
      exact ⟨c1, by simp only [addM, e']; exact h1, h2.wider W M fun _ _ => rfl⟩
  · cases ei : AHeap.get os i with
    | some x =>
      obtain ⟨a1, a2⟩ := newF ei ha
      cases ej : AHeap.get os j with
      | some y =>
        obtain ⟨b1, b2⟩ := newF ej hb
        exact no.dis i j a b hij (by rw [ei]; simp) (by rw [ej]; simp) a1 b1 q hq hq'
      | none => exact hdis j b (old j hj ej) (oldM ej hb) q (a2 q hq) hq'
    | none =>
      have hi' := old i hi ei
      have ha' := oldM ei ha
      cases ej : AHeap.get os j with
      | some y =>
        obtain ⟨b1, b2⟩ := newF ej hb
        exact hdis i a hi' ha' q (b2 q hq') hq
      | none => exact M.dis i j a b hij hi' (old j hj ej) ha' (oldM ej hb) q hq hq'
  · cases ei : AHeap.get os i with
    | some x => exact hFR q ((newF ei ha).2 q hq)
    | none => exact M.apart i a (old i hi ei) (oldM ei ha) q hq
theorem kills_box [Tabs] {id : Nat} : ∀ (l : List (Nat × AObj)) (s : AS) {cs : List ACell}, s.h.get id = some (.box cs) → (∀ p ∈ l, p.1 ≠ id) → ∃ cs', (l.foldl (fun s p => s.kill p.1) s).h.get id = some (.box cs')
  | [], s, cs, e, _ => ⟨cs, e⟩
  | p :: l, s, cs, e, hn => by
    refine kills_box l (s.kill p.1) (cs := cs.map (ACell.kill p.1)) ?_ (fun q hq => hn q (List.mem_cons_of_mem _ hq))
    rw [get_kill, if_neg (fun e => hn p List.mem_cons_self e.symm), e]
    rfl
theorem fresh_box [Tabs] {s : AS} {d id : Nat} {cs : List ACell} (e : s.h.get id = some (.box cs)) (hr : (Nat.ble (d * 16) id && Nat.ble id (d * 16 + 15)) = false) : ∃ cs', (s.fresh d).h.get id = some (.box cs') := by
  refine kills_box _ s e fun p hp he => ?_
  have := (List.mem_filter.1 hp).2
  rw [he] at this
  rw [this] at hr
  cases hr
theorem ids_nil {l : List Nat} (h : l.isEmpty = true) : l = [] := by simpa using h
structure TurnX (h : HGet) (S : Blk) (w w' : World) (m m' : OMap) (id : Nat) : Prop where
  size : w.heap.size ≤ w'.heap.size
  map : ∀ j, j ≠ id → m' j = m j
  stay : ∀ q, S q → w'.heap[q]? = w.heap[q]?
  own : ∀ j d, j ≠ id → h j ≠ none → m j = some d → ∀ q, d.F q → w'.heap[q]? = w.heap[q]?
theorem carry_turnX [Tabs] {id : Nat} (T : TurnX h S w w' m m' id) (M : Mem h S w m B M0) {h' : HGet} {f : ACell → ACell} (hh : ∀ j, j ≠ id → h' j = (h j).map (AObj.mapC f))
    (hf : ∀ c, c.refs id = false → f c = c ∨ f c = .und) (hid : ∀ c v, c.refs id = true → CellRel h S w m c v → CellRel h' S w' m' (f c) v) : Carry h h' S S w w' m m' f := by
  refine ⟨fun c v r => ?_⟩
  cases hr : c.refs id with
  | true => exact hid c v hr r
  | false =>
    rcases hf c hr with e | e
    · rw [e]
      cases c with
      | und => trivial
      | nils => exact r
      | pv t x => exact ⟨r.1, r.2.mono (fun _ h => h) T.stay T.size⟩
      | pc t x => obtain ⟨b, o, ds, h1, h2, h3, h4, h5⟩ := r; exact ⟨b, o, ds, h1, h2, Nat.lt_of_lt_of_le h3 T.size, h4.mono (T.stay b h2), h5.mono (fun _ h => h) T.stay T.size⟩
      | os j =>
        have hj : j ≠ id := fun e => by subst e; simp [ACell.refs] at hr
        obtain ⟨⟨d, t, xs, ho⟩, c, hc, hv⟩ := r
        exact ⟨⟨d, t, xs, by rw [hh j hj, ho]; rfl⟩, c, (T.map j hj).trans hc, hv⟩
      | op j off =>
        have hj : j ≠ id := fun e => by subst e; simp [ACell.refs] at hr
        obtain ⟨⟨cs, ho⟩, c, b, hc, rest⟩ := r
        exact ⟨⟨_, by rw [hh j hj, ho]; rfl⟩, c, b, (T.map j hj).trans hc, rest⟩
      | oe j i off =>
        have hj : j ≠ id := fun e => by subst e; simp [ACell.refs] at hr
        obtain ⟨⟨d, t, xs, ho, hi⟩, c, g, n, cap, hc, rest⟩ := r
        exact ⟨⟨d, t, xs, by rw [hh j hj, ho]; rfl, hi⟩, c, g, n, cap, (T.map j hj).trans hc, rest⟩
      | sb j i off e' y =>
        have hj : j ≠ id := fun e => by subst e; simp [ACell.refs] at hr
        obtain ⟨d, xs, ho, hi, hd, hu, c, g, n, cap, hc, hv, hcell⟩ := r
        refine ⟨d, xs, by rw [hh j hj, ho]; rfl, hi, hd, hu, c, g, n, cap, (T.map j hj).trans hc, hv, ?_⟩
        obtain ⟨c', hc', hob⟩ := M.obj j _ ho
        obtain rfl : c' = c := Option.some.inj (hc'.symm.trans hc)
        exact (World.cell?_of_block (w := w) (w' := w') (T.own j c' hj (heap_ne ho) hc g (arr_block hob.2 (Nat.zero_lt_of_lt (List.getElem?_eq_some_iff.1 hi).1) hv))).trans hcell
      | vw j k =>
        have hj : j ≠ id := fun e => by subst e; simp [ACell.refs] at hr
        obtain ⟨o, ho, hnb, c, hc, hk⟩ := r
        cases o with
        | box cs => cases hnb
        | arr d t xs => exact ⟨_, by rw [hh j hj, ho]; rfl, rfl, c, (T.map j hj).trans hc, vk_stay M ho hc (T.own j c hj (heap_ne ho) hc) hk⟩
        | src t i xs => exact ⟨_, by rw [hh j hj, ho]; rfl, rfl, c, (T.map j hj).trans hc, vk_stay M ho hc (T.own j c hj (heap_ne ho) hc) hk⟩
      | cl g caps => obtain ⟨cs, e, k⟩ := r; exact ⟨cs, e, k.mono (fun _ h => h) T.stay T.size⟩
    · rw [e]; trivial
theorem killL_box [Tabs] {id : Nat} : ∀ (l : List Nat) (s : AS) {cs : List ACell}, s.h.get id = some (.box cs) → id ∉ l → ∃ cs', (s.killL l).h.get id = some (.box cs')
  | [], s, cs, e, _ => ⟨cs, e⟩
  | j :: l, s, cs, e, hn => by
    refine killL_box l (s.kill j) (cs := cs.map (ACell.kill j)) ?_ fun h => hn (List.mem_cons_of_mem _ h)
    rw [get_kill, if_neg (fun e => hn (by rw [e]; exact List.mem_cons_self)), e]
    rfl
theorem aCallO_soundX [Tabs] (hG : ∀ p ∈ E.G, Sound P p.1 p.2 ∧ FnOk P p.1) (hB0 : B ≤ w0.heap.size) {s0 : AS} {a : Act} (R0 : Rel w0 B M0 S m s0 a w) {o : Oper} {c : Call} (ho : o.op = .call c) {f : Operand} (hc : c.callee = .value f) {g : FuncId} {C : FnSpec} {caps : List Cap} (hf : s0.ev f = .one (.cl g caps))
    (hl : (g, C) ∈ E.G) (hv : boxShape C.ps = true) (hob : match C.ps with | .obox _ :: _ => True | _ => False) {d : Nat} {R' : Type} {k : AVal → AS → Option R'} {r : R'} (e : aCallB s0 d C c.args.toList caps k = some r)
    {next : Act → World → Prop} {Q : Exit → Act → World → Prop} (K : ∀ v s' v' w' S' m', k v s' = some r → Moved w0 B M0 S m s0 a w v s' v' w' S' m' →
      (s'.t = s0.t + 1 → s'.ρ = s0.ρ ∧ (∀ c u, CellRel s0.h.get S w m c u → CellRel s'.h.get S' w' m' c u) ∧ ∃ id, boxId (callVals s0.ev c.args.toList caps) = some id ∧ ∀ j o, j ≠ id → s0.h.get j = some o → s'.h.get j = some o) → next (a.put o.dst v') w') : o.wp P a w next Q := by
  obtain ⟨hS, hfn⟩ := hG _ hl
  have hB : B ≤ w.heap.size := Nat.le_trans hB0 R0.frm.size
  obtain ⟨ps, rs, fn⟩ := C
  cases ps with
  | nil => exact hob.elim
  | cons p ps =>
  cases p with
  | obox t =>
    have hav : allVal ps = true := hv
    simp only [aCallB] at e
    obtain ⟨S1, hS1, nS1, R⟩ := Rel.frzAll (argOs (.obox t :: ps) (callVals s0.ev c.args.toList caps)) R0
    have ts := frzAll_t (argOs (.obox t :: ps) (callVals s0.ev c.args.toList caps)) s0
    generalize s0.frzAll (argOs (.obox t :: ps) (callVals s0.ev c.args.toList caps)) = s at e R ts
    have hav0 : s = s0 → callVals s.ev c.args.toList caps = callVals s0.ev c.args.toList caps := fun h => by rw [h]
    have hargs : VRel s0.h.get S w m (s0.ev f) (a.eval f) := R0.ev f
    rw [hf] at hargs
    obtain ⟨ccs, hval, hcaps⟩ := hargs
    have rel : ∀ (i : Nat) (p : AVal) (u : Value), (callVals s.ev c.args.toList caps)[i]? = some p → (c.args.toList.map a.eval ++ ccs.toList)[i]? = some u → VRel s.h.get S1 w m p u := callVals_rel (fun q _ => R.ev q) (hcaps.mono hS1 (fun _ _ => rfl) (Nat.le_refl _))
    have hlen : (callVals s.ev c.args.toList caps).length = (c.args.toList.map a.eval ++ ccs.toList).length := callVals_len hcaps
    have hrun := run_call_fn (ty := o.type) (ρ := a.eval) hfn hc hval w
    have hm : (c.args.toList.map a.eval ++ ccs.toList).toArray = c.args.map a.eval ++ ccs := by
      rw [← Array.toList_map, ← Array.toList_append, Array.toArray_toList]
    have hex : (execOp a.eval o).run P w = .ok (.enter g (c.args.map a.eval ++ ccs)) w := by
      rw [← hrun]
      obtain ⟨odst, op, oty, opos, oafter, oguard⟩ := o
      simp only at ho
      subst ho
      rfl
    generalize callVals s.ev c.args.toList caps = av at e rel hlen hav0
    generalize c.args.toList.map a.eval ++ ccs.toList = us at rel hlen hm
    cases hle : (argIds (.obox t :: ps) av).isEmpty with
    | false => rw [hle] at e; cases e
    | true =>
    rw [hle] at e
    simp only [Bool.not_true, cond_false] at e
    have hids := ids_nil hle
    cases hid : boxId av with
    | none => rw [hid] at e; cases e
    | some id =>
    rw [hid] at e
    simp only at e
    obtain ⟨vs, rfl⟩ : ∃ vs, av = .one (.op id 0) :: vs := by
      unfold boxId at hid
      split at hid
      · cases hid; exact ⟨_, rfl⟩
      · cases hid
    cases us with
    | nil => cases hlen
    | cons u0 us =>
    cases hrg : (Nat.ble (d * 16) id && Nat.ble id (d * 16 + 15)) with
    | true => rw [hrg] at e; cases e
    | false =>
    rw [hrg] at e
    simp only [cond_false] at e
    cases hx : takeArgs s.h (.obox t :: ps) (.one (.op id 0) :: vs) with
    | none => rw [hx] at e; cases e
    | some x =>
    rw [hx] at e
    simp only [Option.bind_eq_some_iff] at e
    obtain ⟨y, hy, e⟩ := e
    simp only [takeArgs] at hx
    cases hb0 : s.h.get id with
    | none => rw [hb0] at hx; cases hx
    | some ob =>
    rw [hb0] at hx
    cases ob with
    | arr _ _ _ => cases hx
    | src _ _ _ => cases hx
    | box cs =>
    simp only at hx
    cases hcs : (Nat.beq cs.length t.size && deepIn (s.h.del id) cs) with
    | false => rw [hcs] at hx; cases hx
    | true =>
    rw [hcs] at hx
    simp only [cond_true, Option.bind_eq_some_iff, Option.some.injEq] at hx
    obtain ⟨x0, hx0, xr, hxr, rfl⟩ := hx
    simp only [Bool.and_eq_true] at hcs
    have hcl := Nat.eq_of_beq_eq_true hcs.1
    obtain ⟨dn, dobj0, dc⟩ := deepIn_spec hcs.2
    have dobj : ∀ i ∈ osIn cs, i ≠ id ∧ ∃ t xs, s.h.get i = some (.arr true t xs) := fun i hi => by
      obtain ⟨t', xs, h1⟩ := dobj0 i hi
      rw [get_del] at h1
      by_cases e1 : i = id
      · rw [if_pos e1] at h1; cases h1
      · rw [if_neg e1] at h1; exact ⟨e1, t', xs, h1⟩
    unfold oboxGo at e
    rw [hb0] at e
    simp only [Option.bind_eq_some_iff] at e
    obtain ⟨z, hz, e⟩ := e
    generalize hp : headD (t := t) (ts := PK.mtys ps (RK.tys rs)) y = p at e
    cases hn : Nat.ble (putRes (mutCells (d * 16) t p).2.2 rs z).2.2 (d * 16 + 16) with
    | false => simp only [hn, cond_false] at e; cases e
    | true =>
    simp only [hn, cond_true] at e
    obtain ⟨_, oc, b, hoc, hov, hu0⟩ := (rel 0 _ u0 rfl rfl : CellRel s.h.get S1 w m (.op id 0) u0)
    obtain ⟨oc', hoc', b', cur, te, k1, k2, k3, k4⟩ := R.mem.obj id _ hb0
    obtain rfl : oc' = oc := Option.some.inj (hoc'.symm.trans hoc)
    rw [k1] at hov
    simp only [Value.pointer.injEq, Option.some.injEq, Addr.mk.injEq] at hov
    obtain ⟨rfl, _⟩ := hov
    have hnoids : ∀ {S : Blk} {l : List Nat}, l = [] → ∀ q, Plus m s.h.get S l q → S q := fun {S l} hl q hq => by
      rcases hq with hq | ⟨i, hi, _⟩
      · exact hq
      · rw [hl] at hi; cases hi
    have hown0 : Own w t cur.toList x0 (OsBlk m cs) := deep_own R.mem (get := s.h.get) (fun _ _ e => e) dn (fun i hi => (dobj i hi).2) dc hx0 k3 hcl
    have hGb : ¬ OsBlk m cs b' := fun ⟨i, hi, c, hc, hF⟩ => by
      obtain ⟨h1, t', xs, h2⟩ := dobj i hi
      exact R.mem.dis i id c oc' h1 (heap_ne h2) (heap_ne hb0) hc hoc b' hF ((k4 b').2 rfl)
    have hids' : argIds ps vs = [] := hids
    have hrest : ArgsRel S1 w ps us xr (fun _ => False) := ArgsRel.mono (hnoids hids') hav (args_val R.mem hav (fun j o e hne => by
      have e := dels_sub e
      rw [get_del] at e
      split at e
      · cases e
      · exact e) hxr (by simpa using hlen) (fun i p u h1 h2 => rel (i + 1) p u (by simpa using h1) (by simpa using h2)))
    have orph0 := Orphan.moved R.mem (cs := cs) (fun i hi => by obtain ⟨_, _, _, h⟩ := dobj i hi; exact heap_ne h)
    have hMs : ∀ q, (q = b' ∨ OsBlk m cs q) → ¬ S1 q ∧ q < w.heap.size ∧ (B ≤ q ∨ M0 q) := fun q hq => by
      rcases hq with rfl | hq
      · exact R.mem.apart id oc' (heap_ne hb0) hoc _ ((k4 _).2 rfl)
      · exact orph0.free q hq
    unfold Oper.wp
    rw [hex, Oper.upon_enter, ← hm]
    refine Calls.mono (hS w (u0 :: us) (consD x0 xr) y S1 (fun q => q = b' ∨ OsBlk m cs q) (R.frm.tabs hB fun q hq => (hMs q hq).2.2) R.mem.lt ⟨u0, us, fun q => q = b' ∨ OsBlk m cs q, fun _ => False, rfl, ⟨b', cur, te, OsBlk m cs, hu0, k2, by rw [headD_consD]; exact hown0, hGb, fun q => Iff.rfl⟩, by rw [tailD_consD]; exact hrest, fun _ _ h => h.elim, fun q => by simp⟩ (fun q hq => ⟨(hMs q hq).1, (hMs q hq).2.1⟩) hy) fun ending w' hk => ?_
    obtain ⟨rv, S', FM, FR, rfl, past, s1, s2, out, f1, f2⟩ := hk
    obtain ⟨v2, r2, G2, H, hu2, ⟨b2, cur2, e2, G3, hv2, hb2, hown2, hGb2, hG2⟩, out, hdis2, hFM⟩ := out
    simp only [List.cons.injEq] at hu2
    obtain ⟨rfl, rfl⟩ := hu2
    rw [hu0] at hv2
    simp only [Value.pointer.injEq, Option.some.injEq, Addr.mk.injEq] at hv2
    obtain ⟨rfl, _⟩ := hv2
    rw [hp] at hown2
    have res : ResRel S' w' rs rv z FR := out_val hav hz out
    have R1 := R.killL (osIn cs)
    have tk := killL_t (osIn cs) s
    obtain ⟨cs2, hb2'⟩ := killL_box (osIn cs) s hb0 (fun h => (dobj id h).1 rfl)
    have fr := R1.fresh d
    have tf := fresh_t (s.killL (osIn cs)) d
    obtain ⟨cs1, hb1⟩ := fresh_box (d := d) hb2' hrg
    have hfr := fr.2
    have RF := fr.1
    have orph := orph0.less (fun _ h => h) (fun j h => fresh_ne (s.killL (osIn cs)) d j h)
    generalize (s.killL (osIn cs)).fresh d = sf at e fr tf hb1 hfr RF orph
    have T : TurnX sf.h.get S1 w w' m m id := ⟨past.size, fun _ _ => rfl, fun q hq => past.block q (RF.mem.lt q hq) fun hm => (hMs q hm).1 hq,
      fun j dd hj hn hd q hq => past.block q (RF.mem.apart j dd hn hd q hq).2.1 fun hm => by
        rcases hm with rfl | hm
        · exact RF.mem.dis j id dd oc' hj hn (heap_ne hb1) hd hoc _ hq ((k4 _).2 rfl)
        · exact orph.dis j dd hn hd q hm hq⟩
    have hget0 : ∀ (cs' : List ACell) (j : Nat), (sf.upd id (.box cs')).h.get j = if j = id then some (.box cs') else sf.h.get j := fun cs' j => by
      show AHeap.get _ j = _
      rw [AS.upd, get_upd]
      split
      · rename_i e; subst e; rw [hb1]; rfl
      · rfl
    have hund : ∀ (l : List Value) (hh : HGet) (mm : OMap), (∀ v ∈ l, v.oneCell' = true) → CellsRel hh S' w' mm (l.map fun _ => ACell.und) l := fun l hh mm ho => ⟨by simp, ho, fun i c v hc hv => by
      rw [List.getElem?_map] at hc
      cases hi : l[i]? with
      | none => rw [hi] at hc; cases hc
      | some x => rw [hi] at hc; cases hc; trivial⟩
    have honeC : ∀ v ∈ cur2.toList, v.oneCell' = true := by
      obtain ⟨c1, n1, kc⟩ := own_cells (S := S') 0 hown2
      exact (kc (AHeap.get (mutCells 0 t p).2.1) S' c1 fun i o ei => ⟨ei, rfl⟩).2.1
    generalize hCU : (cur2.toList.map fun _ => ACell.und) = CU at hund
    have hCU' : ∀ (hh : HGet) (mm : OMap), CellsRel hh S' w' mm CU cur2.toList := fun hh mm => by
      have := (⟨by simp, honeC, fun i c v hc hv => by
        rw [List.getElem?_map] at hc
        cases hi : cur2.toList[i]? with
        | none => rw [hi] at hc; cases hc
        | some x => rw [hi] at hc; cases hc; trivial⟩ : CellsRel hh S' w' mm (cur2.toList.map fun _ => ACell.und) cur2.toList)
      rw [hCU] at this
      exact this
    have hget := hget0 CU
    generalize hH0 : (sf.upd id (.box CU)).h = H0 at hget
    have hh : ∀ j, j ≠ id → AHeap.get H0 j = (sf.h.get j).map (AObj.mapC fun c => c) := fun j hj => by
      rw [hget j, if_neg hj]; cases sf.h.get j <;> simp [mapC_id]
    have selfC : ∀ {h1 h2 : HGet} {S1 S2 : Blk} {w1 w2 : World} {m1 m2 : OMap} {cs1 cs2 : List ACell}, h1 id = some (.box cs1) → h2 id = some (.box cs2) → m1 id = m2 id → ∀ c v, c.refs id = true → CellRel h1 S1 w1 m1 c v → CellRel h2 S2 w2 m2 c v := fun {h1 h2 S1 S2 w1 w2 m1 m2 cs1 cs2} hb1 hb2 hmm c v hr r => by
      cases c with
      | op j off' =>
        have := Nat.eq_of_beq_eq_true hr
        subst this
        obtain ⟨_, c, b, hc, rest⟩ := r
        exact ⟨⟨_, hb2⟩, c, b, hmm ▸ hc, rest⟩
      | os j => have := Nat.eq_of_beq_eq_true hr; subst this; obtain ⟨⟨_, _, _, hx⟩, _⟩ := r; rw [hb1] at hx; cases hx
      | oe j i off' => have := Nat.eq_of_beq_eq_true hr; subst this; obtain ⟨⟨_, _, _, hx, _⟩, _⟩ := r; rw [hb1] at hx; cases hx
      | sb j i off' e' y => have := Nat.eq_of_beq_eq_true hr; subst this; obtain ⟨_, _, hx, _⟩ := r; rw [hb1] at hx; cases hx
      | vw j k => have := Nat.eq_of_beq_eq_true hr; subst this; obtain ⟨_, hx, hnb, _⟩ := r; rw [hb1] at hx; cases hx; cases hnb
      | _ => cases hr
    have F : Carry sf.h.get (AHeap.get H0) S1 S1 w w' m m (fun c => c) :=
      carry_turnX T RF.mem hh (fun c _ => .inl rfl) (selfC hb1 (by rw [hget id, if_pos rfl]) rfl)
    have F2 : ∀ c v, CellRel sf.h.get S1 w m c v → CellRel (AHeap.get H0) S' w' m c v := fun c v r => (F.cell c v r).moreS s1
    have hne : ∀ j, AHeap.get H0 j ≠ none → sf.h.get j ≠ none := fun j hj => by
      by_cases e : j = id
      · rw [e, hb1]; simp
      · rw [hget j, if_neg e] at hj; exact hj
    have notS' : ∀ q, ¬ S1 q → q < w.heap.size → ¬ S' q := fun q h1 h2 h3 => (s2 q h3).elim h1 fun h => by omega
    have M1 : Mem (AHeap.get H0) S' w' m B M0 := by
      refine ⟨fun j ob eo => ?_, fun i j c d hij hi hj hci hdj q hq hq' => RF.mem.dis i j c d hij (hne i hi) (hne j hj) hci hdj q hq hq', fun i c hi hci q hq => ?_, fun q hq => ?_⟩
      · by_cases hj : j = id
        · subst hj
          rw [hget j, if_pos rfl] at eo
          cases eo
          exact ⟨oc', hoc, b', cur2, e2, k1, hb2, hCU' _ _, k4⟩
        · rw [hget j, if_neg hj] at eo
          obtain ⟨c1, h1, h2⟩ := RF.mem.obj j ob eo
          have hown := T.own j c1 hj (heap_ne eo) h1
          refine ⟨c1, h1, ?_⟩
          cases ob with
          | box cs => obtain ⟨b, cur, e, k1, k2, k3, k4⟩ := h2; exact ⟨b, cur, e, k1, (hown b ((k4 b).2 rfl)).trans k2, k3.imp F2, k4⟩
          | arr d t ys => exact ⟨h2.1, h2.2.mono s1 T.stay hown T.size⟩
          | src t k ys => exact ⟨h2.1, h2.2.mono hown⟩
      · have := RF.mem.apart i c (hne i hi) hci q hq
        exact ⟨notS' q this.1 this.2.1, Nat.lt_of_lt_of_le this.2.1 T.size, this.2.2⟩
      · rcases s2 q hq with h | h
        · exact Nat.lt_of_lt_of_le (RF.mem.lt q h) T.size
        · exact h.2
    have hG3 : ∀ q, G3 q → FM q := fun q hq => (hFM q).2 (.inl ((hG2 q).2 (.inr hq)))
    obtain ⟨c1, n1, kc⟩ := own_cells (S := S') (d * 16) hown2
    obtain ⟨c2, n2, hlen2, hval⟩ := put_res (mutCells (d * 16) t p).2.2 res
    have no := n1.append n2 (H := fun q => G3 q ∨ FR q) (fun q hq hq' => (f2 q hq').2.2.2 (hG3 q hq)) (fun q hq => .inl hq) (fun q hq => .inr hq)
    have hn' := Nat.le_of_ble_eq_true hn
    have left := fun {h : HGet} {mm : OMap} => Has.left (h := h) (m := mm) (b := (putRes (mutCells (d * 16) t p).2.2 rs z).2.1) (d := c2) n1
    have right := fun {h : HGet} {mm : OMap} => Has.right (h := h) (m := mm) n1 n2
    generalize (fun id => if id < (mutCells (d * 16) t p).2.2 then c1 id else c2 id : OMap) = cm at no left right
    generalize hos : (mutCells (d * 16) t p).2.1 ++ (putRes (mutCells (d * 16) t p).2.2 rs z).2.1 = os at e no left right
    have inos : ∀ id, AHeap.get os id ≠ none → d * 16 ≤ id ∧ id ≤ d * 16 + 15 := fun id hid => by have := no.ids id hid; omega
    have hidos : AHeap.get os id = none := by
      cases h4 : AHeap.get os id with
      | none => rfl
      | some o4 =>
        obtain ⟨i1, i2⟩ := inos id (heap_ne h4)
        have := hfr id i1 i2
        rw [hb1] at this
        cases this
    have hnew : ∀ j, AHeap.get os j ≠ none → AHeap.get H0 j = none := fun j hj => by
      obtain ⟨i1, i2⟩ := inos j hj
      have h0 := hfr j i1 i2
      have : j ≠ id := fun e => by rw [e, hb1] at h0; cases h0
      rw [hget j, if_neg this]
      exact h0
    have A := M1.add no hnew (fun q hq => by
      rcases hq with hq | hq
      · have := f1 q (hG3 q hq)
        refine ⟨this.2.2, this.2.1, ?_⟩
        rcases this.1 with h | h
        · exact (hMs q h).2.2
        · exact .inl (Nat.le_trans hB h)
      · exact ⟨(f2 q hq).2.2.1, (f2 q hq).2.1, .inl (Nat.le_trans hB (f2 q hq).1)⟩) (fun j dd hj hdj q hq hF => by
      have lt := (RF.mem.apart j dd (hne j hj) hdj q hF).2.1
      rcases hq with hq | hq
      · rcases (f1 q (hG3 q hq)).1 with (rfl | h) | h
        · exact hGb2 hq
        · exact orph.dis j dd (hne j hj) hdj q h hF
        · omega
      · have := (f2 q hq).1
        omega)
    have hgetF := hget0 (mutCells (d * 16) t p).1
    have hρ : (sf.upd id (.box (mutCells (d * 16) t p).1)).ρ = sf.ρ := rfl
    rw [hρ] at e
    generalize (sf.upd id (.box (mutCells (d * 16) t p).1)).h = H1 at e hgetF
    have hHF : ∀ j, AHeap.get (os ++ H1) j = if j = id then some (.box (mutCells (d * 16) t p).1) else hplus os (AHeap.get H0) j := fun j => by
      rw [get_append, hgetF j]
      by_cases hj : j = id
      · subst hj; rw [hidos]; simp
      · rw [if_neg hj, if_neg hj]; simp only [hplus, hget j, if_neg hj]
    have hm : Has os cm (AHeap.get (os ++ H1)) (addM os cm m) := fun i o ei => ⟨by rw [get_append, ei]; rfl, by simp only [addM, ei]⟩
    have hadd : addM os cm m id = some oc' := by simp only [addM, hidos]; exact hoc
    have hold : hplus os (AHeap.get H0) id = some (.box CU) := by simp only [hplus, hidos, hget id, if_pos rfl]; rfl
    have T2 : Turn (hplus os (AHeap.get H0)) S' w' w' (addM os cm m) (addM os cm m) id oc' := ⟨heap_ne hold, hadd, Nat.le_refl _, fun _ _ _ => rfl, fun _ _ => rfl⟩
    have hh2 : ∀ j, j ≠ id → AHeap.get (os ++ H1) j = (hplus os (AHeap.get H0) j).map (AObj.mapC fun c => c) := fun j hj => by
      rw [hHF j, if_neg hj]; cases hplus os (AHeap.get H0) j <;> simp [mapC_id]
    have F3 : Carry (hplus os (AHeap.get H0)) (AHeap.get (os ++ H1)) S' S' w' w' (addM os cm m) (addM os cm m) (fun c => c) :=
      carry_turn T2 A.1 hh2 (fun c _ => .inl rfl) (selfC hold (by rw [hHF id, if_pos rfl]) rfl)
    have M2 : Mem (AHeap.get (os ++ H1)) S' w' (addM os cm m) B M0 :=
      mem_turnX (c' := oc') (o' := .box (mutCells (d * 16) t p).1) (Orphan.empty _ S' w' _ B M0) T2 A.1 (Nat.le_trans hB past.size) F3 hh2 (by rw [hHF id, if_pos rfl]) hadd ⟨b', cur2, e2, k1, hb2, kc _ S' _ (left hm), k4⟩ fun q hq => .inl hq
    refine K _ _ (retV rv) w' S' (addM os cm m) e ⟨?_, ⟨M2, ?_, fun i => ?_, RF.size, RF.defers⟩, ⟨fun q hq => s1 q (hS1 q hq), past.size, fun q hq => T.stay q (hS1 q hq), fun q hq => ?_⟩, ?_, fun et => ?_⟩ fun et => ?_
    · show VRel (AHeap.get (os ++ H1)) S' w' _ _ _
      exact ret_rel hlen2 (hval _ _ (right hm))
    · refine ⟨past.os.trans RF.frm.os, past.tape.trans RF.frm.tape, past.output.trans RF.frm.output, Nat.le_trans RF.frm.size past.size, fun q hq hm => (past.block q (Nat.lt_of_lt_of_le hq hB) fun e => ?_).trans (RF.frm.block q hq hm), fun a ha => (past.fz a (Nat.lt_of_lt_of_le ha RF.frm.size)).trans (RF.frm.fz a ha), RF.frm.tab⟩
      rcases (hMs q e).2.2 with hx | hx
      · omega
      · exact hm hx
    · show VRel (AHeap.get (os ++ H1)) S' w' _ (sf.ρ.getD i (.one .und)) _
      exact (((RF.tmps i).imp F2).wider A.2 M1).imp fun c v r => F3.cell c v r
    · rcases s2 q hq with h | h
      · exact nS1 q h
      · exact .inr (.inl (Nat.le_trans hB h.1))
    · show s0.t ≤ sf.t + 2
      omega
    · have h1 : sf.t + 2 = s0.t := et
      omega
    · have h1 : sf.t + 2 = s0.t + 1 := et
      omega
  | _ => exact hob.elim
theorem aCallB_soundX [Tabs] (hG : ∀ p ∈ E.G, Sound P p.1 p.2 ∧ FnOk P p.1) (hB0 : B ≤ w0.heap.size) {s0 : AS} {a : Act} (R0 : Rel w0 B M0 S m s0 a w) {o : Oper} {c : Call} (ho : o.op = .call c) {f : Operand} (hc : c.callee = .value f) {g : FuncId} {C : FnSpec} {caps : List Cap} (hf : s0.ev f = .one (.cl g caps))
    (hl : (g, C) ∈ E.G) (hv : boxShape C.ps = true) {d : Nat} {R' : Type} {k : AVal → AS → Option R'} {r : R'} (e : aCallB s0 d C c.args.toList caps k = some r)
    {next : Act → World → Prop} {Q : Exit → Act → World → Prop} (K : ∀ v s' v' w' S' m', k v s' = some r → Moved w0 B M0 S m s0 a w v s' v' w' S' m' →
      (s'.t = s0.t + 1 → s'.ρ = s0.ρ ∧ (∀ c u, CellRel s0.h.get S w m c u → CellRel s'.h.get S' w' m' c u) ∧ ∃ id, boxId (callVals s0.ev c.args.toList caps) = some id ∧ ∀ j o, j ≠ id → s0.h.get j = some o → s'.h.get j = some o) → next (a.put o.dst v') w') : o.wp P a w next Q := by
  obtain ⟨hS, hfn⟩ := hG _ hl
  have hB : B ≤ w.heap.size := Nat.le_trans hB0 R0.frm.size
  obtain ⟨ps, rs, fn⟩ := C
  cases ps with
  | nil => cases hv
  | cons p ps =>
  cases p with
  | mbox t =>
    have hav : allVal ps = true := hv
    simp only [aCallB] at e
    obtain ⟨S1, hS1, nS1, R⟩ := Rel.frzAll (argOs (.mbox t :: ps) (callVals s0.ev c.args.toList caps)) R0
    have ts := frzAll_t (argOs (.mbox t :: ps) (callVals s0.ev c.args.toList caps)) s0
    generalize s0.frzAll (argOs (.mbox t :: ps) (callVals s0.ev c.args.toList caps)) = s at e R ts
    have hav0 : s = s0 → callVals s.ev c.args.toList caps = callVals s0.ev c.args.toList caps := fun h => by rw [h]
    have hargs : VRel s0.h.get S w m (s0.ev f) (a.eval f) := R0.ev f
    rw [hf] at hargs
    obtain ⟨ccs, hval, hcaps⟩ := hargs
    have rel : ∀ (i : Nat) (p : AVal) (u : Value), (callVals s.ev c.args.toList caps)[i]? = some p → (c.args.toList.map a.eval ++ ccs.toList)[i]? = some u → VRel s.h.get S1 w m p u := callVals_rel (fun q _ => R.ev q) (hcaps.mono hS1 (fun _ _ => rfl) (Nat.le_refl _))
    have hlen : (callVals s.ev c.args.toList caps).length = (c.args.toList.map a.eval ++ ccs.toList).length := callVals_len hcaps
    have hrun := run_call_fn (ty := o.type) (ρ := a.eval) hfn hc hval w
    have hm : (c.args.toList.map a.eval ++ ccs.toList).toArray = c.args.map a.eval ++ ccs := by
      rw [← Array.toList_map, ← Array.toList_append, Array.toArray_toList]
    have hex : (execOp a.eval o).run P w = .ok (.enter g (c.args.map a.eval ++ ccs)) w := by
      rw [← hrun]
      obtain ⟨odst, op, oty, opos, oafter, oguard⟩ := o
      simp only at ho
      subst ho
      rfl
    generalize callVals s.ev c.args.toList caps = av at e rel hlen hav0
    generalize c.args.toList.map a.eval ++ ccs.toList = us at rel hlen hm
    cases hle : (argIds (.mbox t :: ps) av).isEmpty with
    | false => rw [hle] at e; cases e
    | true =>
    rw [hle] at e
    simp only [Bool.not_true, cond_false] at e
    have hids := ids_nil hle
    cases hid : boxId av with
    | none => rw [hid] at e; cases e
    | some id =>
    rw [hid] at e
    simp only at e
    obtain ⟨vs, rfl⟩ : ∃ vs, av = .one (.op id 0) :: vs := by
      unfold boxId at hid
      split at hid
      · cases hid; exact ⟨_, rfl⟩
      · cases hid
    cases us with
    | nil => cases hlen
    | cons u0 us =>
    cases hrg : (Nat.ble (d * 16) id && Nat.ble id (d * 16 + 15)) with
    | true => rw [hrg] at e; cases e
    | false =>
    rw [hrg] at e
    simp only [cond_false] at e
    cases hx : takeArgs s.h (.mbox t :: ps) (.one (.op id 0) :: vs) with
    | none => rw [hx] at e; cases e
    | some x =>
    rw [hx] at e
    simp only [Option.bind_eq_some_iff] at e
    obtain ⟨y, hy, e⟩ := e
    unfold boxGo at e
    simp only [Option.bind_eq_some_iff] at e
    obtain ⟨z, hz, e⟩ := e
    cases hn : Nat.ble (putRes (d * 16) rs z).2.2 (d * 16 + 16) with
    | false => simp only [hn, cond_false] at e; cases e
    | true =>
    simp only [hn, cond_true] at e
    simp only [takeArgs] at hx
    cases hb0 : s.h.get id with
    | none => rw [hb0] at hx; cases hx
    | some ob =>
    rw [hb0] at hx
    cases ob with
    | arr _ _ _ => cases hx
    | src _ _ _ => cases hx
    | box cs =>
    simp only at hx
    cases hcs : (Nat.beq cs.length t.size && (idsOf cs).isEmpty) with
    | false => rw [hcs] at hx; cases hx
    | true =>
    rw [hcs] at hx
    simp only [cond_true, Option.bind_eq_some_iff, Option.some.injEq] at hx
    obtain ⟨x0, hx0, xr, hxr, rfl⟩ := hx
    simp only [Bool.and_eq_true] at hcs
    have hcl := Nat.eq_of_beq_eq_true hcs.1
    have hci := ids_nil hcs.2
    obtain ⟨_, oc, b, hoc, hov, hu0⟩ := (rel 0 _ u0 rfl rfl : CellRel s.h.get S1 w m (.op id 0) u0)
    obtain ⟨oc', hoc', b', cur, te, k1, k2, k3, k4⟩ := R.mem.obj id _ hb0
    obtain rfl : oc' = oc := Option.some.inj (hoc'.symm.trans hoc)
    rw [k1] at hov
    simp only [Value.pointer.injEq, Option.some.injEq, Addr.mk.injEq] at hov
    obtain ⟨rfl, _⟩ := hov
    have hnoids : ∀ {S : Blk} {l : List Nat}, l = [] → ∀ q, Plus m s.h.get S l q → S q := fun {S l} hl q hq => by
      rcases hq with hq | ⟨i, hi, _⟩
      · exact hq
      · rw [hl] at hi; cases hi
    have hrep : Rep S1 w t cur.toList x0 := (gather_rep (get := fun _ => none) R.mem (fun id o e => by cases e) hx0 k3 hcl).mono (hnoids hci) (fun _ _ => rfl) (Nat.le_refl _)
    have hids' : argIds ps vs = [] := hids
    have hrest : ArgsRel S1 w ps us xr (fun _ => False) := ArgsRel.mono (hnoids hids') hav (args_val R.mem hav (fun j o e hne => by
      rw [get_del] at e
      split at e
      · cases e
      · exact e) hxr (by simpa using hlen) (fun i p u h1 h2 => rel (i + 1) p u (by simpa using h1) (by simpa using h2)))
    have hbS : ¬ S1 b' ∧ b' < w.heap.size := by
      have := R.mem.apart id oc' (heap_ne hb0) hoc b' ((k4 b').2 rfl)
      exact ⟨this.1, this.2.1⟩
    unfold Oper.wp
    rw [hex, Oper.upon_enter, ← hm]
    refine Calls.mono (hS w (u0 :: us) (consD x0 xr) y S1 (fun q => q = b') (R.frm.tabs hB fun q hq => by subst hq; exact (R.mem.apart id oc' (heap_ne hb0) hoc _ ((k4 _).2 rfl)).2.2) R.mem.lt ⟨b', cur, te, us, fun _ => False, by rw [hu0], k2, by rw [headD_consD]; exact hrep, by rw [tailD_consD]; exact hrest, fun h => h, fun q => by simp⟩ (fun q hq => by subst hq; exact hbS) hy) fun ending w' hk => ?_
    obtain ⟨rv, S', FM, FR, rfl, past, s1, s2, out, f1, f2⟩ := hk
    obtain ⟨b2, cur2, e2, r2, H, hu2, hb2, hrep2, out, hHb, hFM⟩ := out
    rw [hu0] at hu2
    simp only [List.cons.injEq, Value.pointer.injEq, Option.some.injEq, Addr.mk.injEq] at hu2
    obtain ⟨⟨rfl, _⟩, rfl⟩ := hu2
    have res : ResRel S' w' rs rv z FR := out_val hav hz out
    have fr := R.fresh d
    have tf := fresh_t s d
    obtain ⟨cs1, hb1⟩ := fresh_box (d := d) hb0 hrg
    have hfr := fr.2
    generalize s.fresh d = sf at e fr tf hb1 hfr
    have RF := fr.1
    have T : Turn sf.h.get S1 w w' m m id oc' := ⟨heap_ne hb1, hoc, past.size, fun q hq hF => past.block q hq (fun e => hF ((k4 q).2 e)), fun _ _ => rfl⟩
    have hget : ∀ j, (sf.upd id (.box (flat t (headD (t := t) (ts := PK.mtys ps (RK.tys rs)) y)))).h.get j = if j = id then some (.box (flat t (headD (t := t) (ts := PK.mtys ps (RK.tys rs)) y))) else sf.h.get j := by
      intro j
      show AHeap.get _ j = _
      rw [AS.upd, get_upd]
      split
      · rename_i e; subst e; rw [hb1]; rfl
      · rfl
    have hρ : (sf.upd id (.box (flat t (headD (t := t) (ts := PK.mtys ps (RK.tys rs)) y)))).ρ = sf.ρ := rfl
    rw [hρ] at e
    generalize hH1 : (sf.upd id (.box (flat t (headD (t := t) (ts := PK.mtys ps (RK.tys rs)) y)))).h = H1 at e hget
    have hh : ∀ j, j ≠ id → AHeap.get H1 j = (sf.h.get j).map (AObj.mapC fun c => c) := fun j hj => by
      rw [hget j, if_neg hj]; cases sf.h.get j <;> simp [mapC_id]
    have F : Carry sf.h.get (AHeap.get H1) S1 S1 w w' m m (fun c => c) := by
      refine carry_turn T RF.mem hh (fun c _ => .inl rfl) (fun c v hr r => ?_)
      cases c with
      | op j off' =>
        have := Nat.eq_of_beq_eq_true hr
        subst this
        obtain ⟨_, rest⟩ := r
        exact ⟨⟨_, by rw [hget j, if_pos rfl]⟩, rest⟩
      | os j => have := Nat.eq_of_beq_eq_true hr; subst this; obtain ⟨⟨_, _, _, hx⟩, _⟩ := r; rw [hb1] at hx; cases hx
      | oe j i off' => have := Nat.eq_of_beq_eq_true hr; subst this; obtain ⟨⟨_, _, _, hx, _⟩, _⟩ := r; rw [hb1] at hx; cases hx
      | sb j i off' e' y => have := Nat.eq_of_beq_eq_true hr; subst this; obtain ⟨_, _, hx, _⟩ := r; rw [hb1] at hx; cases hx
      | vw j k => have := Nat.eq_of_beq_eq_true hr; subst this; obtain ⟨_, hx, hnb, _⟩ := r; rw [hb1] at hx; cases hx; cases hnb
      | _ => cases hr
    have F2 : ∀ c v, CellRel sf.h.get S1 w m c v → CellRel (AHeap.get H1) S' w' m c v := fun c v r => (F.cell c v r).moreS s1
    have hne : ∀ j, AHeap.get H1 j ≠ none → sf.h.get j ≠ none := fun j hj => by
      by_cases e : j = id
      · rw [e, hb1]; simp
      · rw [hget j, if_neg e] at hj; exact hj
    have notS' : ∀ q, ¬ S1 q → q < w.heap.size → ¬ S' q := fun q h1 h2 h3 => (s2 q h3).elim h1 fun h => by omega
    have M1 : Mem (AHeap.get H1) S' w' m B M0 := by
      refine ⟨fun j ob e => ?_, fun i j c d hij hi hj hci hdj q hq hq' => RF.mem.dis i j c d hij (hne i hi) (hne j hj) hci hdj q hq hq', fun i c hi hci q hq => ?_, fun q hq => ?_⟩
      · by_cases hj : j = id
        · subst hj
          rw [hget j, if_pos rfl] at e
          cases e
          exact ⟨oc', hoc, b', cur2, e2, k1, hb2, flat_rel hrep2, k4⟩
        · rw [hget j, if_neg hj] at e
          obtain ⟨c1, h1, h2⟩ := RF.mem.obj j ob e
          have hown := T.own RF.mem j c1 hj (heap_ne e) h1
          refine ⟨c1, h1, ?_⟩
          cases ob with
          | box cs => obtain ⟨b, cur, e, k1, k2, k3, k4⟩ := h2; exact ⟨b, cur, e, k1, (hown b ((k4 b).2 rfl)).trans k2, k3.imp F2, k4⟩
          | arr d t ys => exact ⟨h2.1, h2.2.mono s1 (T.stay RF.mem) hown T.size⟩
          | src t k ys => exact ⟨h2.1, h2.2.mono hown⟩
      · have := RF.mem.apart i c (hne i hi) hci q hq
        exact ⟨notS' q this.1 this.2.1, Nat.lt_of_lt_of_le this.2.1 T.size, this.2.2⟩
      · rcases s2 q hq with h | h
        · exact Nat.lt_of_lt_of_le (RF.mem.lt q h) T.size
        · exact h.2
    obtain ⟨cm, no, hlen2, hval⟩ := put_res (d * 16) res
    generalize (putRes (d * 16) rs z).1 = l at *
    generalize (putRes (d * 16) rs z).2.1 = os at *
    generalize (putRes (d * 16) rs z).2.2 = n at *
    have hn' := Nat.le_of_ble_eq_true hn
    have inos : ∀ id, AHeap.get os id ≠ none → d * 16 ≤ id ∧ id ≤ d * 16 + 15 := fun id hid => by have := no.ids id hid; omega
    have hnew : ∀ j, AHeap.get os j ≠ none → AHeap.get H1 j = none := fun j hj => by
      obtain ⟨i1, i2⟩ := inos j hj
      have h0 := hfr j i1 i2
      have : j ≠ id := fun e => by rw [e, hb1] at h0; cases h0
      rw [hget j, if_neg this]
      exact h0
    have A := M1.add no hnew (fun q hq => ⟨(f2 q hq).2.2.1, (f2 q hq).2.1, .inl (Nat.le_trans hB (f2 q hq).1)⟩) (fun j dd hj hdj q hq hF => by
      have := (RF.mem.apart j dd (hne j hj) hdj q hF).2.1
      have := (f2 q hq).1
      omega)
    refine K _ _ (retV rv) w' S' (addM os cm m) e ⟨?_, ⟨?_, ?_, fun i => ?_, RF.size, RF.defers⟩, ⟨fun q hq => s1 q (hS1 q hq), past.size, fun q hq => T.stay RF.mem q (hS1 q hq), fun q hq => ?_⟩, ?_, fun et => ?_⟩ fun et => ?_
    · show VRel (AHeap.get (os ++ H1)) S' w' _ _ _
      rw [get_plus]
      exact ret_rel hlen2 (hval _ _ fun id ob e => ⟨by simp only [hplus, e, Option.some_or], by simp only [addM, e]⟩)
    · show Mem (AHeap.get (os ++ H1)) S' w' _ B M0
      rw [get_plus]
      exact A.1
    · refine ⟨past.os.trans RF.frm.os, past.tape.trans RF.frm.tape, past.output.trans RF.frm.output, Nat.le_trans RF.frm.size past.size, fun q hq hm => (past.block q (Nat.lt_of_lt_of_le hq hB) fun e => ?_).trans (RF.frm.block q hq hm), fun a ha => (past.fz a (Nat.lt_of_lt_of_le ha RF.frm.size)).trans (RF.frm.fz a ha), RF.frm.tab⟩
      subst e
      rcases (RF.mem.apart id oc' (heap_ne hb1) hoc q ((k4 q).2 rfl)).2.2 with hx | hx
      · omega
      · exact hm hx
    · show VRel (AHeap.get (os ++ H1)) S' w' _ (sf.ρ.getD i (.one .und)) _
      rw [get_plus]
      exact ((RF.tmps i).imp F2).wider A.2 M1
    · rcases s2 q hq with h | h
      · exact nS1 q h
      · exact .inr (.inl (Nat.le_trans hB h.1))
    · show s0.t ≤ sf.t + 1
      omega
    · have h1 : sf.t + 1 = s0.t := et
      omega
    · have h1 : sf.t + 1 = s0.t + 1 := et
      have e2 : s = s0 := ts.2 (by omega)
      have e1 : sf = s := tf.2 (by omega)
      subst e1
      subst e2
      refine ⟨rfl, fun c u r => ?_, id, ?_, fun j ob hj hob => ?_⟩
      · show CellRel (AHeap.get (os ++ H1)) S' w' _ c u
        rw [get_plus]
        exact CellRel.wider A.2 M1 (F2 c u (r.moreS hS1))
      · rw [← hav0 rfl]; exact hid
      · show AHeap.get (os ++ H1) j = some ob
        rw [get_append]
        have h3 : AHeap.get H1 j = some ob := by rw [hget j, if_neg hj]; exact hob
        cases h4 : AHeap.get os j with
        | none => rw [h3]; rfl
        | some o4 => have := hnew j (heap_ne h4); rw [h3] at this; cases this
  | obox t => exact aCallO_soundX hG hB0 R0 ho hc hf hl hv trivial e K
  | _ => cases hv
theorem aCallB_sound [Tabs] (hG : ∀ p ∈ E.G, Sound P p.1 p.2 ∧ FnOk P p.1) (hB0 : B ≤ w0.heap.size) {s0 : AS} {a : Act} (R0 : Rel w0 B M0 S m s0 a w) {o : Oper} {c : Call} (ho : o.op = .call c) {f : Operand} (hc : c.callee = .value f) {g : FuncId} {C : FnSpec} {caps : List Cap} (hf : s0.ev f = .one (.cl g caps))
    (hl : (g, C) ∈ E.G) (hv : boxShape C.ps = true) {d : Nat} {R' : Type} {k : AVal → AS → Option R'} {r : R'} (e : aCallB s0 d C c.args.toList caps k = some r)
    {next : Act → World → Prop} {Q : Exit → Act → World → Prop} (K : ∀ v s' v' w' S' m', k v s' = some r → Moved w0 B M0 S m s0 a w v s' v' w' S' m' → next (a.put o.dst v') w') : o.wp P a w next Q :=
  aCallB_soundX hG hB0 R0 ho hc hf hl hv e fun v s' v' w' S' m' hk M _ => K v s' v' w' S' m' hk M
theorem run_equalIn_nil {t te : TypeId} (hu : P.underlying t = some (.slice te)) (d : Nat) (o : Option Addr) (n c : Nat) : (Op.equalIn (d + 1) t (.slice o n c) (.slice none 0 0)).run P w = .ok o.isNone w := by
  unfold Op.equalIn
  cases o <;> simp [run_underlying hu]
theorem run_eqGuard_slice (op : BinOp) (t : TypeId) (x y : Operand) (o : Option Addr) (n c : Nat) : (eqGuard op t x y (.slice o n c) (.slice none 0 0)).run P w = .ok () w := by
  unfold eqGuard; cases op <;> rfl
theorem run_nilCmp [Tabs] {op : BinOp} (ho : op = .eql ∨ op = .neq) {t te : TypeId} (hu : P.underlying t = some (.slice te)) (o : Option Addr) (n c : Nat) : (binOp op t (.slice o n c) (.slice none 0 0)).run P w = .ok (.bool (nilOp op o.isNone)) w := by
  have := run_equalIn_nil (P := P) (w := w) hu 9999 o n c
  rcases ho with rfl | rfl
  · show (do pure (.bool (← Op.equal t (.slice o n c) (.slice none 0 0))) : Sem Value).run P w = _
    simp only [Sem.run_bind, Op.equal, Op.maxDepth, this, Result.andThen_ok, Sem.run_pure]
    rfl
  · show (do pure (.bool (!(← Op.equal t (.slice o n c) (.slice none 0 0)))) : Sem Value).run P w = _
    simp only [Sem.run_bind, Op.equal, Op.maxDepth, this, Result.andThen_ok, Sem.run_pure]
    rfl
theorem bothSame_spec {R : Type} {a b : Option R} {r : R} (h : bothSame a b = some r) : a = some r ∧ b = some r := by
  unfold bothSame at h
  split at h
  · rename_i e; exact ⟨h, e ▸ h⟩
  · cases h
theorem isNilCmp_spec {s : AS} {op : BinOp} {t : TypeId} {x y : Operand} (h : isNilCmp E s op t x y = true) : (op = .eql ∨ op = .neq) ∧ (∃ u, look E.T t = some (.slice u)) ∧ (∃ u xs, s.ev x = .one (.pv (.slice u) xs)) ∧ y = .const (.slice none 0 0) := by
  unfold isNilCmp at h
  split at h
  · rename_i h1 h2; exact ⟨.inl rfl, ⟨_, h1⟩, ⟨_, _, h2⟩, rfl⟩
  · rename_i h1 h2; exact ⟨.inr rfl, ⟨_, h1⟩, ⟨_, _, h2⟩, rfl⟩
  · cases h
theorem aNil_t [Tabs] {s : AS} {op : BinOp} {x : Operand} {R : Type} {k : AVal → AS → Option R} {r : R} (e : aNil s op x k = some r) : ∃ v s', k v s' = some r ∧ s.t < s'.t := by
  unfold aNil at e
  split at e
  · rename_i u xs hx
    cases hxs : xs.isEmpty with
    | true => rw [hxs] at e; exact ⟨_, _, (bothSame_spec e).1, Nat.lt_succ_self _⟩
    | false => rw [hxs] at e; exact ⟨_, _, e, Nat.lt_succ_self _⟩
  · cases e
theorem aNil_sound [Tabs] (hT : ∀ p ∈ E.T, tyOk P p.1 p.2 = true) {s : AS} {a : Act} (R : Rel w0 B M0 S m s a w) {o : Oper} {op : BinOp} {t t' : TypeId} {x y : Operand} (ho : o.op = .binOp op t x y t') (hn : isNilCmp E s op t x y = true) {R' : Type} {k : AVal → AS → Option R'} {r : R'} (e : aNil s op x k = some r)
    {next : Act → World → Prop} {Q : Exit → Act → World → Prop} (K : ∀ v s' v' w' S' m', k v s' = some r → Moved w0 B M0 S m s a w v s' v' w' S' m' → next (a.put o.dst v') w') : o.wp P a w next Q := by
  obtain ⟨hop, ⟨u, hl⟩, ⟨u', xs, hx⟩, hy⟩ := isNilCmp_spec hn
  obtain ⟨te, i, z, hu, _⟩ := slice_ty (hT _ (look_mem hl))
  have hxr := R.ev x
  rw [hx] at hxr
  have hyv : a.eval y = .slice none 0 0 := by rw [hy]; rfl
  obtain ⟨_, hlen, hr⟩ := (hxr : CellRel s.h.get S w m (.pv (.slice u') xs) (a.eval x))
  have go : ∀ (oo : Option Addr) (n c : Nat), a.eval x = .slice oo n c → k (.one (.pv .bool (nilOp op oo.isNone))) { s with t := s.t + 1 } = some r → o.wp P a w next Q := fun oo n c hxv hk => by
    refine wp_value (v' := .bool (nilOp op oo.isNone)) (w' := w) ?_ (K _ _ _ w S m hk ⟨pv_bool _, ⟨R.mem, R.frm, R.tmps, R.size, R.defers⟩, Ext.refl B M0 S w, Nat.le_succ _, fun et => by have : s.t + 1 = s.t := et; omega⟩)
    obtain ⟨odst, oop, oty, opos, oafter, oguard⟩ := o
    simp only at ho
    subst ho
    simp only [execOp, hxv, hyv, Sem.run_bind, run_eqGuard_slice, Result.andThen_ok, run_nilCmp hop hu, Sem.run_pure]
  unfold aNil at e
  rw [hx] at e
  simp only at e
  rcases hr with ⟨hv, rfl⟩ | ⟨ad, cap, hv, _⟩
  · simp only [List.cons.injEq, and_true] at hv
    exact go none 0 0 hv (bothSame_spec (by simpa using e)).1
  · simp only [List.cons.injEq, and_true] at hv
    refine go (some ad) _ _ hv ?_
    cases hxs : xs.isEmpty with
    | true => rw [hxs] at e; exact (bothSame_spec (by simpa using e)).2
    | false => rw [hxs] at e; simpa using e
theorem pickB_spec {n : Int} {R : Type} {k : Nat → Option R} {r : R} : ∀ {j : Nat}, pickB n k j = some r → ∃ i, i < j ∧ n = (i : Int) ∧ k i = some r
  | 0, h => by cases h
  | j + 1, h => by
    unfold pickB at h
    by_cases hn : n = (j : Int)
    · rw [decide_eq_true hn] at h
      exact ⟨j, Nat.lt_succ_self _, hn, h⟩
    · rw [decide_eq_false hn] at h
      obtain ⟨i, h1, h2, h3⟩ := pickB_spec (j := j) h
      exact ⟨i, Nat.lt_succ_of_lt h1, h2, h3⟩
theorem aIdxB_spec [Tabs] {s : AS} {st : TypeId} {x i : Operand} {R : Type} {k : AVal → AS → Option R} {r : R} (e : aIdxB E s st x i k = some r) :
    ∃ u id off q n p j, look E.T st = some u ∧ s.ev x = .one (.op id off) ∧ s.ev i = .one (.pv (.int q) n) ∧ arrIn u = some p ∧ j < p.1 ∧ n = (j : Int) ∧ k (.one (.op id (off + j * p.2.size))) { s with t := s.t + 1 } = some r := by
  unfold aIdxB at e
  split at e
  · rename_i u id off q n h1 h2 h3
    split at e
    · rename_i p hp
      obtain ⟨j, hj, hn, hk⟩ := pickB_spec e
      exact ⟨u, id, off, q, n, p, j, h1, h2, h3, hp, hj, hn, hk⟩
    · cases e
  · cases e
theorem aIdxB_t [Tabs] {s : AS} {st : TypeId} {x i : Operand} {R : Type} {k : AVal → AS → Option R} {r : R} (e : aIdxB E s st x i k = some r) : ∃ v s', k v s' = some r ∧ s.t < s'.t := by
  obtain ⟨u, id, off, q, n, p, j, h1, h2, h3, hp, hj, hn, hk⟩ := aIdxB_spec e
  exact ⟨_, _, hk, Nat.lt_succ_self _⟩
theorem aIdxB_sound [Tabs] (hT : ∀ p ∈ E.T, tyOk P p.1 p.2 = true) {s : AS} {a : Act} (R : Rel w0 B M0 S m s a w) {o : Oper} {st : TypeId} {x i : Operand} (ho : o.op = .indexAddr st x i) {R' : Type} {k : AVal → AS → Option R'} {r : R'} (e : aIdxB E s st x i k = some r)
    {next : Act → World → Prop} {Q : Exit → Act → World → Prop} (K : ∀ v s' v' w' S' m', k v s' = some r → Moved w0 B M0 S m s a w v s' v' w' S' m' → next (a.put o.dst v') w') : o.wp P a w next Q := by
  obtain ⟨u, id, off, q, n, p, j, h1, h2, h3, hp, hj, hn, hk⟩ := aIdxB_spec e
  have hx := R.ev x
  have hi := R.ev i
  rw [h2] at hx
  rw [h3] at hi
  obtain ⟨hob, c, b, e1, e2, e3⟩ := (hx : CellRel s.h.get S w m (.op id off) (a.eval x))
  have hiv := (inv_int (h := s.h.get) (S := S) (w := w) (m := m) hi).1
  have hrun := run_indexAtA (P := P) (w := w) (k := q) (b := b) (o := off) (n := (j : Int)) (hT _ (look_mem h1)) hp (by omega) (by omega)
  rw [Int.toNat_natCast] at hrun
  have hiv : a.eval i = .int q (j : Int) := hiv.trans (by rw [hn])
  refine wp_value (v' := .pointer (some ⟨b, off + j * p.2.size, none⟩)) (w' := w) ?_ (K _ _ _ w S m hk ⟨⟨hob, c, b, e1, e2, rfl⟩, ⟨R.mem, R.frm, R.tmps, R.size, R.defers⟩, Ext.refl B M0 S w, Nat.le_succ _, fun et => by have : s.t + 1 = s.t := et; omega⟩)
  obtain ⟨odst, oop, oty, opos, oafter, oguard⟩ := o
  simp only at ho
  subst ho
  simp only [execOp, e3, hiv, Sem.run_bind, hrun, Result.andThen_ok, Sem.run_pure]
theorem aIdxV_spec [Tabs] {s : AS} {st : TypeId} {x i : Operand} {R : Type} {k : AVal → AS → Option R} {r : R} (hv : isIdxV E s st x i = true) (e : aIdxV E s st x i k = some r) :
    ∃ u cs q n p j, look E.T st = some u ∧ s.ev x = .ag cs ∧ s.ev i = .one (.pv (.int q) n) ∧ arrIn u = some p ∧ j < p.1 ∧ n = (j : Int) ∧ p.1 * p.2.size ≤ cs.length ∧ k (valOf p.2.isAgg ((cs.drop (j * p.2.size)).take p.2.size)) { s with t := s.t + 1 } = some r := by
  unfold aIdxV at e
  split at e
  · rename_i u cs q n h1 h2 h3
    split at e
    · rename_i p hp
      obtain ⟨j, hj, hn, hk⟩ := pickB_spec e
      unfold isIdxV at hv
      simp only [h1, h2, h3, hp] at hv
      exact ⟨u, cs, q, n, p, j, h1, h2, h3, hp, hj, hn, Nat.le_of_ble_eq_true hv, hk⟩
    · cases e
  · cases e
theorem aIdxV_t [Tabs] {s : AS} {st : TypeId} {x i : Operand} {R : Type} {k : AVal → AS → Option R} {r : R} (hv : isIdxV E s st x i = true) (e : aIdxV E s st x i k = some r) : ∃ v s', k v s' = some r ∧ s.t < s'.t := by
  obtain ⟨u, cs, q, n, p, j, h1, h2, h3, hp, hj, hn, hl, hk⟩ := aIdxV_spec hv e
  exact ⟨_, _, hk, Nat.lt_succ_self _⟩
theorem aIdxV_sound [Tabs] (hT : ∀ p ∈ E.T, tyOk P p.1 p.2 = true) {s : AS} {a : Act} (R : Rel w0 B M0 S m s a w) {o : Oper} {st : TypeId} {x i : Operand} (ho : o.op = .index st x i) (hv : isIdxV E s st x i = true) {R' : Type} {k : AVal → AS → Option R'} {r : R'} (e : aIdxV E s st x i k = some r)
    {next : Act → World → Prop} {Q : Exit → Act → World → Prop} (K : ∀ v s' v' w' S' m', k v s' = some r → Moved w0 B M0 S m s a w v s' v' w' S' m' → next (a.put o.dst v') w') : o.wp P a w next Q := by
  obtain ⟨u, cs, q, n, p, j, h1, h2, h3, hp, hj, hn, hl, hk⟩ := aIdxV_spec hv e
  have hx := R.ev x
  have hi := R.ev i
  rw [h2] at hx
  rw [h3] at hi
  obtain ⟨vs, hxv, kc⟩ := (hx : VRel s.h.get S w m (.ag cs) (a.eval x))
  have hlen := kc.1
  have hle : j * p.2.size + p.2.size ≤ p.1 * p.2.size := by
    have := Nat.mul_le_mul_right p.2.size (Nat.succ_le_of_lt hj)
    rw [Nat.succ_mul] at this
    exact this
  have hl2 : j * p.2.size + p.2.size ≤ vs.size := by simp at hlen; omega
  have hiv := (inv_int (h := s.h.get) (S := S) (w := w) (m := m) hi).1
  have hiv : a.eval i = .int q (j : Int) := hiv.trans (by rw [hn])
  have hrun := run_indexV (P := P) (w := w) (k := q) (hT _ (look_mem h1)) hp hj hl2
  refine wp_value (v' := valV p.2.isAgg ((vs.toList.drop (j * p.2.size)).take p.2.size)) (w' := w) ?_ (K _ _ _ w S m hk ⟨valOf_rel ((kc.drop _).take _) (valV_len (n := p.2.size) (by simp; omega) size_one), ⟨R.mem, R.frm, R.tmps, R.size, R.defers⟩, Ext.refl B M0 S w, Nat.le_succ _, fun et => by have : s.t + 1 = s.t := et; omega⟩)
  obtain ⟨odst, oop, oty, opos, oafter, oguard⟩ := o
  simp only at ho
  subst ho
  simp only [execOp, hxv, hiv, Sem.run_bind, hrun, Result.andThen_ok, Sem.run_pure]
theorem own_snoc {w : World} : ∀ {t : Ty} {cs : List Value} {x : t.den} {F : Blk} {v : Value}, listT t = true → v.oneCell' = true → Own w t cs x F → Own w (snocT t .raw) (cs ++ [v]) (snocD t x .raw v) F
  | .unit, cs, x, F, v, _, hv, o => by
    obtain ⟨rfl, hF⟩ := o
    exact ⟨[v], [], fun _ => False, fun _ => False, rfl, ⟨⟨rfl, hv⟩, fun _ h => h⟩, ⟨rfl, fun _ h => h⟩, fun _ h => h.elim, fun q => ⟨fun h => (hF q h).elim, fun h => h.elim (fun h => h.elim) fun h => h.elim⟩⟩
  | .pair a b, cs, x, F, v, hl, hv, o => by
    obtain ⟨c, d, G, H, rfl, o1, o2, h3, h4⟩ := o
    exact ⟨c, d ++ [v], G, H, by rw [List.append_assoc], o1, own_snoc (t := b) hl hv o2, h3, h4⟩
theorem own_unsnoc {w : World} : ∀ {t : Ty} {cs : List Value} {x : t.den} {F : Blk} {v : Value}, listT t = true → Own w (snocT t .raw) cs (snocD t x .raw v) F → ∃ ds, cs = ds ++ [v] ∧ Own w t ds x F
  | .unit, cs, x, F, v, _, o => by
    obtain ⟨c, d, G, H, rfl, ⟨⟨rfl, _⟩, hG⟩, ⟨rfl, hH⟩, _, h4⟩ := o
    exact ⟨[], rfl, rfl, fun q hq => ((h4 q).1 hq).elim (hG q) (hH q)⟩
  | .pair a b, cs, x, F, v, hl, o => by
    obtain ⟨c, d, G, H, rfl, o1, o2, h3, h4⟩ := o
    obtain ⟨ds, rfl, o3⟩ := own_unsnoc (t := b) hl o2
    exact ⟨c ++ ds, by rw [List.append_assoc], c, ds, G, H, rfl, o1, o3, h3, h4⟩
def KOk [Tabs] (P : Program) (f : FuncId) (K : KFn) : Prop := ∃ fn : dens (PK.tys (.obox (snocT K.t .raw) :: K.ps)) → Option (dens (PK.mtys (.obox (snocT K.t .raw) :: K.ps) (RK.tys K.rs))), Sound P f ⟨.obox (snocT K.t .raw) :: K.ps, K.rs, fn⟩ ∧
  ∀ (v : Value) (x : dens (PK.tys (.obox K.t :: K.ps))) (r : dens (PK.mtys (.obox K.t :: K.ps) (RK.tys K.rs))), K.fn x = some r → fn (consD (t := snocT K.t .raw) (ts := PK.tys K.ps) (snocD K.t (headD (t := K.t) (ts := PK.tys K.ps) x) .raw v) (tailD (t := K.t) (ts := PK.tys K.ps) x)) = some (consD (t := snocT K.t .raw) (ts := PK.mtys K.ps (RK.tys K.rs)) (snocD K.t (headD (t := K.t) (ts := PK.mtys K.ps (RK.tys K.rs)) r) .raw v) (tailD (t := K.t) (ts := PK.mtys K.ps (RK.tys K.rs)) r))
theorem aCallK_sound [Tabs] (hB0 : B ≤ w0.heap.size) {s0 : AS} {a : Act} (R0 : Rel w0 B M0 S m s0 a w) {o : Oper} {c : Call} (ho : o.op = .call c) {f : Operand} (hc : c.callee = .value f) {g : FuncId} {K : KFn} {caps : List Cap} (hf : s0.ev f = .one (.cl g caps))
    (hK : KOk P g K ∧ FnOk P g) {d : Nat} {R' : Type} {k : AVal → AS → Option R'} {r : R'} (e : aCallK s0 d K c.args.toList caps k = some r)
    {next : Act → World → Prop} {Q : Exit → Act → World → Prop} (KK : ∀ v s' v' w' S' m', k v s' = some r → Moved w0 B M0 S m s0 a w v s' v' w' S' m' → next (a.put o.dst v') w') : o.wp P a w next Q := by
  obtain ⟨⟨fn, hS, hpar⟩, hfn⟩ := hK
  have hB : B ≤ w.heap.size := Nat.le_trans hB0 R0.frm.size
  obtain ⟨t, ps, rs, kfn⟩ := K
  simp only at fn hS hpar
  unfold aCallK at e
  simp only at e
  cases hvl : (allVal ps && listT t) with
  | false => rw [hvl] at e; cases e
  | true =>
  rw [hvl] at e
  simp only [Bool.not_true, cond_false] at e
  simp only [Bool.and_eq_true] at hvl
  obtain ⟨hav, hlt⟩ := hvl
  obtain ⟨S1, hS1, nS1, R⟩ := Rel.frzAll (argOs (.obox t :: ps) (callVals s0.ev c.args.toList caps)) R0
  have ts := frzAll_t (argOs (.obox t :: ps) (callVals s0.ev c.args.toList caps)) s0
  generalize s0.frzAll (argOs (.obox t :: ps) (callVals s0.ev c.args.toList caps)) = s at e R ts
  have hav0 : s = s0 → callVals s.ev c.args.toList caps = callVals s0.ev c.args.toList caps := fun h => by rw [h]
  have hargs : VRel s0.h.get S w m (s0.ev f) (a.eval f) := R0.ev f
  rw [hf] at hargs
  obtain ⟨ccs, hval, hcaps⟩ := hargs
  have rel : ∀ (i : Nat) (p : AVal) (u : Value), (callVals s.ev c.args.toList caps)[i]? = some p → (c.args.toList.map a.eval ++ ccs.toList)[i]? = some u → VRel s.h.get S1 w m p u := callVals_rel (fun q _ => R.ev q) (hcaps.mono hS1 (fun _ _ => rfl) (Nat.le_refl _))
  have hlen : (callVals s.ev c.args.toList caps).length = (c.args.toList.map a.eval ++ ccs.toList).length := callVals_len hcaps
  have hrun := run_call_fn (ty := o.type) (ρ := a.eval) hfn hc hval w
  have hm : (c.args.toList.map a.eval ++ ccs.toList).toArray = c.args.map a.eval ++ ccs := by
    rw [← Array.toList_map, ← Array.toList_append, Array.toArray_toList]
  have hex : (execOp a.eval o).run P w = .ok (.enter g (c.args.map a.eval ++ ccs)) w := by
    rw [← hrun]
    obtain ⟨odst, op, oty, opos, oafter, oguard⟩ := o
    simp only at ho
    subst ho
    rfl
  generalize callVals s.ev c.args.toList caps = av at e rel hlen hav0
  generalize c.args.toList.map a.eval ++ ccs.toList = us at rel hlen hm
  cases hle : (argIds (.obox t :: ps) av).isEmpty with
  | false => rw [hle] at e; cases e
  | true =>
  rw [hle] at e
  simp only [Bool.not_true, cond_false] at e
  have hids := ids_nil hle
  generalize hav' : av = av' at e
  cases av' with
  | nil => cases e
  | cons a0 vs =>
  subst hav'
  split at e
  rotate_left
  · cases e
  rename_i id vs' heq
  simp only [List.cons.injEq] at heq
  obtain ⟨rfl, rfl⟩ := heq
  cases us with
  | nil => cases hlen
  | cons u0 us =>
  cases hrg : (Nat.ble (d * 16) id && Nat.ble id (d * 16 + 15)) with
  | true => rw [hrg] at e; cases e
  | false =>
  rw [hrg] at e
  simp only [cond_false] at e
  cases hb0 : s.h.get id with
  | none => rw [hb0] at e; cases e
  | some ob =>
  rw [hb0] at e
  cases ob with
  | arr _ _ _ => cases e
  | src _ _ _ => cases e
  | box cs =>
  simp only at e
  cases hcs : (Nat.beq cs.length (t.size + 1) && deepIn (s.h.del id) (cs.take t.size)) with
  | false => rw [hcs] at e; cases e
  | true =>
  rw [hcs] at e
  simp only [cond_true, Option.bind_eq_some_iff] at e
  obtain ⟨x0, hx0, xr, hxr, y, hy, e⟩ := e
  simp only [Bool.and_eq_true] at hcs
  have hcl := Nat.eq_of_beq_eq_true hcs.1
  obtain ⟨dn, dobj0, dc⟩ := deepIn_spec hcs.2
  have dobj : ∀ i ∈ osIn (cs.take t.size), i ≠ id ∧ ∃ t xs, s.h.get i = some (.arr true t xs) := fun i hi => by
    obtain ⟨t', xs, h1⟩ := dobj0 i hi
    rw [get_del] at h1
    by_cases e1 : i = id
    · rw [if_pos e1] at h1; cases h1
    · rw [if_neg e1] at h1; exact ⟨e1, t', xs, h1⟩
  unfold kboxGo at e
  rw [hb0] at e
  simp only at e
  obtain ⟨_, oc, b, hoc, hov, hu0⟩ := (rel 0 _ u0 rfl rfl : CellRel s.h.get S1 w m (.op id 0) u0)
  obtain ⟨oc', hoc', b', cur, te, k1, k2, k3, k4⟩ := R.mem.obj id _ hb0
  obtain rfl : oc' = oc := Option.some.inj (hoc'.symm.trans hoc)
  rw [k1] at hov
  simp only [Value.pointer.injEq, Option.some.injEq, Addr.mk.injEq] at hov
  obtain ⟨rfl, _⟩ := hov
  have hnoids : ∀ {S : Blk} {l : List Nat}, l = [] → ∀ q, Plus m s.h.get S l q → S q := fun {S l} hl q hq => by
    rcases hq with hq | ⟨i, hi, _⟩
    · exact hq
    · rw [hl] at hi; cases hi
  have hcurl : cur.toList.length = t.size + 1 := by rw [← k3.1]; exact hcl
  have hownA : Own w t (cur.toList.take t.size) x0 (OsBlk m (cs.take t.size)) := deep_own R.mem (get := s.h.get) (fun _ _ e => e) dn (fun i hi => (dobj i hi).2) dc hx0 (k3.take t.size) (by simp; omega)
  obtain ⟨vj, hvj⟩ : ∃ vj, cur.toList.drop t.size = [vj] := List.length_eq_one_iff.1 (by simp at hcurl ⊢; omega)
  have hvc : vj.oneCell' = true := k3.2.1 vj (List.mem_of_mem_drop (hvj ▸ List.mem_singleton.2 rfl))
  have hown0 : Own w (snocT t .raw) cur.toList (snocD t x0 .raw vj) (OsBlk m (cs.take t.size)) := by
    have := own_snoc hlt hvc hownA
    rwa [← hvj, List.take_append_drop] at this
  have hGb : ¬ OsBlk m (cs.take t.size) b' := fun ⟨i, hi, c, hc, hF⟩ => by
    obtain ⟨h1, t', xs, h2⟩ := dobj i hi
    exact R.mem.dis i id c oc' h1 (heap_ne h2) (heap_ne hb0) hc hoc b' hF ((k4 b').2 rfl)
  have hids' : argIds ps vs = [] := hids
  have hrest : ArgsRel S1 w ps us xr (fun _ => False) := ArgsRel.mono (hnoids hids') hav (args_val R.mem hav (fun j o e hne => by
    have e := dels_sub e
    rw [get_del] at e
    split at e
    · cases e
    · exact e) hxr (by simpa using hlen) (fun i p u h1 h2 => rel (i + 1) p u (by simpa using h1) (by simpa using h2)))
  have orph0 := Orphan.moved R.mem (cs := cs.take t.size) (fun i hi => by obtain ⟨_, _, _, h⟩ := dobj i hi; exact heap_ne h)
  have hMs : ∀ q, (q = b' ∨ OsBlk m (cs.take t.size) q) → ¬ S1 q ∧ q < w.heap.size ∧ (B ≤ q ∨ M0 q) := fun q hq => by
    rcases hq with rfl | hq
    · exact R.mem.apart id oc' (heap_ne hb0) hoc _ ((k4 _).2 rfl)
    · exact orph0.free q hq
  unfold Oper.wp
  rw [hex, Oper.upon_enter, ← hm]
  refine Calls.mono (hS w (u0 :: us) (consD (t := snocT t .raw) (ts := PK.tys ps) (snocD t x0 .raw vj) xr) _ S1 (fun q => q = b' ∨ OsBlk m (cs.take t.size) q) (R.frm.tabs hB fun q hq => (hMs q hq).2.2) R.mem.lt ⟨u0, us, fun q => q = b' ∨ OsBlk m (cs.take t.size) q, fun _ => False, rfl, ⟨b', cur, te, OsBlk m (cs.take t.size), hu0, k2, by rw [headD_consD]; exact hown0, hGb, fun q => Iff.rfl⟩, by rw [tailD_consD]; exact hrest, fun _ _ h => h.elim, fun q => by simp⟩ (fun q hq => ⟨(hMs q hq).1, (hMs q hq).2.1⟩) (by have := hpar vj (consD x0 xr) y hy; rwa [headD_consD, tailD_consD] at this)) fun ending w' hk => ?_
  obtain ⟨rv, S', FM, FR, rfl, past, s1, s2, out, f1, f2⟩ := hk
  obtain ⟨v2, r2, G2, H, hu2, ⟨b2, cur2, e2, G3, hv2, hb2, hown2, hGb2, hG2⟩, out, hdis2, hFM⟩ := out
  simp only [List.cons.injEq] at hu2
  obtain ⟨rfl, rfl⟩ := hu2
  rw [hu0] at hv2
  simp only [Value.pointer.injEq, Option.some.injEq, Addr.mk.injEq] at hv2
  obtain ⟨rfl, _⟩ := hv2
  rw [headD_consD] at hown2
  obtain ⟨cs3, hcs3, hown2⟩ := own_unsnoc hlt hown2
  rw [tailD_consD] at out
  have R1 := R.killL (osIn (cs.take t.size))
  have tk := killL_t (osIn (cs.take t.size)) s
  obtain ⟨cs2, hb2'⟩ := killL_box (osIn (cs.take t.size)) s hb0 (fun h => (dobj id h).1 rfl)
  have fr := R1.fresh d
  have tf := fresh_t (s.killL (osIn (cs.take t.size))) d
  obtain ⟨cs1, hb1⟩ := fresh_box (d := d) hb2' hrg
  have hfr := fr.2
  have RF := fr.1
  have orph := orph0.less (fun _ h => h) (fun j h => fresh_ne (s.killL (osIn (cs.take t.size))) d j h)
  generalize (s.killL (osIn (cs.take t.size))).fresh d = sf at e fr tf hb1 hfr RF orph
  rw [hb1] at e
  simp only [Option.bind_eq_some_iff] at e
  obtain ⟨z, hz, e⟩ := e
  have res : ResRel S' w' rs rv z FR := out_val hav hz out
  generalize hp : headD (t := t) (ts := PK.mtys ps (RK.tys rs)) y = p at e hown2
  cases hn : Nat.ble (putRes (mutCells (d * 16) t p).2.2 rs z).2.2 (d * 16 + 16) with
  | false => simp only [hn, cond_false] at e; cases e
  | true =>
  simp only [hn, cond_true] at e
  have T : TurnX sf.h.get S1 w w' m m id := ⟨past.size, fun _ _ => rfl, fun q hq => past.block q (RF.mem.lt q hq) fun hm => (hMs q hm).1 hq,
    fun j dd hj hn hd q hq => past.block q (RF.mem.apart j dd hn hd q hq).2.1 fun hm => by
      rcases hm with rfl | hm
      · exact RF.mem.dis j id dd oc' hj hn (heap_ne hb1) hd hoc _ hq ((k4 _).2 rfl)
      · exact orph.dis j dd hn hd q hm hq⟩
  have hget0 : ∀ (cs' : List ACell) (j : Nat), (sf.upd id (.box cs')).h.get j = if j = id then some (.box cs') else sf.h.get j := fun cs' j => by
    show AHeap.get _ j = _
    rw [AS.upd, get_upd]
    split
    · rename_i e; subst e; rw [hb1]; rfl
    · rfl
  have hund : ∀ (l : List Value) (hh : HGet) (mm : OMap), (∀ v ∈ l, v.oneCell' = true) → CellsRel hh S' w' mm (l.map fun _ => ACell.und) l := fun l hh mm ho => ⟨by simp, ho, fun i c v hc hv => by
    rw [List.getElem?_map] at hc
    cases hi : l[i]? with
    | none => rw [hi] at hc; cases hc
    | some x => rw [hi] at hc; cases hc; trivial⟩
  have honeC : ∀ v ∈ cur2.toList, v.oneCell' = true := by
    obtain ⟨c1, n1, kc⟩ := own_cells (S := S') 0 hown2
    have h3 := (kc (AHeap.get (mutCells 0 t p).2.1) S' c1 fun i o ei => ⟨ei, rfl⟩).2.1
    rw [hcs3]
    intro v hv
    rcases List.mem_append.1 hv with h | h
    · exact h3 v h
    · rw [List.mem_singleton.1 h]; exact hvc
  generalize hCU : (cur2.toList.map fun _ => ACell.und) = CU at hund
  have hCU' : ∀ (hh : HGet) (mm : OMap), CellsRel hh S' w' mm CU cur2.toList := fun hh mm => by
    have := (⟨by simp, honeC, fun i c v hc hv => by
      rw [List.getElem?_map] at hc
      cases hi : cur2.toList[i]? with
      | none => rw [hi] at hc; cases hc
      | some x => rw [hi] at hc; cases hc; trivial⟩ : CellsRel hh S' w' mm (cur2.toList.map fun _ => ACell.und) cur2.toList)
    rw [hCU] at this
    exact this
  have hget := hget0 CU
  generalize hH0 : (sf.upd id (.box CU)).h = H0 at hget
  have hh : ∀ j, j ≠ id → AHeap.get H0 j = (sf.h.get j).map (AObj.mapC fun c => c) := fun j hj => by
    rw [hget j, if_neg hj]; cases sf.h.get j <;> simp [mapC_id]
  have selfC : ∀ {h1 h2 : HGet} {S1 S2 : Blk} {w1 w2 : World} {m1 m2 : OMap} {cs1 cs2 : List ACell}, h1 id = some (.box cs1) → h2 id = some (.box cs2) → m1 id = m2 id → ∀ c v, c.refs id = true → CellRel h1 S1 w1 m1 c v → CellRel h2 S2 w2 m2 c v := fun {h1 h2 S1 S2 w1 w2 m1 m2 cs1 cs2} hb1 hb2 hmm c v hr r => by
    cases c with
    | op j off' =>
      have := Nat.eq_of_beq_eq_true hr
      subst this
      obtain ⟨_, c, b, hc, rest⟩ := r
      exact ⟨⟨_, hb2⟩, c, b, hmm ▸ hc, rest⟩
    | os j => have := Nat.eq_of_beq_eq_true hr; subst this; obtain ⟨⟨_, _, _, hx⟩, _⟩ := r; rw [hb1] at hx; cases hx
    | oe j i off' => have := Nat.eq_of_beq_eq_true hr; subst this; obtain ⟨⟨_, _, _, hx, _⟩, _⟩ := r; rw [hb1] at hx; cases hx
    | sb j i off' e' y => have := Nat.eq_of_beq_eq_true hr; subst this; obtain ⟨_, _, hx, _⟩ := r; rw [hb1] at hx; cases hx
    | vw j k => have := Nat.eq_of_beq_eq_true hr; subst this; obtain ⟨_, hx, hnb, _⟩ := r; rw [hb1] at hx; cases hx; cases hnb
    | _ => cases hr
  have F : Carry sf.h.get (AHeap.get H0) S1 S1 w w' m m (fun c => c) :=
    carry_turnX T RF.mem hh (fun c _ => .inl rfl) (selfC hb1 (by rw [hget id, if_pos rfl]) rfl)
  have F2 : ∀ c v, CellRel sf.h.get S1 w m c v → CellRel (AHeap.get H0) S' w' m c v := fun c v r => (F.cell c v r).moreS s1
  have hne : ∀ j, AHeap.get H0 j ≠ none → sf.h.get j ≠ none := fun j hj => by
    by_cases e : j = id
    · rw [e, hb1]; simp
    · rw [hget j, if_neg e] at hj; exact hj
  have notS' : ∀ q, ¬ S1 q → q < w.heap.size → ¬ S' q := fun q h1 h2 h3 => (s2 q h3).elim h1 fun h => by omega
  have M1 : Mem (AHeap.get H0) S' w' m B M0 := by
    refine ⟨fun j ob eo => ?_, fun i j c d hij hi hj hci hdj q hq hq' => RF.mem.dis i j c d hij (hne i hi) (hne j hj) hci hdj q hq hq', fun i c hi hci q hq => ?_, fun q hq => ?_⟩
    · by_cases hj : j = id
      · subst hj
        rw [hget j, if_pos rfl] at eo
        cases eo
        exact ⟨oc', hoc, b', cur2, e2, k1, hb2, hCU' _ _, k4⟩
      · rw [hget j, if_neg hj] at eo
        obtain ⟨c1, h1, h2⟩ := RF.mem.obj j ob eo
        have hown := T.own j c1 hj (heap_ne eo) h1
        refine ⟨c1, h1, ?_⟩
        cases ob with
        | box cs => obtain ⟨b, cur, e, k1, k2, k3, k4⟩ := h2; exact ⟨b, cur, e, k1, (hown b ((k4 b).2 rfl)).trans k2, k3.imp F2, k4⟩
        | arr d t ys => exact ⟨h2.1, h2.2.mono s1 T.stay hown T.size⟩
        | src t k ys => exact ⟨h2.1, h2.2.mono hown⟩
    · have := RF.mem.apart i c (hne i hi) hci q hq
      exact ⟨notS' q this.1 this.2.1, Nat.lt_of_lt_of_le this.2.1 T.size, this.2.2⟩
    · rcases s2 q hq with h | h
      · exact Nat.lt_of_lt_of_le (RF.mem.lt q h) T.size
      · exact h.2
  have hG3 : ∀ q, G3 q → FM q := fun q hq => (hFM q).2 (.inl ((hG2 q).2 (.inr hq)))
  obtain ⟨c1, n1, kc⟩ := own_cells (S := S') (d * 16) hown2
  obtain ⟨c2, n2, hlen2, hval⟩ := put_res (mutCells (d * 16) t p).2.2 res
  have no := n1.append n2 (H := fun q => G3 q ∨ FR q) (fun q hq hq' => (f2 q hq').2.2.2 (hG3 q hq)) (fun q hq => .inl hq) (fun q hq => .inr hq)
  have hn' := Nat.le_of_ble_eq_true hn
  have left := fun {h : HGet} {mm : OMap} => Has.left (h := h) (m := mm) (b := (putRes (mutCells (d * 16) t p).2.2 rs z).2.1) (d := c2) n1
  have right := fun {h : HGet} {mm : OMap} => Has.right (h := h) (m := mm) n1 n2
  generalize (fun id => if id < (mutCells (d * 16) t p).2.2 then c1 id else c2 id : OMap) = cm at no left right
  generalize hos : (mutCells (d * 16) t p).2.1 ++ (putRes (mutCells (d * 16) t p).2.2 rs z).2.1 = os at e no left right
  have inos : ∀ id, AHeap.get os id ≠ none → d * 16 ≤ id ∧ id ≤ d * 16 + 15 := fun id hid => by have := no.ids id hid; omega
  have hidos : AHeap.get os id = none := by
    cases h4 : AHeap.get os id with
    | none => rfl
    | some o4 =>
      obtain ⟨i1, i2⟩ := inos id (heap_ne h4)
      have := hfr id i1 i2
      rw [hb1] at this
      cases this
  have hnew : ∀ j, AHeap.get os j ≠ none → AHeap.get H0 j = none := fun j hj => by
    obtain ⟨i1, i2⟩ := inos j hj
    have h0 := hfr j i1 i2
    have : j ≠ id := fun e => by rw [e, hb1] at h0; cases h0
    rw [hget j, if_neg this]
    exact h0
  have A := M1.add no hnew (fun q hq => by
    rcases hq with hq | hq
    · have := f1 q (hG3 q hq)
      refine ⟨this.2.2, this.2.1, ?_⟩
      rcases this.1 with h | h
      · exact (hMs q h).2.2
      · exact .inl (Nat.le_trans hB h)
    · exact ⟨(f2 q hq).2.2.1, (f2 q hq).2.1, .inl (Nat.le_trans hB (f2 q hq).1)⟩) (fun j dd hj hdj q hq hF => by
    have lt := (RF.mem.apart j dd (hne j hj) hdj q hF).2.1
    rcases hq with hq | hq
    · rcases (f1 q (hG3 q hq)).1 with (rfl | h) | h
      · exact hGb2 hq
      · exact orph.dis j dd (hne j hj) hdj q h hF
      · omega
    · have := (f2 q hq).1
      omega)
  generalize hNC : (mutCells (d * 16) t p).1 ++ cs1.drop t.size = NC at e
  have hgetF := hget0 NC
  have hρ : (sf.upd id (.box NC)).ρ = sf.ρ := rfl
  rw [hρ] at e
  generalize (sf.upd id (.box NC)).h = H1 at e hgetF
  have hHF : ∀ j, AHeap.get (os ++ H1) j = if j = id then some (.box NC) else hplus os (AHeap.get H0) j := fun j => by
    rw [get_append, hgetF j]
    by_cases hj : j = id
    · subst hj; rw [hidos]; simp
    · rw [if_neg hj, if_neg hj]; simp only [hplus, hget j, if_neg hj]
  have hm : Has os cm (AHeap.get (os ++ H1)) (addM os cm m) := fun i o ei => ⟨by rw [get_append, ei]; rfl, by simp only [addM, ei]⟩
  have hadd : addM os cm m id = some oc' := by simp only [addM, hidos]; exact hoc
  have hold : hplus os (AHeap.get H0) id = some (.box CU) := by simp only [hplus, hidos, hget id, if_pos rfl]; rfl
  have T2 : Turn (hplus os (AHeap.get H0)) S' w' w' (addM os cm m) (addM os cm m) id oc' := ⟨heap_ne hold, hadd, Nat.le_refl _, fun _ _ _ => rfl, fun _ _ => rfl⟩
  have hh2 : ∀ j, j ≠ id → AHeap.get (os ++ H1) j = (hplus os (AHeap.get H0) j).map (AObj.mapC fun c => c) := fun j hj => by
    rw [hHF j, if_neg hj]; cases hplus os (AHeap.get H0) j <;> simp [mapC_id]
  have F3 : Carry (hplus os (AHeap.get H0)) (AHeap.get (os ++ H1)) S' S' w' w' (addM os cm m) (addM os cm m) (fun c => c) :=
    carry_turn T2 A.1 hh2 (fun c _ => .inl rfl) (selfC hold (by rw [hHF id, if_pos rfl]) rfl)
  have hlast : CellsRel (AHeap.get (os ++ H1)) S' w' (addM os cm m) (cs1.drop t.size) [vj] := by
    obtain ⟨oc3, hoc3, b3, cur3, te3, q1, q2, q3, q4⟩ := RF.mem.obj id _ hb1
    obtain rfl : oc3 = oc' := Option.some.inj (hoc3.symm.trans hoc)
    rw [k1] at q1
    simp only [Value.pointer.injEq, Option.some.injEq, Addr.mk.injEq] at q1
    obtain ⟨rfl, _⟩ := q1
    rw [k2] at q2
    simp only [Option.some.injEq, Obj.cells.injEq] at q2
    obtain ⟨rfl, _⟩ := q2
    have h4 := q3.drop t.size
    rw [hvj] at h4
    have h5 : VRel sf.h.get S1 w m (.ag (cs1.drop t.size)) (.agg #[vj]) := ⟨#[vj], rfl, h4⟩
    obtain ⟨vs5, e5, h6⟩ := ((h5.imp F2).wider A.2 M1).imp fun c v r => F3.cell c v r
    cases e5
    exact h6
  have hall : CellsRel (AHeap.get (os ++ H1)) S' w' (addM os cm m) NC cur2.toList := by
    rw [hcs3, ← hNC]
    exact (kc _ S' _ (left hm)).append hlast
  have M2 : Mem (AHeap.get (os ++ H1)) S' w' (addM os cm m) B M0 :=
    mem_turnX (c' := oc') (o' := .box NC) (Orphan.empty _ S' w' _ B M0) T2 A.1 (Nat.le_trans hB past.size) F3 hh2 (by rw [hHF id, if_pos rfl]) hadd ⟨b', cur2, e2, k1, hb2, hall, k4⟩ fun q hq => .inl hq
  refine KK _ _ (retV rv) w' S' (addM os cm m) e ⟨?_, ⟨M2, ?_, fun i => ?_, RF.size, RF.defers⟩, ⟨fun q hq => s1 q (hS1 q hq), past.size, fun q hq => T.stay q (hS1 q hq), fun q hq => ?_⟩, ?_, fun et => ?_⟩
  · show VRel (AHeap.get (os ++ H1)) S' w' _ _ _
    exact ret_rel hlen2 (hval _ _ (right hm))
  · refine ⟨past.os.trans RF.frm.os, past.tape.trans RF.frm.tape, past.output.trans RF.frm.output, Nat.le_trans RF.frm.size past.size, fun q hq hm => (past.block q (Nat.lt_of_lt_of_le hq hB) fun e => ?_).trans (RF.frm.block q hq hm), fun a ha => (past.fz a (Nat.lt_of_lt_of_le ha RF.frm.size)).trans (RF.frm.fz a ha), RF.frm.tab⟩
    rcases (hMs q e).2.2 with hx | hx
    · omega
    · exact hm hx
  · show VRel (AHeap.get (os ++ H1)) S' w' _ (sf.ρ.getD i (.one .und)) _
    exact (((RF.tmps i).imp F2).wider A.2 M1).imp fun c v r => F3.cell c v r
  · rcases s2 q hq with h | h
    · exact nS1 q h
    · exact .inr (.inl (Nat.le_trans hB h.1))
  · show s0.t ≤ sf.t + 2
    omega
  · have h1 : sf.t + 2 = s0.t := et
    omega
end
end Go.Ab
