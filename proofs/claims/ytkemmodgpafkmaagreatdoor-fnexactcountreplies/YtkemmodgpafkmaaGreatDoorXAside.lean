/-
  A stretch with one call that turns a variable of ours, beside one read that the call doesn't touch.
-/
import Derived.Test.YtkemmodgpafkmaaGreatDoorXLate
namespace Go.Ab
open Go Go.RowKit
section
variable {P : Program} {E : Env} {S : Blk} {w w0 : World} {m : OMap} {B : Nat} {M0 : Blk}
theorem trace_clear [Tabs] {l : Tr} (Ap : Apart l) {s : AS} (hc : ∀ (j : Nat) (p : Oper × AVal × AHeap), l[j]? = some p → ∃ M : Nat → Bool, M j = false ∧ Clear (subSt M l s) (p.1.dst.getD 0)) {j : Nat} {p : Oper × AVal × AHeap} (hj : l[j]? = some p) {L : Nat → Bool} (hL : L j = false) : Clear (subSt L l s) (p.1.dst.getD 0) := by
  intro id i1 i2
  obtain ⟨M, hM, c⟩ := hc j p hj
  rw [← c id i1 i2]
  refine subSt_h id l L M s s (fun i q hq hqd => ?_) rfl
  have sm := Ap.small i q hq id hqd
  have : i = j := by
    cases e1 : q.1.dst with
    | none => exact absurd e1 (Ap.dst i q hq)
    | some d =>
      cases e2 : p.1.dst with
      | none => exact absurd e2 (Ap.dst j p hj)
      | some d' =>
        rw [e1] at sm
        rw [e2] at i1 i2
        simp only [Option.getD_some] at sm i1 i2
        have : d = d' := by
          rcases Nat.lt_trichotomy d d' with h | h | h
          · omega
          · exact h
          · omega
        subst this
        exact Ap.one i j q p d hq hj e1 e2
  subst this
  rw [hL, hM]
theorem Rel.und [Tabs] {s : AS} {a : Act} (R : Rel w0 B M0 S m s a w) (d : Option Nat) : Rel w0 B M0 S m (s.put d (.one .und)) a w := by
  refine ⟨?_, R.frm, fun i => ?_, ?_, R.defers⟩
  · cases d <;> exact R.mem
  · rw [put_getD]
    have hh : (s.put d (.one .und)).h = s.h := by cases d <;> rfl
    rw [hh]
    split
    · split <;> exact trivial
    · exact R.tmps i
  · rw [R.size]; cases d <;> simp [AS.put]
theorem Rel.fill [Tabs] {s : AS} {a : Act} (R : Rel w0 B M0 S m s a w) {d : Nat} {v : AVal} (h : d < s.ρ.length → VRel s.h.get S w m v (a.tmps.getD d undef)) : Rel w0 B M0 S m (s.put (some d) v) a w := by
  refine ⟨R.mem, R.frm, fun i => ?_, by rw [R.size]; simp [AS.put], R.defers⟩
  rw [put_getD]
  split
  · rename_i e
    cases e
    split
    · rename_i hlt; exact h hlt
    · exact trivial
  · exact R.tmps i
theorem clearB_spec [Tabs] {h : AHeap} {d : Nat} (hc : clearB h d = true) : ∀ id, d * 16 ≤ id → id ≤ d * 16 + 15 → h.get id = none := fun id h1 h2 => by
  cases hg : h.get id with
  | none => rfl
  | some o =>
    have := List.all_eq_true.1 hc _ (get_some_mem hg)
    simp only [Nat.ble_eq_true_of_le h1, Nat.ble_eq_true_of_le h2, Bool.and_self, Bool.not_true] at this
    cases this
theorem fresh_none {s : AS} {d : Nat} (h : clearB s.h d = true) : s.fresh d = s := by
  unfold AS.fresh
  have : (s.h.filter fun p => Nat.ble (d * 16) p.1 && Nat.ble p.1 (d * 16 + 15)) = [] := by
    rw [List.filter_eq_nil_iff]
    intro p hp
    have h1 := List.all_eq_true.1 h p hp
    intro h2
    rw [h2] at h1
    cases h1
  rw [this]
  rfl
theorem get_none_mem : ∀ {h : AHeap} {i : Nat} {o : AObj}, (i, o) ∈ h → AHeap.get h i ≠ none
  | (j, x) :: r, i, o, hm => by
    simp only [AHeap.get]
    rcases List.mem_cons.1 hm with h | h
    · cases h; simp
    · cases Nat.beq j i with
      | true => simp
      | false => exact get_none_mem h
theorem clearB_of [Tabs] {s : AS} {d : Nat} (h : Clear s d) : clearB s.h d = true := by
  unfold clearB
  rw [List.all_eq_true]
  intro p hp
  cases hb : (Nat.ble (d * 16) p.1 && Nat.ble p.1 (d * 16 + 15)) with
  | false => rfl
  | true =>
    rw [Bool.and_eq_true] at hb
    exact absurd (h p.1 (Nat.le_of_ble_eq_true hb.1) (Nat.le_of_ble_eq_true hb.2)) (get_none_mem hp)
abbrev Cont := Nat → Option (List ACell)
def AS.boxedF (s : AS) (c : Cont) : AS := { s with h := s.h.map fun p => match c p.1 with | some cs => (p.1, .box cs) | none => p }
theorem get_boxF [Tabs] (c : Cont) (j : Nat) : ∀ h : AHeap, AHeap.get (h.map fun p => match c p.1 with | some cs => (p.1, AObj.box cs) | none => p) j = match c j with | some cs => (AHeap.get h j).map (fun _ => .box cs) | none => AHeap.get h j
  | [] => by cases c j <;> rfl
  | (i, x) :: r => by
    have ih := get_boxF c j r
    simp only [List.map_cons]
    by_cases e : i = j
    · subst e
      cases hc : c i <;> simp [AHeap.get]
    · have e2 := beq_false e
      have h1 : AHeap.get ((i, x) :: r) j = AHeap.get r j := by simp only [AHeap.get, e2, cond_false]
      rw [h1, ← ih]
      cases hc : c i <;> simp only [AHeap.get, e2, cond_false]
theorem boxedF_get [Tabs] (s : AS) (c : Cont) (j : Nat) : (s.boxedF c).h.get j = match c j with | some cs => (s.h.get j).map (fun _ => .box cs) | none => s.h.get j := get_boxF c j s.h
theorem lessL_get [Tabs] (s : AS) (V : List Nat) (id : Nat) : (s.lessL V).h.get id = if id ∈ V then none else s.h.get id := by
  have key : ∀ h : AHeap, AHeap.get (h.filter fun p => !V.any (Nat.beq p.1)) id = if id ∈ V then none else AHeap.get h id := by
    intro h
    induction h with
    | nil => simp [AHeap.get]
    | cons p r ih =>
      obtain ⟨j, x⟩ := p
      have hj : V.any (Nat.beq j) = decide (j ∈ V) := by
        rw [Bool.eq_iff_iff, List.any_eq_true, decide_eq_true_eq]
        exact ⟨fun ⟨y, h1, h2⟩ => by rw [Nat.eq_of_beq_eq_true h2]; exact h1, fun h => ⟨j, h, by simp⟩⟩
      by_cases hv : j ∈ V
      · rw [List.filter_cons_of_neg (by simp [hj, hv]), ih]
        by_cases hi : id ∈ V
        · simp [hi]
        · have : ¬ j = id := fun e => hi (e ▸ hv)
          simp [hi, AHeap.get, beq_false this]
      · rw [List.filter_cons_of_pos (by simp [hj, hv])]
        simp only [AHeap.get]
        by_cases e : j = id
        · subst e; simp [hv]
        · rw [beq_false e]; simpa using ih
  exact key s.h
structure CallB (E : Env) (s : AS) (o : Oper) (idc : Nat) (v : AVal) (os : AHeap) (ck : List ACell) (c : Call) (f : Operand) (g : FuncId) (caps : List Cap) (t : Ty) (ps : List PK) (rs : List RK) (fn : dens (PK.tys (.mbox t :: ps)) → Option (dens (PK.mtys (.mbox t :: ps) (RK.tys rs)))) : Prop where
  op : o.op = .call c
  cal : c.callee = .value f
  ev : s.ev f = .one (.cl g caps)
  G : (g, ⟨.mbox t :: ps, rs, fn⟩) ∈ E.G
  vals : allVal ps = true
  ids : (argIds (.mbox t :: ps) (callVals s.ev c.args.toList caps)).isEmpty = true
  box : boxId (callVals s.ev c.args.toList caps) = some idc
  run : ∃ x y z, takeArgs s.h (.mbox t :: ps) (callVals s.ev c.args.toList caps) = some x ∧ fn x = some y ∧ midV ps (ts := RK.tys rs) (tailD (t := t) (ts := PK.mtys ps (RK.tys rs)) y) = some z ∧ (putRes (o.dst.getD 0 * 16) rs z).2.2 ≤ o.dst.getD 0 * 16 + 16 ∧ v = resVal (putRes (o.dst.getD 0 * 16) rs z).1 ∧ os = (putRes (o.dst.getD 0 * 16) rs z).2.1 ∧ ck = flat t (headD (t := t) (ts := PK.mtys ps (RK.tys rs)) y)
theorem argOs_nil : ∀ {ps : List PK} {vs : List AVal}, (argIds ps vs).isEmpty = true → argOs ps vs = []
  | [], [], _ => rfl
  | [], _ :: _, _ => rfl
  | .val t :: ps, [], _ => rfl
  | .val t :: ps, v :: vs, h => by
    simp only [argIds, List.isEmpty_iff, List.append_eq_nil_iff] at h
    have h2 : osIn v.cells = [] := by
      have : ∀ cs : List ACell, idsOf cs = [] → osIn cs = [] := by
        intro cs
        induction cs with
        | nil => intro _; rfl
        | cons c cs ih =>
          intro h
          cases c <;> simp only [idsOf, osIn] at h ⊢ <;> first | (cases h; done) | exact ih h
      exact this _ h.1
    have h3 := argOs_nil (ps := ps) (vs := vs) (by simp [h.2])
    simp only [argOs, h2, h3]
    cases t.leads <;> rfl
  | .rp t :: ps, [], _ => rfl
  | .rp t :: ps, v :: vs, h => argOs_nil (ps := ps) (vs := vs) h
  | .fn g ts :: ps, [], _ => rfl
  | .fn g ts :: ps, v :: vs, h => argOs_nil (ps := ps) (vs := vs) h
  | .own t :: ps, [], _ => rfl
  | .own t :: ps, v :: vs, h => argOs_nil (ps := ps) (vs := vs) h
  | .mbox t :: ps, [], _ => rfl
  | .mbox t :: ps, v :: vs, h => argOs_nil (ps := ps) (vs := vs) h
  | .obox t :: ps, [], _ => rfl
  | .obox t :: ps, v :: vs, h => argOs_nil (ps := ps) (vs := vs) h
theorem gather_ids {get get' : HGet} : ∀ {t : Ty} {cs : List ACell}, idsOf cs = [] → gatherG get t cs = gatherG get' t cs := by
  have cell : ∀ {t : Ty} {c : ACell}, idsOf [c] = [] → cellToG get t c = cellToG get' t c := fun {t c} h => by
    cases c <;> first | rfl | cases h
  have app : ∀ (l r : List ACell), idsOf (l ++ r) = idsOf l ++ idsOf r := by
    intro l r
    induction l with
    | nil => rfl
    | cons c l ih => cases c <;> simp [idsOf, ih]
  have head : ∀ {c : ACell} {cs : List ACell}, idsOf (c :: cs) = [] → idsOf [c] = [] := fun {c cs} h => by
    have := app [c] cs
    rw [List.singleton_append, h] at this
    exact (List.append_eq_nil_iff.1 this.symm).1
  intro t
  induction t with
  | unit => intro cs _; rfl
  | pair a b iha ihb =>
    intro cs h
    have h2 := app (cs.take a.size) (cs.drop a.size)
    rw [List.take_append_drop, h] at h2
    obtain ⟨h3, h4⟩ := List.append_eq_nil_iff.1 h2.symm
    simp only [gatherG, iha h3, ihb h4]
  | bool => intro cs h; cases cs with
    | nil => rfl
    | cons c cs => exact cell (head h)
  | int k => intro cs h; cases cs with
    | nil => rfl
    | cons c cs => exact cell (head h)
  | str => intro cs h; cases cs with
    | nil => rfl
    | cons c cs => exact cell (head h)
  | raw => intro cs h; cases cs with
    | nil => rfl
    | cons c cs => exact cell (head h)
  | slice t _ => intro cs h; cases cs with
    | nil => rfl
    | cons c cs => exact cell (head h)
theorem takeArgs_ids [Tabs] {h h' : AHeap} : ∀ {ps : List PK} {vs : List AVal}, allVal ps = true → (argIds ps vs).isEmpty = true → takeArgs h ps vs = takeArgs h' ps vs
  | [], [], _, _ => rfl
  | [], _ :: _, _, _ => rfl
  | .val t :: ps, [], _, _ => rfl
  | .val t :: ps, v :: vs, ha, hi => by
    simp only [argIds, List.isEmpty_iff, List.append_eq_nil_iff] at hi
    have ih := takeArgs_ids (h := h) (h' := h') (ps := ps) (vs := vs) ha (by simp [hi.2])
    have hg : gather h t v.cells = gather h' t v.cells := gather_ids hi.1
    simp only [takeArgs, hg, ih]
  | .rp t :: ps, [], _, _ => rfl
  | .rp t :: ps, v :: vs, ha, hi => by
    have ih := takeArgs_ids (h := h) (h' := h') (ps := ps) (vs := vs) ha hi
    cases v with
    | one c => cases c <;> simp only [takeArgs, ih]
    | ag cs => rfl
    | tu l => rfl
  | .fn g ts :: ps, [], _, _ => rfl
  | .fn g ts :: ps, v :: vs, ha, hi => by
    have ih := takeArgs_ids (h := h) (h' := h') (ps := ps) (vs := vs) ha hi
    cases v with
    | one c => cases c <;> simp only [takeArgs, ih]
    | ag cs => rfl
    | tu l => rfl
  | .own t :: ps, _, ha, _ => by cases ha
  | .mbox t :: ps, _, ha, _ => by cases ha
variable {idc : Nat} {v : AVal} {os : AHeap} {ck : List ACell} {c : Call} {f : Operand} {gf : FuncId} {caps : List Cap} {t : Ty} {ps : List PK} {rs : List RK} {fn : dens (PK.tys (.mbox t :: ps)) → Option (dens (PK.mtys (.mbox t :: ps) (RK.tys rs)))}
theorem CallB.agree [Tabs] {s X : AS} {o : Oper} (h : CallB E X o idc v os ck c f gf caps t ps rs fn) (hev : ∀ x ∈ o.op.operands, X.ev x = s.ev x) (hbx : X.h.get idc = s.h.get idc) : CallB E s o idc v os ck c f gf caps t ps rs fn := by
  have inops : ∀ x, x = f ∨ x ∈ c.args.toList → x ∈ o.op.operands := fun x hx => by
    rw [h.op]
    simp only [Op.operands, Call.operands, h.cal]
    rcases hx with rfl | hx
    · simp
    · exact Array.mem_append.2 (.inr (Array.mem_toList_iff.1 hx))
  have hvals : callVals X.ev c.args.toList caps = callVals s.ev c.args.toList caps := by
    unfold callVals
    rw [List.map_congr_left fun x hx => hev x (inops x (.inr hx))]
  obtain ⟨x, y, z, h1, h2⟩ := h.run
  refine ⟨h.op, h.cal, by rw [← hev f (inops f (.inl rfl))]; exact h.ev, h.G, h.vals, by rw [← hvals]; exact h.ids, by rw [← hvals]; exact h.box, x, y, z, ?_, h2⟩
  rw [← hvals, ← h1]
  have hb := h.box
  have hi := h.ids
  generalize callVals X.ev c.args.toList caps = vs at hb hi ⊢
  unfold boxId at hb
  split at hb
  · rename_i id vs'
    cases hb
    have ih := takeArgs_ids (h := s.h.del idc) (h' := X.h.del idc) (ps := ps) (vs := vs') h.vals hi
    simp only [takeArgs, hbx, ih]
  · cases hb
theorem callB_at [Tabs] {s : AS} {o : Oper} (h : CallB E s o idc v os ck c f gf caps t ps rs fn) (hc : Clear s (o.dst.getD 0)) (hid : ¬ (o.dst.getD 0 * 16 ≤ idc ∧ idc ≤ o.dst.getD 0 * 16 + 15)) {R' : Type} (k : AVal → AS → Option R') :
    aCallB s (o.dst.getD 0) ⟨.mbox t :: ps, rs, fn⟩ c.args.toList caps k = k v { ρ := s.ρ, h := os ++ (s.upd idc (.box ck)).h, t := s.t + 1 } := by
  obtain ⟨x, y, z, h1, h2, h3, h4, rfl, rfl, rfl⟩ := h.run
  have hfr := fresh_none (clearB_of hc)
  have hos := argOs_nil h.ids
  have hb : (Nat.ble (o.dst.getD 0 * 16) idc && Nat.ble idc (o.dst.getD 0 * 16 + 15)) = false := by
    cases hb : (Nat.ble (o.dst.getD 0 * 16) idc && Nat.ble idc (o.dst.getD 0 * 16 + 15)) with
    | false => rfl
    | true =>
      rw [Bool.and_eq_true] at hb
      exact absurd ⟨Nat.le_of_ble_eq_true hb.1, Nat.le_of_ble_eq_true hb.2⟩ hid
  simp only [aCallB, hos, AS.frzAll, h.ids, h.box, Bool.not_true, cond_false, hb, h1, h2, boxGo, h3, Option.bind_some, Nat.ble_eq_true_of_le h4, cond_true, hfr]
  rfl
theorem callB_of [Tabs] {s : AS} {o : Oper} {C : FnSpec} (hop : o.op = .call c) (hcal : c.callee = .value f) (hev : s.ev f = .one (.cl gf caps)) (hG : (gf, C) ∈ E.G) (hbx : boxShape C.ps = true) (hid : boxId (callVals s.ev c.args.toList caps) = some idc) {R' : Type} {k : AVal → AS → Option R'} {r : R'}
    (e : aCallB s (o.dst.getD 0) C c.args.toList caps k = some r) (ht : ∀ v s2, k v s2 = some r → s2.t = s.t + 1) :
    ∃ v os ck t ps rs fn, CallB E s o idc v os ck c f gf caps t ps rs fn ∧ C = ⟨.mbox t :: ps, rs, fn⟩ ∧ ¬ (o.dst.getD 0 * 16 ≤ idc ∧ idc ≤ o.dst.getD 0 * 16 + 15) := by
  obtain ⟨ps, rs, fn⟩ := C
  cases ps with
  | nil => cases hbx
  | cons p ps =>
  cases p with
  | mbox t =>
    simp only [aCallB] at e
    have ts := frzAll_t (argOs (.mbox t :: ps) (callVals s.ev c.args.toList caps)) s
    generalize hs1 : s.frzAll (argOs (.mbox t :: ps) (callVals s.ev c.args.toList caps)) = s1 at e ts
    cases hle : (argIds (.mbox t :: ps) (callVals s1.ev c.args.toList caps)).isEmpty with
    | false => rw [hle] at e; cases e
    | true =>
    rw [hle] at e
    simp only [Bool.not_true, cond_false] at e
    cases hb : boxId (callVals s1.ev c.args.toList caps) with
    | none => rw [hb] at e; cases e
    | some id =>
    rw [hb] at e
    simp only at e
    cases hrg : (Nat.ble (o.dst.getD 0 * 16) id && Nat.ble id (o.dst.getD 0 * 16 + 15)) with
    | true => rw [hrg] at e; cases e
    | false =>
    rw [hrg] at e
    simp only [cond_false] at e
    cases hx : takeArgs s1.h (.mbox t :: ps) (callVals s1.ev c.args.toList caps) with
    | none => rw [hx] at e; cases e
    | some x =>
    rw [hx] at e
    simp only [Option.bind_eq_some_iff] at e
    obtain ⟨y, hy, e⟩ := e
    unfold boxGo at e
    simp only [Option.bind_eq_some_iff] at e
    obtain ⟨z, hz, e⟩ := e
    cases hn : Nat.ble (putRes (o.dst.getD 0 * 16) rs z).2.2 (o.dst.getD 0 * 16 + 16) with
    | false => simp only [hn, cond_false] at e; cases e
    | true =>
    simp only [hn, cond_true] at e
    have h1 : (s1.fresh (o.dst.getD 0)).t + 1 = s.t + 1 := ht _ _ e
    have tf := fresh_t s1 (o.dst.getD 0)
    have e1 : s1 = s := ts.2 (by omega)
    subst e1
    rw [hb] at hid
    cases hid
    refine ⟨_, _, _, t, ps, rs, fn, ⟨hop, hcal, hev, hG, hbx, hle, hb, x, y, z, hx, hy, hz, Nat.le_of_ble_eq_true hn, rfl, rfl, rfl⟩, rfl, fun hh => ?_⟩
    rw [Nat.ble_eq_true_of_le hh.1, Nat.ble_eq_true_of_le hh.2] at hrg
    cases hrg
  | obox t =>
    obtain ⟨v, s2, h1, h2⟩ := aCallO_t e
    have := ht v s2 h1
    omega
  | _ => cases hbx
theorem callB_wp [Tabs] (hE : Good P E) (hB0 : B ≤ w0.heap.size) {s : AS} {a : Act} (R : Rel w0 B M0 S m s a w) {o : Oper} (h : CallB E s o idc v os ck c f gf caps t ps rs fn) (hc : Clear s (o.dst.getD 0)) (hid : ¬ (o.dst.getD 0 * 16 ≤ idc ∧ idc ≤ o.dst.getD 0 * 16 + 15)) {next : Act → World → Prop} {Q : Exit → Act → World → Prop}
    (K : ∀ v' w' S' m', Rel w0 B M0 S' m' (({ ρ := s.ρ, h := os ++ (s.upd idc (.box ck)).h, t := s.t + 1 } : AS).put o.dst v) (a.put o.dst v') w' → Ext B M0 S S' w w' → next (a.put o.dst v') w') : o.wp P a w next Q := by
  have e := callB_at h hc hid (fun v s2 => some (v, s2))
  refine aCallB_soundX hE.G hB0 R h.op h.cal h.ev h.G h.vals e fun v1 s1 v' w' S' m' hk MV _ => ?_
  simp only [Option.some.injEq, Prod.mk.injEq] at hk
  obtain ⟨rfl, rfl⟩ := hk
  exact K v' w' S' m' (MV.rel.put MV.val o.dst) MV.ext
structure StoreB (E : Env) (s : AS) (o : Oper) (idc : Nat) (ck : List ACell) (t : TypeId) (x y : Operand) (u : Ty) (off : Nat) (cs : List ACell) : Prop where
  op : o.op = .store t x y
  dst : o.dst = none
  T : look E.T t = some u
  ad : s.ev x = .one (.op idc off)
  box : s.h.get idc = some (.box cs)
  ok : ((s.ev y).solid && Nat.beq (s.ev y).cells.length u.size && Nat.ble (off + u.size) cs.length) = true
  ck : ck = splice cs off (s.ev y).cells
inductive Turner (E : Env) (s : AS) (o : Oper) (idc : Nat) (v : AVal) (os : AHeap) (ck : List ACell) : Prop
  | call (c : Call) (f : Operand) (g : FuncId) (caps : List Cap) (t : Ty) (ps : List PK) (rs : List RK) (fn : dens (PK.tys (.mbox t :: ps)) → Option (dens (PK.mtys (.mbox t :: ps) (RK.tys rs)))) (h : CallB E s o idc v os ck c f g caps t ps rs fn) : Turner E s o idc v os ck
  | store (t : TypeId) (x y : Operand) (u : Ty) (off : Nat) (cs : List ACell) (h : StoreB E s o idc ck t x y u off cs) (hv : v = .one .und) (hos : os = []) : Turner E s o idc v os ck
theorem Turner.agree [Tabs] {s X : AS} {o : Oper} (h : Turner E X o idc v os ck) (hev : ∀ x ∈ o.op.operands, X.ev x = s.ev x) (hbx : X.h.get idc = s.h.get idc) : Turner E s o idc v os ck := by
  cases h with
  | call c f g caps t ps rs fn h => exact .call c f g caps t ps rs fn (h.agree hev hbx)
  | store t x y u off cs h hv hos =>
    have hx := hev x (by rw [h.op]; simp [Op.operands])
    have hy := hev y (by rw [h.op]; simp [Op.operands])
    exact .store t x y u off cs ⟨h.op, h.dst, h.T, by rw [← hx]; exact h.ad, by rw [← hbx]; exact h.box, by rw [← hy]; exact h.ok, by rw [← hy]; exact h.ck⟩ hv hos
theorem Turner.wp [Tabs] (hE : Good P E) (hB0 : B ≤ w0.heap.size) {s : AS} {a : Act} (R : Rel w0 B M0 S m s a w) {o : Oper} (h : Turner E s o idc v os ck) (hc : Clear s ((dstC o).getD 0)) (hid : ¬ ((dstC o).getD 0 * 16 ≤ idc ∧ idc ≤ (dstC o).getD 0 * 16 + 15)) {next : Act → World → Prop} {Q : Exit → Act → World → Prop}
    (K : ∀ v' w' S' m', Rel w0 B M0 S' m' (({ ρ := s.ρ, h := os ++ (s.upd idc (.box ck)).h, t := s.t + 1 } : AS).put (dstC o) v) (a.put o.dst v') w' → Ext B M0 S S' w w' → next (a.put o.dst v') w') : o.wp P a w next Q := by
  cases h with
  | call c f g caps t ps rs fn h =>
    have hd : dstC o = o.dst := by unfold dstC; rw [h.op]; cases o.dst <;> rfl
    rw [hd] at hc hid K
    exact callB_wp hE hB0 R h hc hid K
  | store t x y u off cs h hv hos =>
    subst hv hos
    have e : (aStore false s u (.op idc off) (s.ev y) fun s2 => some ((AVal.one .und), s2)) = some (.one .und, s.upd idc (.box ck)) := by
      simp only [aStore, h.box, h.ok, cond_true, h.ck]
    refine aStore_sound (mv := false) hE.T hB0 R h.op h.T h.ad (k := fun v s2 => some (v, s2)) e fun v1 s1 v' w' S' m' hk MV => ?_
    simp only [Option.some.injEq, Prod.mk.injEq] at hk
    obtain ⟨rfl, rfl⟩ := hk
    refine K v' w' S' m' ?_ MV.ext
    have h0 : a.put o.dst v' = a := by rw [h.dst]; rfl
    have hR := MV.rel
    rw [h0]
    exact hR.und (dstC o)
abbrev TrB := List (Oper × AVal × AHeap × Option (Nat × List ACell))
def tr (l : TrB) : Tr := l.map fun p => (oC p.1, p.2.1, p.2.2.1)
def contOne (b : Bool) (x : Option (Nat × List ACell)) (c : Cont) : Cont := match x with
  | some p => bif b then (fun j => if j = p.1 then some p.2 else c j) else c
  | none => c
def contB : (Nat → Bool) → TrB → Cont → Cont
  | _, [], c => c
  | M, p :: r, c => contB (fun j => M (j + 1)) r (contOne (M 0) p.2.2.2 c)
theorem contB_congr : ∀ (l : TrB) (M M' : Nat → Bool) (c : Cont), (∀ (j : Nat) (p : Oper × AVal × AHeap × Option (Nat × List ACell)), l[j]? = some p → p.2.2.2 ≠ none → M j = M' j) → contB M l c = contB M' l c
  | [], _, _, _, _ => rfl
  | p :: r, M, M', c, h => by
    simp only [contB]
    have : contOne (M 0) p.2.2.2 c = contOne (M' 0) p.2.2.2 c := by
      cases hp : p.2.2.2 with
      | none => rfl
      | some ck => rw [h 0 p rfl (by rw [hp]; simp)]
    rw [this]
    exact contB_congr r _ _ _ fun j q hq hn => h (j + 1) q (by simpa using hq) hn
theorem contOne_false (x : Option (Nat × List ACell)) (c : Cont) : contOne false x c = c := by cases x <;> rfl
theorem contB_none [Tabs] : ∀ (l : TrB) (c : Cont), contB (fun _ => false) l c = c
  | [], _ => rfl
  | p :: r, c => by
    simp only [contB]
    rw [contOne_false]
    exact contB_none r c
theorem contB_step [Tabs] : ∀ (l : TrB) (k : Nat) (c : Cont) (p : Oper × AVal × AHeap × Option (Nat × List ACell)), l[k]? = some p → contB (fun i => decide (i < k + 1)) l c = contOne true p.2.2.2 (contB (fun i => decide (i < k)) l c)
  | [], k, _, _, h => by simp at h
  | q :: r, 0, c, p, h => by
    simp only [List.getElem?_cons_zero, Option.some.injEq] at h
    subst h
    have e1 : (fun j => decide (j + 1 < 0 + 1)) = fun _ => false := by funext j; simp
    have e2 : (fun j => decide (j + 1 < 0)) = fun _ => false := by funext j; simp
    simp only [contB]
    rw [e1, e2, contB_none, contB_none]
    have e3 : decide (0 < 0) = false := rfl
    have e4 : decide (0 < 0 + 1) = true := rfl
    rw [e3, e4, contOne_false]
  | q :: r, k + 1, c, p, h => by
    simp only [contB]
    have e1 : (fun j => decide (j + 1 < k + 1 + 1)) = fun j => decide (j < k + 1) := by funext j; simp
    have e2 : (fun j => decide (j + 1 < k + 1)) = fun j => decide (j < k) := by funext j; simp
    have e3 : decide (0 < k + 1 + 1) = true := by simp
    have e4 : decide (0 < k + 1) = true := by simp
    rw [e1, e2, e3, e4]
    exact contB_step r k _ p (by simpa using h)
theorem contB_out {V : List Nat} : ∀ (l : TrB) (M : Nat → Bool) (c : Cont), (∀ (j : Nat) (p : Oper × AVal × AHeap × Option (Nat × List ACell)), l[j]? = some p → ∀ x, p.2.2.2 = some x → x.1 ∈ V) → (∀ id, id ∉ V → c id = none) → ∀ id, id ∉ V → contB M l c id = none
  | [], _, _, _, hc, id, hi => hc id hi
  | p :: r, M, c, h, hc, id, hi => by
    simp only [contB]
    refine contB_out r _ _ (fun j q hq => h (j + 1) q (by simpa using hq)) (fun id hi => ?_) id hi
    cases hp : p.2.2.2 with
    | none => exact hc id hi
    | some x =>
      have hx := h 0 p rfl x hp
      unfold contOne
      cases M 0 with
      | false => exact hc id hi
      | true =>
        have : ¬ id = x.1 := fun e => hi (e ▸ hx)
        simp only [cond_true, if_neg this]
        exact hc id hi
theorem contB_in {id : Nat} : ∀ (l : TrB) (M : Nat → Bool) (c : Cont), (∃ cs, c id = some cs) → ∃ cs, contB M l c id = some cs
  | [], _, _, h => h
  | p :: r, M, c, h => by
    simp only [contB]
    refine contB_in r _ _ ?_
    cases hp : p.2.2.2 with
    | none => exact h
    | some x =>
      unfold contOne
      cases M 0 with
      | false => exact h
      | true =>
        by_cases e : id = x.1
        · exact ⟨x.2, by simp only [cond_true, if_pos e]⟩
        · obtain ⟨cs, hcs⟩ := h
          exact ⟨cs, by simp only [cond_true, if_neg e]; exact hcs⟩
structure Base (V : List Nat) (s : AS) (c : Cont) : Prop where
  in_ : ∀ id ∈ V, ∃ cs, s.h.get id = some (.box cs) ∧ c id = some cs
  out : ∀ id, id ∉ V → c id = none
theorem Base.same [Tabs] {V : List Nat} {s : AS} {c : Cont} (b : Base V s c) : Same (s.boxedF c) s := ⟨rfl, fun _ => rfl, fun id => by
  rw [boxedF_get]
  by_cases h : id ∈ V
  · obtain ⟨cs, h1, h2⟩ := b.in_ id h
    rw [h2, h1]; rfl
  · rw [b.out id h]⟩
def EntOk (E : Env) (V : List Nat) (l : TrB) (s : AS) (c0 : Cont) (j : Nat) (o : Oper) (v : AVal) (os : AHeap) (bx : Option (Nat × List ACell)) : Prop :=
  (∃ d, dstC o = some d) ∧ Clear (subSt (fun i => decide (i < j)) (tr l) s) ((dstC o).getD 0) ∧ (∀ id ∈ V, ¬ ((dstC o).getD 0 * 16 ≤ id ∧ id ≤ (dstC o).getD 0 * 16 + 15)) ∧ SmallOs ((dstC o).getD 0) os ∧
  ∃ X : AS, (∀ t, X.ρ.getD t (.one .und) = (subSt (fun i => decide (i < j)) (tr l) s).ρ.getD t (.one .und)) ∧
    match bx with
    | none => asideId E o = none ∧ dstC o = o.dst ∧ Quiet E X o v os ∧ ∀ id x, X.h.get id = some x → (id ∉ V ∧ (subSt (fun i => decide (i < j)) (tr l) s).h.get id = some x) ∨ (isRead E o = true ∧ id ∈ V ∧ ∃ cs, contB (fun i => decide (i < j)) l c0 id = some cs ∧ x = .box cs)
    | some p => asideId E o ≠ none ∧ p.1 ∈ V ∧ (∃ cs, contB (fun i => decide (i < j)) l c0 p.1 = some cs ∧ X.h.get p.1 = some (.box cs)) ∧ Turner E X o p.1 v os p.2
theorem tr_get {l : TrB} {j : Nat} {o : Oper} {v : AVal} {os : AHeap} {bx : Option (Nat × List ACell)} (h : l[j]? = some (o, v, os, bx)) : (tr l)[j]? = some (oC o, v, os) := by unfold tr; rw [List.getElem?_map, h]; rfl
theorem of_tr {l : TrB} {j : Nat} {p : Oper × AVal × AHeap} (h : (tr l)[j]? = some p) : ∃ o bx, p.1 = oC o ∧ l[j]? = some (o, p.2.1, p.2.2, bx) := by
  unfold tr at h
  rw [List.getElem?_map] at h
  cases hp : l[j]? with
  | none => rw [hp] at h; cases h
  | some q => rw [hp] at h; simp at h; subst h; exact ⟨q.1, q.2.2.2, rfl, rfl⟩
variable {V : List Nat}
theorem noIdc [Tabs] {l : TrB} {s : AS} {c0 : Cont} (h : ∀ (j : Nat) (o : Oper) (v : AVal) (os : AHeap) (bx : Option (Nat × List ACell)), l[j]? = some (o, v, os, bx) → EntOk E V l s c0 j o v os bx) {id : Nat} (hi : id ∈ V) {j : Nat} {p : Oper × AVal × AHeap} (hj : (tr l)[j]? = some p) : AHeap.get p.2.2 id = none := by
  obtain ⟨o, bx, _, hb⟩ := of_tr hj
  obtain ⟨_, _, h2, h3, _⟩ := h j _ _ _ _ hb
  cases hg : AHeap.get p.2.2 id with
  | none => rfl
  | some o => exact absurd (h3 id (heap_ne hg)) (h2 id hi)
theorem runC_trace [Tabs] : ∀ {g : List Oper} {s : AS} {c0 : Cont} {R' : Type} {k : AS → Option R'} {r : R'}, Base V s c0 → (∀ o ∈ g, ∀ i, asideId E o = some i → i ∈ V) → runC E V g s k = some r →
    ∃ (l : TrB) (sf : AS), l.map (·.1) = g ∧ k sf = some r ∧ s.t ≤ sf.t ∧ ((∃ o ∈ g, asideId E o ≠ none) → s.t < sf.t) ∧ Same ((subSt (fun _ => true) (tr l) s).boxedF (contB (fun _ => true) l c0)) sf ∧
      ∀ (j : Nat) (o : Oper) (v : AVal) (os : AHeap) (bx : Option (Nat × List ACell)), l[j]? = some (o, v, os, bx) → EntOk E V l s c0 j o v os bx
  | [], s, c0, _, k, r, hc0, _, e => by
    exact ⟨[], s, rfl, e, Nat.le_refl _, (fun ⟨o, h, _⟩ => by cases h), hc0.same, fun j o v os bx h => by simp at h⟩
  | o :: g, s, c0, R', k, r, hc0, hV, e => by
    have hVg : ∀ o ∈ g, ∀ i, asideId E o = some i → i ∈ V := fun o ho => hV o (List.mem_cons_of_mem _ ho)
    have glue : ∀ {v : AVal} {os : AHeap} {bx : Option (Nat × List ACell)} {s1 : AS} {c1 : Cont}, c1 = contOne true bx c0 → Base V s1 c1 → s1.ρ = (ap s (oC o, v, os)).ρ → (∀ id, id ∉ V → s1.h.get id = (ap s (oC o, v, os)).h.get id) →
        s.t ≤ s1.t → (asideId E o ≠ none → s.t < s1.t) → (∀ id ∈ V, AHeap.get os id = none) → EntOk E V ((o, v, os, bx) :: []) s c0 0 o v os bx →
        (∃ (l : TrB) (sf : AS), l.map (·.1) = g ∧ k sf = some r ∧ s1.t ≤ sf.t ∧ ((∃ o ∈ g, asideId E o ≠ none) → s1.t < sf.t) ∧ Same ((subSt (fun _ => true) (tr l) s1).boxedF (contB (fun _ => true) l c1)) sf ∧
          ∀ (j : Nat) (o : Oper) (v : AVal) (os : AHeap) (bx : Option (Nat × List ACell)), l[j]? = some (o, v, os, bx) → EntOk E V l s1 c1 j o v os bx) →
        ∃ (l : TrB) (sf : AS), l.map (·.1) = o :: g ∧ k sf = some r ∧ s.t ≤ sf.t ∧ ((∃ o' ∈ o :: g, asideId E o' ≠ none) → s.t < sf.t) ∧ Same ((subSt (fun _ => true) (tr l) s).boxedF (contB (fun _ => true) l c0)) sf ∧
          ∀ (j : Nat) (o : Oper) (v : AVal) (os : AHeap) (bx : Option (Nat × List ACell)), l[j]? = some (o, v, os, bx) → EntOk E V l s c0 j o v os bx := by
      intro v os bx s1 c1 hc1 hb1 hρ hh ht htl hnos hent ⟨l, sf, h1, h2, h3, h3', h4, h5⟩
      have sρ : ∀ (M : Nat → Bool) (t : Nat), (subSt M (tr l) s1).ρ.getD t (.one .und) = (subSt M (tr l) (ap s (oC o, v, os))).ρ.getD t (.one .und) := fun M t => subSt_ρ t _ M M _ _ (fun _ _ _ _ => rfl) (by rw [hρ]) (by rw [hρ])
      have sh : ∀ (M : Nat → Bool) (id : Nat), id ∉ V → (subSt M (tr l) s1).h.get id = (subSt M (tr l) (ap s (oC o, v, os))).h.get id := fun M id hid => subSt_h id _ M M _ _ (fun _ _ _ _ => rfl) (hh id hid)
      have here : ∀ (M : Nat → Bool) (z : AS) (id : Nat), id ∈ V → (subSt M (tr l) z).h.get id = z.h.get id := fun M z id hid => by
        rw [subSt_h id _ M (fun _ => false) z z (fun j p hj hp => absurd (noIdc h5 hid hj) hp) rfl, subSt_none _ _ _ fun _ => rfl]
      have hsap : ∀ id ∈ V, ∃ cs, (ap s (oC o, v, os)).h.get id = some (.box cs) := fun id hid => by
        obtain ⟨cs, hcs, _⟩ := hc0.in_ id hid
        exact ⟨cs, by rw [ap_get, hnos id hid]; exact hcs⟩
      refine ⟨(o, v, os, bx) :: l, sf, by simp [h1], h2, Nat.le_trans ht h3, fun ⟨o', ho', hn⟩ => ?_, ?_, fun j o' v' os' bx' hj => ?_⟩
      · rcases List.mem_cons.1 ho' with rfl | ho'
        · exact Nat.lt_of_lt_of_le (htl hn) h3
        · exact Nat.lt_of_le_of_lt ht (h3' ⟨o', ho', hn⟩)
      · have e1 : subSt (fun _ => true) (tr ((o, v, os, bx) :: l)) s = subSt (fun _ => true) (tr l) (ap s (oC o, v, os)) := by simp [tr, subSt]
        have e2 : contB (fun _ => true) ((o, v, os, bx) :: l) c0 = contB (fun _ => true) l c1 := by
          simp only [contB]
          rw [hc1]
        rw [e1, e2]
        refine ⟨?_, fun t => ?_, fun id => ?_⟩
        · rw [← h4.len]
          show (subSt _ _ _).ρ.length = (subSt _ _ _).ρ.length
          rw [subSt_len, subSt_len, hρ]
        · rw [← h4.ρ t]
          exact (sρ _ t).symm
        · rw [← h4.h id, boxedF_get, boxedF_get]
          by_cases hid : id ∈ V
          · obtain ⟨cs, hcs⟩ := contB_in l (fun _ => true) c1 (by obtain ⟨cs, _, h⟩ := hb1.in_ id hid; exact ⟨cs, h⟩)
            obtain ⟨c2, hc2⟩ := hsap id hid
            obtain ⟨c3, hc3, _⟩ := hb1.in_ id hid
            rw [hcs]
            simp only
            rw [here _ _ id hid, here _ _ id hid, hc2, hc3]
            rfl
          · have hn : contB (fun _ => true) l c1 id = none := contB_out (V := V) l _ _ (fun j p hj x hx => by
              obtain ⟨_, _, _, _, X, _, h⟩ := h5 j p.1 p.2.1 p.2.2.1 p.2.2.2 hj
              rw [hx] at h
              exact h.2.1) hb1.out id hid
            rw [hn]
            exact (sh _ id hid).symm
      · cases j with
        | zero =>
          simp only [List.getElem?_cons_zero, Option.some.injEq, Prod.mk.injEq] at hj
          obtain ⟨rfl, rfl, rfl, rfl⟩ := hj
          obtain ⟨g0, g1, g2, g3, X, g4, g5⟩ := hent
          have z1 : ∀ (L : TrB), subSt (fun i => decide (i < 0)) (tr L) s = s := fun L => subSt_none _ _ _ fun j => by simp
          have z2 : ∀ (L : TrB), contB (fun i => decide (i < 0)) L c0 = c0 := fun L => by
            have : (fun i => decide (i < 0)) = fun _ => false := by funext i; simp
            rw [this, contB_none]
          rw [z1] at g1 g4
          refine ⟨g0, by rw [z1]; exact g1, g2, g3, X, by rw [z1]; exact g4, ?_⟩
          cases bx with
          | none => simp only [z1, z2] at g5 ⊢; exact g5
          | some ck => simp only [z2] at g5 ⊢; exact g5
        | succ j =>
          obtain ⟨g0, g1, g2, g3, X, g4, g5⟩ := h5 j o' v' os' bx' (by simpa using hj)
          have e1 : subSt (fun i => decide (i < j + 1)) (tr ((o, v, os, bx) :: l)) s = subSt (fun i => decide (i < j)) (tr l) (ap s (oC o, v, os)) := by simp [tr, subSt]
          have e2 : contB (fun i => decide (i < j + 1)) ((o, v, os, bx) :: l) c0 = contB (fun i => decide (i < j)) l c1 := by
            simp only [contB]
            have : (fun i => decide (i + 1 < j + 1)) = fun i => decide (i < j) := by funext i; simp
            have h0 : decide (0 < j + 1) = true := by simp
            rw [this, hc1, h0]
          refine ⟨g0, fun id i1 i2 => ?_, g2, g3, X, fun t => by rw [e1, g4 t]; exact sρ _ t, ?_⟩
          · rw [e1, ← sh _ id (fun h => g2 id h ⟨i1, i2⟩)]
            exact g1 id i1 i2
          · cases bx' with
            | none =>
              simp only at g5 ⊢
              refine ⟨g5.1, g5.2.1, g5.2.2.1, fun id x hx => ?_⟩
              rcases g5.2.2.2 id x hx with ⟨k1, k2⟩ | ⟨k1, k2, cs, k3, k4⟩
              · exact .inl ⟨k1, by rw [e1, ← sh _ id k1]; exact k2⟩
              · exact .inr ⟨k1, k2, cs, by rw [e2]; exact k3, k4⟩
            | some ck => simp only [e2] at g5 ⊢; exact g5
    have z1 : ∀ (L : TrB), subSt (fun i => decide (i < 0)) (tr L) s = s := fun L => subSt_none _ _ _ fun j => by simp
    have z2 : ∀ (L : TrB), contB (fun i => decide (i < 0)) L c0 = c0 := fun L => by
      have : (fun i => decide (i < 0)) = fun _ => false := by funext i; simp
      rw [this, contB_none]
    have clr : ∀ {d : Option Nat}, clearO s.h d = true → (∃ x, d = some x) ∧ Clear s (d.getD 0) := fun {d} h => by
      cases d with
      | none => cases h
      | some d => exact ⟨⟨d, rfl⟩, clearB_spec h⟩
    have rng : ∀ {d : Nat}, Clear s d → ∀ id ∈ V, ¬ (d * 16 ≤ id ∧ id ≤ d * 16 + 15) := fun {d} hc id hid ⟨h1, h2⟩ => by
      obtain ⟨cs, hcs, _⟩ := hc0.in_ id hid
      rw [hc id h1 h2] at hcs; cases hcs
    have nos : ∀ {d : Nat} {os : AHeap}, Clear s d → SmallOs d os → ∀ id ∈ V, AHeap.get os id = none := fun {d os} hc hs id hid => by
      cases hg : AHeap.get os id with
      | none => rfl
      | some x => exact absurd (hs id (heap_ne hg)) (rng hc id hid)
    have hup : ∀ {idc : Nat} {ck : List ACell} {os : AHeap} {v : AVal} {d : Option Nat}, idc ∈ V → (∀ id ∈ V, AHeap.get os id = none) → Base V (({ ρ := s.ρ, h := os ++ (s.upd idc (.box ck)).h, t := s.t + 1 } : AS).put d v) (contOne true (some (idc, ck)) c0) ∧
        (∀ id, id ∉ V → (({ ρ := s.ρ, h := os ++ (s.upd idc (.box ck)).h, t := s.t + 1 } : AS).put d v).h.get id = (AHeap.get os id).or (s.h.get id)) := fun {idc ck os v d} hm hn => by
      have hpush : ∀ (z : AS), (z.put d v).h = z.h := fun z => by cases d <;> rfl
      have hget : ∀ id, (os ++ (s.upd idc (.box ck)).h).get id = (AHeap.get os id).or (if id = idc then (s.h.get id).map (fun _ => .box ck) else s.h.get id) := fun id => by
        rw [get_append]
        congr 1
        exact get_upd _ _ _ _
      refine ⟨⟨fun id hid => ?_, fun id hid => ?_⟩, fun id hid => ?_⟩
      · rw [hpush]
        show ∃ cs, (os ++ (s.upd idc (.box ck)).h).get id = _ ∧ _
        rw [hget, hn id hid]
        obtain ⟨cs, h1, h2⟩ := hc0.in_ id hid
        by_cases hi : id = idc
        · subst hi
          exact ⟨ck, by rw [if_pos rfl, h1]; rfl, by simp [contOne]⟩
        · exact ⟨cs, by rw [if_neg hi]; exact h1, by simp [contOne, hi, h2]⟩
      · have : ¬ id = idc := fun e => hid (e ▸ hm)
        simp only [contOne, cond_true, if_neg this]
        exact hc0.out id hid
      · rw [hpush]
        show (os ++ (s.upd idc (.box ck)).h).get id = _
        have : ¬ id = idc := fun e => hid (e ▸ hm)
        rw [hget, if_neg this]
    have hput : ∀ {z : AS} {d : Option Nat} {v : AVal}, (z.put d v).t = z.t := fun {z d v} => by cases d <;> rfl
    simp only [runC] at e
    cases ha : asideId E o with
    | none =>
      rw [ha] at e
      simp only at e
      cases hrd : isRead E o with
      | true =>
        rw [hrd] at e
        simp only [cond_true] at e
        obtain ⟨v, s', hk, _, hq⟩ := aOp_quiet e
        cases hb : (Nat.beq s'.t s.t && clearO s.h o.dst) with
        | false => rw [hb] at hk; cases hk
        | true =>
          rw [hb] at hk
          simp only [cond_true] at hk
          rw [Bool.and_eq_true] at hb
          obtain ⟨os, rfl, q, _⟩ := hq (Nat.eq_of_beq_eq_true hb.1)
          obtain ⟨⟨d, hd⟩, hcl⟩ := clr hb.2
          have hdc : dstC o = o.dst := by unfold dstC; rw [hd]
          have hoc : oC o = o := by unfold oC; rw [hdc]
          have htk : (os ++ s.h).take ((os ++ s.h).length - s.h.length) = os := by
            rw [List.length_append, Nat.add_sub_cancel]
            exact List.take_left
          simp only [htk] at hk
          have hno := nos hcl q.small
          have hs1 : Base V (ap s (oC o, v, os)) c0 := ⟨fun id hid => by
            obtain ⟨cs, h1, h2⟩ := hc0.in_ id hid
            exact ⟨cs, by rw [ap_get, hno id hid]; exact h1, h2⟩, hc0.out⟩
          have hk2 : runC E V g (ap s (oC o, v, os)) k = some r := by rw [hoc]; exact hk
          refine glue (v := v) (os := os) (bx := none) (s1 := ap s (oC o, v, os)) (c1 := c0) rfl hs1 rfl (fun _ _ => rfl) (Nat.le_of_eq (ap_t _ _).symm) (fun h => absurd ha h) hno ?_ (runC_trace hs1 hVg hk2)
          refine ⟨⟨d, by rw [hdc, hd]⟩, by rw [z1, hdc]; exact hcl, by rw [hdc]; exact rng hcl, by rw [hdc]; exact q.small, s, fun t => by rw [z1], ha, hdc, q, fun id x hx => ?_⟩
          by_cases hid : id ∈ V
          · obtain ⟨cs, h1, h2⟩ := hc0.in_ id hid
            exact .inr ⟨hrd, hid, cs, by rw [z2]; exact h2, by rw [h1] at hx; exact (Option.some.inj hx).symm⟩
          · exact .inl ⟨hid, by rw [z1]; exact hx⟩
      | false =>
      rw [hrd] at e
      simp only [cond_false] at e
      obtain ⟨v, s', hk, _, hq⟩ := aOp_quiet e
      cases hb : (Nat.beq s'.t s.t && clearO s.h o.dst) with
      | false => rw [hb] at hk; cases hk
      | true =>
        rw [hb] at hk
        simp only [cond_true] at hk
        rw [Bool.and_eq_true] at hb
        obtain ⟨os, rfl, q, _⟩ := hq (Nat.eq_of_beq_eq_true hb.1)
        obtain ⟨⟨d, hd⟩, hcl⟩ := clr hb.2
        have hdc : dstC o = o.dst := by unfold dstC; rw [hd]
        have hoc : oC o = o := by unfold oC; rw [hdc]
        have htk : (os ++ (s.lessL V).h).take ((os ++ (s.lessL V).h).length - (s.lessL V).h.length) = os := by
          rw [List.length_append, Nat.add_sub_cancel]
          exact List.take_left
        simp only [htk] at hk
        have hno := nos hcl q.small
        have hs1 : Base V (ap s (oC o, v, os)) c0 := ⟨fun id hid => by
          obtain ⟨cs, h1, h2⟩ := hc0.in_ id hid
          exact ⟨cs, by rw [ap_get, hno id hid]; exact h1, h2⟩, hc0.out⟩
        have hk2 : runC E V g (ap s (oC o, v, os)) k = some r := by rw [hoc]; exact hk
        refine glue (v := v) (os := os) (bx := none) (s1 := ap s (oC o, v, os)) (c1 := c0) rfl hs1 rfl (fun _ _ => rfl) (Nat.le_of_eq (ap_t _ _).symm) (fun h => absurd ha h) hno ?_ (runC_trace hs1 hVg hk2)
        refine ⟨⟨d, by rw [hdc, hd]⟩, by rw [z1, hdc]; exact hcl, by rw [hdc]; exact rng hcl, by rw [hdc]; exact q.small, s.lessL V, fun t => by rw [z1]; rfl, ha, hdc, q, fun id x hx => ?_⟩
        rw [lessL_get] at hx
        split at hx
        · cases hx
        · rename_i h8; exact .inl ⟨h8, by rw [z1]; exact hx⟩
    | some ai =>
      have hai : ai ∈ V := hV o (by simp) ai ha
      rw [ha] at e
      simp only at e
      cases hop : o.op with
      | call c =>
        rw [hop] at e
        simp only at e
        cases hcal : c.callee with
        | value f =>
          rw [hcal] at e
          simp only at e
          split at e
          · rename_i gf caps hev
            split at e
            · rename_i C hG
              cases hb : (boxShape C.ps && (sameId (boxId (callVals s.ev c.args.toList caps)) ai && clearO s.h o.dst)) with
              | false => rw [hb] at e; cases e
              | true =>
                rw [hb] at e
                simp only [cond_true] at e
                simp only [Bool.and_eq_true] at hb
                obtain ⟨hbx, hsi, hco⟩ := hb
                obtain ⟨⟨d, hd⟩, hcl⟩ := clr hco
                have hdc : dstC o = o.dst := by unfold dstC; rw [hd]
                have hoc : oC o = o := by unfold oC; rw [hdc]
                have hbid : boxId (callVals s.ev c.args.toList caps) = some ai := by
                  unfold sameId at hsi
                  split at hsi
                  · rename_i i hi; rw [hi, Nat.eq_of_beq_eq_true hsi]
                  · cases hsi
                obtain ⟨v, os, ck, t, ps, rs, fn, hcb, rfl, hid⟩ := callB_of hop hcal hev (lookG_mem hG) hbx hbid e (fun v s2 hk => by
                  cases hb : Nat.beq s2.t (s.t + 1) with
                  | false => rw [hb] at hk; cases hk
                  | true => exact Nat.eq_of_beq_eq_true hb)
                rw [callB_at hcb hcl hid] at e
                simp only [Nat.beq_refl, cond_true] at e
                have hsm : SmallOs (o.dst.getD 0) os := by
                  obtain ⟨x, y, z, _, _, _, h4, _, rfl, _⟩ := hcb.run
                  intro id h
                  have := (putRes_ids rs (o.dst.getD 0 * 16) z).2 id h
                  omega
                have hno := nos hcl hsm
                obtain ⟨hb1, hb2⟩ := hup (ck := ck) (v := v) (d := o.dst) hai hno
                refine glue (v := v) (os := os) (bx := some (ai, ck)) (s1 := ({ ρ := s.ρ, h := os ++ (s.upd ai (.box ck)).h, t := s.t + 1 } : AS).put o.dst v) rfl hb1 ?_ (fun id hne => ?_) ?_ (fun _ => ?_) hno ?_ (runC_trace hb1 hVg e)
                · rw [hoc]; cases hd : o.dst <;> simp [ap, AS.put, hd]
                · rw [hb2 id hne, ap_get]
                · rw [hput]; show s.t ≤ s.t + 1; omega
                · rw [hput]; show s.t < s.t + 1; omega
                · obtain ⟨cs, h1, h2⟩ := hc0.in_ ai hai
                  exact ⟨⟨d, by rw [hdc, hd]⟩, by rw [z1, hdc]; exact hcl, by rw [hdc]; exact rng hcl, by rw [hdc]; exact hsm, s, fun t => by rw [z1], by rw [ha]; simp, hai, ⟨cs, by rw [z2]; exact h2, h1⟩, .call c f gf caps t ps rs fn hcb⟩
            · cases e
          · cases e
        | _ => rw [hcal] at e; cases e
      | store t x y =>
        rw [hop] at e
        simp only at e
        split at e
        · rename_i u id off cs hd hT had hbx
          cases hb : (Nat.beq id ai && clearO s.h (dstC o) && ((s.ev y).solid && Nat.beq (s.ev y).cells.length u.size && Nat.ble (off + u.size) cs.length)) with
          | false => rw [hb] at e; cases e
          | true =>
            rw [hb] at e
            simp only [cond_true] at e
            rw [Bool.and_eq_true, Bool.and_eq_true] at hb
            obtain ⟨⟨hi, hco⟩, hok⟩ := hb
            have hii := Nat.eq_of_beq_eq_true hi
            subst hii
            obtain ⟨⟨d, hdc⟩, hcl⟩ := clr hco
            obtain ⟨hb1, hb2⟩ := hup (ck := splice cs off (s.ev y).cells) (os := []) (v := .one .und) (d := dstC o) hai (fun _ _ => rfl)
            have e2 : runC E V g (({ ρ := s.ρ, h := [] ++ (s.upd id (.box (splice cs off (s.ev y).cells))).h, t := s.t + 1 } : AS).put (dstC o) (.one .und)) k = some r := e
            refine glue (v := .one .und) (os := []) (bx := some (id, splice cs off (s.ev y).cells)) (s1 := ({ ρ := s.ρ, h := [] ++ (s.upd id (.box (splice cs off (s.ev y).cells))).h, t := s.t + 1 } : AS).put (dstC o) (.one .und)) rfl hb1 ?_ (fun id hne => ?_) ?_ (fun _ => ?_) (fun _ _ => rfl) ?_ (runC_trace hb1 hVg e2)
            · have : (oC o).dst = dstC o := rfl
              cases hdd : dstC o <;> simp [ap, AS.put, this, hdd]
            · rw [hb2 id hne, ap_get]
            · rw [hput]; show s.t ≤ s.t + 1; omega
            · rw [hput]; show s.t < s.t + 1; omega
            · obtain ⟨cs', h1, h2⟩ := hc0.in_ id hai
              exact ⟨⟨d, hdc⟩, by rw [z1]; exact hcl, rng hcl, SmallOs.nil _, s, fun t => by rw [z1], by rw [ha]; simp, hai, ⟨cs', by rw [z2]; exact h2, h1⟩, .store t x y u off cs ⟨hop, hd, hT, had, hbx, hok, rfl⟩ rfl rfl⟩
        · cases e
      | _ => rw [hop] at e; cases e
theorem any_chain [Tabs] (hE : Good P E) (hB0 : B ≤ w0.heap.size) {ops : Array Oper} {Q : Exit → Act → World → Prop} {A : List Nat} (hA : ancOk A ops.toList = true) {pre g rest : List Oper} (hs : ops.toList = pre ++ (g ++ rest)) (ho : SegOk A pre.length g) (hch : chainOk E A pre.length g = true) (hb : barAt A (pre.length + g.length) = true) {id0 : Nat} {V0 : List Nat} (hst : stretchIds E g = id0 :: V0)
    {s : AS} {a : Act} (R : Rel w0 B M0 S m s a w) (hgd : ∀ g', segGuard g = some g' → GuardOn ops a g' (dstsL g)) (hbs : (id0 :: V0).all (isBoxAt s) = true) {R' : Type} {k : AS → Option R'} {r : R'} (e : runC E (id0 :: V0) g s k = some r)
    (K : ∀ s' a' w' S' m' listed, k s' = some r → Shift w0 B M0 S m s a w (dstsL g) s' a' w' S' m' → UpTo ops.size (pre.length + g.length) listed → wpAny P .any ops Q rest.length listed a' w')
    {listed : Array Bool} (hlst : UpTo ops.size pre.length listed) : wpAny P .any ops Q (g.length + rest.length) listed a w := by
  obtain ⟨V, hVe⟩ : ∃ V, V = id0 :: V0 := ⟨_, rfl⟩
  rw [← hVe] at hst hbs e
  obtain ⟨c0, hc0⟩ : ∃ c0 : Cont, Base V s c0 := by
    refine ⟨fun id => if id ∈ V then (match s.h.get id with | some (.box cs) => some cs | _ => none) else none, fun id hid => ?_, fun id hid => by simp [hid]⟩
    have := List.all_eq_true.1 hbs id hid
    unfold isBoxAt at this
    split at this
    · rename_i cs hcs; exact ⟨cs, hcs, by simp [hid, hcs]⟩
    · cases this
  have hVm : ∀ o ∈ g, ∀ i, asideId E o = some i → i ∈ V := fun o ho i hi => by rw [← hst]; exact List.mem_filterMap.2 ⟨o, ho, hi⟩
  obtain ⟨l, sf, lg, lk, lt, ltl, lsame, lq⟩ := runC_trace hc0 hVm e
  simp only [chainOk, Bool.and_eq_true] at hch
  obtain ⟨⟨hnd, hbig⟩, hch⟩ := hch
  have at_ : ∀ {j : Nat} {p : Oper × AVal × AHeap}, (tr l)[j]? = some p → ∃ o, p.1 = oC o ∧ g[j]? = some o := fun {j p} hj => by
    obtain ⟨o, bx, h1, hb⟩ := of_tr hj
    exact ⟨o, h1, by rw [← lg, List.getElem?_map, hb]; rfl⟩
  have llen : (tr l).length = g.length := by rw [← lg]; simp [tr]
  have Ap : Apart (tr l) := ⟨fun j p hj => by
      obtain ⟨o, bx, h1, hb⟩ := of_tr hj
      obtain ⟨⟨d, hd⟩, _⟩ := lq j _ _ _ _ hb
      rw [h1]
      show dstC o ≠ none
      rw [hd]; simp, fun j k p q t hj hk h1 h2 => by
      obtain ⟨o, e1, hj'⟩ := at_ hj
      obtain ⟨o', e2, hk'⟩ := at_ hk
      exact nodupB_dst hnd j k p.1 q.1 t (by rw [List.getElem?_map, hj', e1]; rfl) (by rw [List.getElem?_map, hk', e2]; rfl) h1 h2, fun j p hj => by
      obtain ⟨o, bx, h1, hb⟩ := of_tr hj
      have := (lq j _ _ _ _ hb).2.2.2.1
      rw [h1]
      exact this⟩
  have clr : ∀ {j : Nat} {p : Oper × AVal × AHeap}, (tr l)[j]? = some p → ∀ {M : Nat → Bool}, M j = false → Clear (subSt M (tr l) s) (p.1.dst.getD 0) := fun {j p} hj {M} hM =>
    trace_clear Ap (fun j p hj => by obtain ⟨o, bx, h1, hb⟩ := of_tr hj; exact ⟨fun i => decide (i < j), by simp, by rw [h1]; exact (lq j _ _ _ _ hb).2.1⟩) hj hM
  have hsb : ∀ (j : Nat) (p : Oper × AVal × AHeap), (tr l)[j]? = some p → ∀ id, AHeap.get p.2.2 id ≠ none → s.h.get id = none := fun j p hj id hid => by
    have sm := Ap.small j p hj id hid
    have := clr hj (M := fun _ => false) rfl id sm.1 sm.2
    rwa [subSt_none _ _ _ fun _ => rfl] at this
  have here : ∀ (M : Nat → Bool) (id : Nat), id ∈ V → (subSt M (tr l) s).h.get id = s.h.get id := fun M id hid => by
    rw [subSt_h id _ M (fun _ => false) s s (fun j p hj hp => absurd (noIdc lq hid hj) hp) rfl, subSt_none _ _ _ fun _ => rfl]
  have cin : ∀ (M : Nat → Bool) (id : Nat), id ∈ V → ∃ cs, contB M l c0 id = some cs := fun M id hid => contB_in l M c0 (by obtain ⟨cs, _, h⟩ := hc0.in_ id hid; exact ⟨cs, h⟩)
  have cout : ∀ (M : Nat → Bool) (id : Nat), id ∉ V → contB M l c0 id = none := fun M id hid => contB_out (V := V) l M c0 (fun j p hj x hx => by
    obtain ⟨_, _, _, _, X, _, h⟩ := lq j p.1 p.2.1 p.2.2.1 p.2.2.2 hj
    rw [hx] at h
    exact h.2.1) hc0.out id hid
  have bget : ∀ (M : Nat → Bool) (id : Nat) (cs : List ACell), contB M l c0 id = some cs → id ∈ V → ((subSt M (tr l) s).boxedF (contB M l c0)).h.get id = some (.box cs) := fun M id cs hcs hid => by
    obtain ⟨c1, h1, _⟩ := hc0.in_ id hid
    rw [boxedF_get, hcs]
    simp only
    rw [here M id hid, h1]
    rfl
  have wanted : ∀ {o : Oper} {j : Nat} {a' : Act}, g[j]? = some o → (∀ t, t ∉ dstsL g → a'.tmps.getD t undef = a.tmps.getD t undef) → Region.wanted o (yielded ops a'.tmps) = true := fun {o j a'} hgo k1 => by
    have hgu := ho.guard j o hgo
    cases hg' : segGuard g with
    | none => unfold Region.wanted; rw [hgu, hg']
    | some g' => exact ((hgd g' hg').keep k1).wanted (hgu.trans hg')
  have chainM : ∀ {i j : Nat} {p q : Oper}, g[i]? = some p → g[j]? = some q → i < j → mustOrd E p q = true → Nat.testBit (A.getD (pre.length + j) 0) (pre.length + i) = true := fun {i j p q} hi hj hij hm => by
    have h1 := List.all_eq_true.1 hch (p, i) (List.mem_zipIdx_iff_getElem?.2 hi)
    have h2 := List.all_eq_true.1 h1 (q, j) (List.mem_zipIdx_iff_getElem?.2 hj)
    have hb : Nat.blt i j = true := by simp [Nat.blt]; omega
    simp only [hb, Bool.not_true, Bool.false_or, hm] at h2
    exact h2
  have some_ : ∀ {p : Oper}, asideId E p ≠ none → (asideId E p).isSome = true := fun {p} hp => by
    cases h : asideId E p with
    | none => exact absurd h hp
    | some _ => rfl
  have chain : ∀ {i j : Nat} {p q : Oper}, g[i]? = some p → g[j]? = some q → i < j → asideId E p ≠ none → asideId E q ≠ none → Nat.testBit (A.getD (pre.length + j) 0) (pre.length + i) = true := fun {i j p q} hi hj hij hp hq =>
    chainM hi hj hij (by unfold mustOrd; rw [some_ hp, some_ hq]; rfl)
  have bxOf : ∀ {j : Nat} {o : Oper} {v : AVal} {os : AHeap} {bx : Option (Nat × List ACell)}, l[j]? = some (o, v, os, bx) → (bx ≠ none ↔ asideId E o ≠ none) := fun {j o v os bx} hj => by
    obtain ⟨_, _, _, _, X, _, h⟩ := lq j o v os bx hj
    cases bx with
    | none => exact ⟨fun h => absurd rfl h, fun h' => absurd h.1 h'⟩
    | some ck => exact ⟨fun _ => h.1, fun _ => by simp⟩
  have small : ∀ {o : Oper} {j : Nat} {t : Nat}, g[j]? = some o → .tmp t ∈ o.op.operands → t < 1000000 := fun {o j t} hj hm => by
    have h1 := List.all_eq_true.1 hbig o (List.mem_of_getElem? hj)
    have h2 := List.all_eq_true.1 h1 t (List.mem_filterMap.2 ⟨.tmp t, Array.mem_toList_iff.2 hm, rfl⟩)
    exact Nat.lt_of_succ_le (by simpa [Nat.blt] using h2)
  refine any_walk hA hs hb (fun M a' w' => (∀ t, t ∉ dstsL g → a'.tmps.getD t undef = a.tmps.getD t undef) ∧ a'.tmps.size = a.tmps.size ∧ ∃ S' m', Rel w0 B M0 S' m' ((subSt M (tr l) s).boxedF (contB M l c0)) a' w' ∧ Ext B M0 S S' w w') ?_ ?_ ?_ hlst
  · intro M M' k o a' w' next hgo hMk hM' hanc hdes ⟨kp, ksz, S1, m1, R1, X1⟩ hnext
    rw [if_pos (wanted hgo kp)]
    obtain ⟨v, os, bx, hlk⟩ : ∃ v os bx, l[k]? = some (o, v, os, bx) := by
      rw [← lg, List.getElem?_map] at hgo
      cases hp : l[k]? with
      | none => rw [hp] at hgo; cases hgo
      | some p => rw [hp] at hgo; simp at hgo; subst hgo; exact ⟨p.2.1, p.2.2.1, p.2.2.2, rfl⟩
    have hother : ∀ (i : Nat) (o' : Oper) (t : Nat), g[i]? = some o' → dstC o' = some t → .tmp t ∈ o.op.operands → decide (i < k) = M i := fun i o' t hi ht hm => by
      have hlt := small hgo hm
      have ht : o'.dst = some t := by
        unfold dstC at ht
        split at ht
        · rename_i d hd; rw [hd]; exact ht
        · split at ht
          · cases ht; omega
          · cases ht
      have hord := ho.order k i o o' t hgo hi ht hm
      have hil : i < g.length := (List.getElem?_eq_some_iff.1 hi).1
      rcases Nat.lt_trichotomy i k with hik | hik | hik
      · have := hanc i hil (hord.1 hik)
        simp [hik, this]
      · subst hik; simp [hMk]
      · rw [hdes i hil (hord.2 hik)]; simp; omega
    have htr := tr_get hlk
    have hadd := subSt_add Ap (L := M) (L' := M') htr hMk hM' s
    have keep : ∀ v' : Value, ∀ t, t ∉ dstsL g → (a'.put o.dst v').tmps.getD t undef = a.tmps.getD t undef := fun v' t ht => by
      have hdst : o.dst ≠ some t := fun hd => ht (List.mem_filterMap.2 ⟨o, List.mem_of_getElem? hgo, hd⟩)
      rw [← kp t ht]
      exact Act.eval_put (a := a') (dst := o.dst) (v := v') (x := .tmp t) (fun d hd hx => hdst (by cases hx; exact hd))
    have psz : ∀ v' : Value, (a'.put o.dst v').tmps.size = a.tmps.size := fun v' => by rw [size_put]; exact ksz
    obtain ⟨q0, q1, q2, q3, X, q4, q5⟩ := lq k o v os bx hlk
    have hclM : Clear ((subSt M (tr l) s).boxedF (contB M l c0)) ((dstC o).getD 0) := fun id i1 i2 => by
      have hne : id ∉ V := fun h => q2 id h ⟨i1, i2⟩
      rw [boxedF_get, cout M id hne]
      exact clr htr hMk id i1 i2
    have hnos : ∀ id ∈ V, AHeap.get os id = none := fun id hid => noIdc lq hid htr
    have hevX : ∀ x ∈ o.op.operands, X.ev x = ((subSt M (tr l) s).boxedF (contB M l c0)).ev x := fun x hx => by
      cases x with
      | tmp t =>
        show X.ρ.getD t (.one .und) = (subSt M (tr l) s).ρ.getD t (.one .und)
        rw [q4 t]
        exact subSt_ρ t _ _ M s s (fun i p hp hpd => by
          obtain ⟨o', e1, hi⟩ := at_ hp
          rw [e1] at hpd
          exact hother i o' t hi hpd hx) rfl rfl
      | _ => rfl
    cases bx with
    | none =>
      simp only at q5
      obtain ⟨q6, q7, q8, q9⟩ := q5
      have hoc : oC o = o := by unfold oC; rw [q7]
      rw [hoc] at hadd
      rw [q7] at hclM
      have hcont : contB M' l c0 = contB M l c0 := contB_congr l M' M c0 fun j p hj hn => by
        rw [hM' j]
        by_cases hjk : j = k
        · subst hjk
          rw [hlk] at hj
          cases hj
          exact absurd rfl hn
        · simp [hjk]
      refine quiet_wp hE hB0 R1 q8 hevX (fun id x h5 h6 => ?_) hclM fun v' w1 S2 m2 R2 W2 n2 => ?_
      · rcases q9 id x h5 with ⟨k1, k2⟩ | ⟨k1, k2, cs, k3, rfl⟩
        · rw [boxedF_get, cout M id k1] at h6 ⊢
          exact subSt_agree Ap hsb _ M id x k2 h6
        · refine bget M id cs ?_ k2
          rw [← k3]
          refine congrFun (contB_congr l _ _ c0 fun j p hj hn => ?_) id
          have hgj : g[j]? = some p.1 := by rw [← lg, List.getElem?_map, hj]; rfl
          have hjl : j < g.length := (List.getElem?_eq_some_iff.1 hgj).1
          have haj : asideId E p.1 ≠ none := (bxOf (o := p.1) (v := p.2.1) (os := p.2.2.1) (bx := p.2.2.2) hj).1 hn
          rcases Nat.lt_trichotomy j k with hjk | hjk | hjk
          · rw [hanc j hjl (chainM hgj hgo hjk (by unfold mustOrd; rw [some_ haj, k1]; simp))]; simp [hjk]
          · subst hjk; rw [hgo] at hgj; cases hgj; exact absurd q6 haj
          · rw [hdes j hjl (chainM hgo hgj hjk (by unfold mustOrd; rw [some_ haj, k1]; simp))]; simp; omega
      · refine hnext _ _ ⟨keep v', psz v', S2, m2, R2.same ⟨?_, fun t => ?_, fun id => ?_⟩, X1.trans (W2.ext n2)⟩
        · rw [ap_len]
          show (subSt M (tr l) s).ρ.length = (subSt M' (tr l) s).ρ.length
          rw [subSt_len, subSt_len]
        · rw [ap_getD]
          show _ = (subSt M' (tr l) s).ρ.getD t (.one .und)
          rw [← hadd.ρ t, ap_getD]
          rfl
        · rw [ap_get, hcont]
          by_cases hid : id ∈ V
          · obtain ⟨cs, hcs⟩ := cin M id hid
            have hcs' : contB M' l c0 id = some cs := by rw [hcont]; exact hcs
            have b1 := bget M id cs hcs hid
            have b2 := bget M' id cs hcs' hid
            rw [hcont] at b2
            rw [hnos id hid, b1, b2]
            rfl
          · rw [boxedF_get, boxedF_get, cout M id hid]
            simp only
            rw [← hadd.h id, ap_get]
    | some ck =>
      simp only at q5
      obtain ⟨q6, q7, ⟨cs, hcs, hX⟩, hcb⟩ := q5
      have hall : ∀ (j : Nat) (p : Oper × AVal × AHeap × Option (Nat × List ACell)), l[j]? = some p → p.2.2.2 ≠ none → M j = decide (j < k) := fun j p hj hn => by
        have hgj : g[j]? = some p.1 := by rw [← lg, List.getElem?_map, hj]; rfl
        have hjl : j < g.length := (List.getElem?_eq_some_iff.1 hgj).1
        have haj : asideId E p.1 ≠ none := (bxOf (o := p.1) (v := p.2.1) (os := p.2.2.1) (bx := p.2.2.2) hj).1 hn
        rcases Nat.lt_trichotomy j k with hjk | hjk | hjk
        · rw [hanc j hjl (chain hgj hgo hjk haj q6)]; simp [hjk]
        · subst hjk; simp [hMk]
        · rw [hdes j hjl (chain hgo hgj hjk q6 haj)]; simp; omega
      have hcM : contB M l c0 = contB (fun i => decide (i < k)) l c0 := contB_congr l _ _ c0 hall
      have hcM' : contB M' l c0 = contOne true (some ck) (contB M l c0) := by
        rw [contB_congr l M' (fun i => decide (i < k + 1)) c0 fun j p hj hn => by
          rw [hM' j, hall j p hj hn]
          by_cases hjk : j = k
          · subst hjk; simp
          · by_cases h : j < k
            · have : j < k + 1 := by omega
              simp [h, this]
            · have : ¬ j < k + 1 := by omega
              simp [h, this, hjk]]
        rw [hcM]
        exact contB_step l k c0 _ hlk
      have hcb' := hcb.agree hevX (by rw [hX, bget M ck.1 cs (by rw [hcM]; exact hcs) q7])
      refine hcb'.wp hE hB0 R1 hclM (q2 ck.1 q7) fun v' w1 S2 m2 R2 X2 => ?_
      refine hnext _ _ ⟨keep v', psz v', S2, m2, R2.same ⟨?_, fun t => ?_, fun id => ?_⟩, X1.trans X2⟩
      · have : ∀ z : AS, (z.put (dstC o) v).ρ.length = z.ρ.length := fun z => by cases dstC o <;> simp [AS.put]
        rw [this]
        show (subSt M (tr l) s).ρ.length = (subSt M' (tr l) s).ρ.length
        rw [subSt_len, subSt_len]
      · rw [put_getD]
        show _ = (subSt M' (tr l) s).ρ.getD t (.one .und)
        rw [← hadd.ρ t, ap_getD]
        rfl
      · have hpush : ∀ (z : AS), (z.put (dstC o) v).h = z.h := fun z => by cases dstC o <;> rfl
        rw [hpush]
        show (os ++ ((((subSt M (tr l) s).boxedF (contB M l c0))).upd ck.1 (.box ck.2)).h).get id = _
        rw [get_append]
        have hu : (((((subSt M (tr l) s).boxedF (contB M l c0))).upd ck.1 (.box ck.2)).h).get id = if id = ck.1 then (((subSt M (tr l) s).boxedF (contB M l c0)).h.get id).map (fun _ => .box ck.2) else ((subSt M (tr l) s).boxedF (contB M l c0)).h.get id := get_upd _ _ _ _
        rw [hu]
        by_cases hid : id ∈ V
        · obtain ⟨c1, hc1⟩ := cin M id hid
          have b1 := bget M id c1 hc1 hid
          by_cases hi : id = ck.1
          · have hc2 : contB M' l c0 id = some ck.2 := by rw [hcM']; simp [contOne, hi]
            rw [if_pos hi, b1, bget M' id _ hc2 hid, hnos id hid]
            rfl
          · have hc2 : contB M' l c0 id = some c1 := by rw [hcM']; simp [contOne, hi, hc1]
            rw [if_neg hi, b1, bget M' id _ hc2 hid, hnos id hid]
            rfl
        · have hi : ¬ id = ck.1 := fun e => hid (e ▸ q7)
          rw [if_neg hi, boxedF_get, boxedF_get, cout M id hid, cout M' id hid]
          simp only
          rw [← hadd.h id, ap_get]
  · intro M a' w' lst hall ⟨kp, ksz, S1, m1, R1, X1⟩ hup
    have hst2 : subSt M (tr l) s = subSt (fun _ => true) (tr l) s := subSt_congr _ _ _ s fun j hj => hall j (by omega)
    have hcc : contB M l c0 = contB (fun _ => true) l c0 := contB_congr l _ _ c0 fun j p hj _ => hall j (by
      have := (List.getElem?_eq_some_iff.1 hj).1
      have h2 : l.length = g.length := by rw [← lg]; simp
      omega)
    rw [hst2, hcc] at R1
    have hlt : s.t < sf.t := ltl (by
      have hm : id0 ∈ stretchIds E g := by rw [hst, hVe]; simp
      obtain ⟨o, h1, h2⟩ := List.mem_filterMap.1 hm
      exact ⟨o, h1, by rw [h2]; simp⟩)
    exact K sf a' w' S1 m1 lst lk ⟨R1.same lsame, X1, lt, fun et => by omega, kp, ksz⟩ hup
  · have h0 := subSt_none (tr l) (fun _ => false) s fun _ => rfl
    refine ⟨fun _ _ => rfl, rfl, S, m, ?_, Ext.refl B M0 S w⟩
    have hsm := hc0.same
    rw [h0, contB_none]
    exact R.same ⟨hsm.len.symm, fun t => (hsm.ρ t).symm, fun id => (hsm.h id).symm⟩
end
end Go.Ab
