/-
  An object turns: a variable is written, an element of an own slice is written, an own slice grows.
-/
import Derived.Test.YtbbfieonkkgkkaaXState
namespace Go.Ab
open Go Go.RowKit

def ACell.refs (id : Nat) : ACell → Bool
  | .os j | .op j _ | .oe j _ _ | .sb j _ _ _ _ => Nat.beq j id
  | _ => false

section
variable {P : Program} {E : Env} {h : HGet} {S : Blk} {w w' w0 : World} {m m' : OMap} {B : Nat} {M0 : Blk}

/-- one object's place in memory has turned, nothing else that was there -/
structure Turn (h : HGet) (S : Blk) (w w' : World) (m m' : OMap) (id : Nat) (c : OC) : Prop where
  here : h id ≠ none
  at_ : m id = some c
  size : w.heap.size ≤ w'.heap.size
  rest : ∀ q, q < w.heap.size → ¬ c.F q → w'.heap[q]? = w.heap[q]?
  map : ∀ j, j ≠ id → m' j = m j

theorem Turn.stay {id : Nat} {c : OC} (T : Turn h S w w' m m' id c) (M : Mem h S w m B M0) : ∀ q, S q → w'.heap[q]? = w.heap[q]? :=
  fun q hq => T.rest q (M.lt q hq) fun hF => (M.apart id c T.here T.at_ q hF).1 hq
theorem Turn.own {id : Nat} {c : OC} (T : Turn h S w w' m m' id c) (M : Mem h S w m B M0) : ∀ j d, j ≠ id → h j ≠ none → m j = some d → ∀ q, d.F q → w'.heap[q]? = w.heap[q]? :=
  fun j d hj hn hd q hq => T.rest q (M.apart j d hn hd q hq).2.1 fun hF => M.dis j id d c hj hn T.here hd T.at_ q hq hF

theorem carry_turn {id : Nat} {c0 : OC} (T : Turn h S w w' m m' id c0) (M : Mem h S w m B M0) {h' : HGet} {f : ACell → ACell} (hh : ∀ j, j ≠ id → h' j = (h j).map (AObj.mapC f))
    (hf : ∀ c, c.refs id = false → f c = c ∨ f c = .und) (hid : ∀ c v, c.refs id = true → CellRel h S w m c v → CellRel h' S w' m' (f c) v) : Carry h h' S S w w' m m' f := by
  refine ⟨fun c v r => ?_⟩
  cases hr : c.refs id with
  | true => exact hid c v hr r
  | false =>
    rcases hf c hr with e | e
    · rw [e]
      cases c with
      | und => trivial
      | nils => exact r
      | pv t x => exact ⟨r.1, r.2.mono (fun _ h => h) (T.stay M) T.size⟩
      | pc t x => obtain ⟨b, o, ds, h1, h2, h3, h4, h5⟩ := r; exact ⟨b, o, ds, h1, h2, Nat.lt_of_lt_of_le h3 T.size, h4.mono (T.stay M b h2), h5.mono (fun _ h => h) (T.stay M) T.size⟩
      | os j =>
        have hj : j ≠ id := fun e => by subst e; simp [ACell.refs] at hr
        obtain ⟨⟨d, t, xs, ho⟩, c, hc, hv⟩ := r
        exact ⟨⟨d, t, xs, by rw [hh j hj, ho]; rfl⟩, c, (T.map j hj).trans hc, hv⟩
      | op j off =>
        have hj : j ≠ id := fun e => by subst e; simp [ACell.refs] at hr
        obtain ⟨⟨cs, ho⟩, c, b, hc, rest⟩ := r
        exact ⟨⟨_, by rw [hh j hj, ho]; rfl⟩, c, b, (T.map j hj).trans hc, rest⟩
      | oe j i off =>
        have hj : j ≠ id := fun e => by subst e; simp [ACell.refs] at hr
        obtain ⟨⟨d, t, xs, ho, hi⟩, c, g, n, cap, hc, rest⟩ := r
        exact ⟨⟨d, t, xs, by rw [hh j hj, ho]; rfl, hi⟩, c, g, n, cap, (T.map j hj).trans hc, rest⟩
      | sb j i off e' y =>
        have hj : j ≠ id := fun e => by subst e; simp [ACell.refs] at hr
        obtain ⟨d, xs, ho, hi, hd, hu, c, g, n, cap, hc, hv, hcell⟩ := r
        refine ⟨d, xs, by rw [hh j hj, ho]; rfl, hi, hd, hu, c, g, n, cap, (T.map j hj).trans hc, hv, ?_⟩
        obtain ⟨c', hc', hob⟩ := M.obj j _ ho
        obtain rfl : c' = c := Option.some.inj (hc'.symm.trans hc)
        exact (World.cell?_of_block (w := w) (w' := w') (T.own M j c' hj (heap_ne ho) hc g (arr_block hob.2 hv))).trans hcell
      | cl g caps => exact r
    · rw [e]; trivial

theorem mem_turn {id : Nat} {c0 c' : OC} {o' : AObj} (T : Turn h S w w' m m' id c0) (M : Mem h S w m B M0) (hB : B ≤ w.heap.size) {h' : HGet} {f : ACell → ACell} (F : Carry h h' S S w w' m m' f) (hh : ∀ j, j ≠ id → h' j = (h j).map (AObj.mapC f))
    (ho : h' id = some o') (hc : m' id = some c') (hob : ObjRel h' S w' m' o' c') (hF : ∀ q, c'.F q → c0.F q ∨ (w.heap.size ≤ q ∧ q < w'.heap.size)) : Mem h' S w' m' B M0 := by
  have hne : ∀ j, j ≠ id → h' j ≠ none → h j ≠ none := fun j hj hn e => hn (by rw [hh j hj, e]; rfl)
  have far : ∀ j d q, j ≠ id → h' j ≠ none → m' j = some d → d.F q → c'.F q → False := fun j d q hj hn hd hq hq' => by
    have hd' := (T.map j hj).symm.trans hd
    rcases hF q hq' with hx | hx
    · exact M.dis j id d c0 hj (hne j hj hn) T.here hd' T.at_ q hq hx
    · have := (M.apart j d (hne j hj hn) hd' q hq).2.1; omega
  refine ⟨fun j o e => ?_, fun i j c d hij hi hj hci hdj q hq hq' => ?_, fun i c hi hci q hq => ?_, fun q hq => Nat.lt_of_lt_of_le (M.lt q hq) T.size⟩
  · by_cases hj : j = id
    · subst hj
      rw [ho] at e
      cases e
      exact ⟨c', hc, hob⟩
    · rw [hh j hj] at e
      cases hoj : h j with
      | none => rw [hoj] at e; cases e
      | some o1 =>
        rw [hoj] at e
        simp only [Option.map_some, Option.some.injEq] at e
        subst e
        obtain ⟨c1, h1, h2⟩ := M.obj j o1 hoj
        refine ⟨c1, (T.map j hj).trans h1, ?_⟩
        have hown := T.own M j c1 hj (heap_ne hoj) h1
        cases o1 with
        | box cs => obtain ⟨b, cur, e, k1, k2, k3, k4⟩ := h2; exact ⟨b, cur, e, k1, (hown b ((k4 b).2 rfl)).trans k2, k3.carry F, k4⟩
        | arr d t ys => exact ⟨h2.1, h2.2.mono (fun _ h => h) (T.stay M) hown T.size⟩
  · by_cases ei : i = id
    · subst ei
      obtain rfl : c' = c := Option.some.inj (hc.symm.trans hci)
      exact far j d q (fun e => hij e.symm) hj hdj hq' hq
    · by_cases ej : j = id
      · subst ej
        obtain rfl : c' = d := Option.some.inj (hc.symm.trans hdj)
        exact far i c q ei hi hci hq hq'
      · exact M.dis i j c d hij (hne i ei hi) (hne j ej hj) ((T.map i ei).symm.trans hci) ((T.map j ej).symm.trans hdj) q hq hq'
  · by_cases ei : i = id
    · subst ei
      obtain rfl : c' = c := Option.some.inj (hc.symm.trans hci)
      rcases hF q hq with hx | hx
      · have := M.apart i c0 T.here T.at_ q hx
        exact ⟨this.1, Nat.lt_of_lt_of_le this.2.1 T.size, this.2.2⟩
      · exact ⟨fun hs => by have := M.lt q hs; omega, hx.2, .inl (by omega)⟩
    · have := M.apart i c (hne i ei hi) ((T.map i ei).symm.trans hci) q hq
      exact ⟨this.1, Nat.lt_of_lt_of_le this.2.1 T.size, this.2.2⟩

theorem frm_turn {id : Nat} {c0 : OC} (T : Turn h S w w' m m' id c0) (M : Mem h S w m B M0) (hB : B ≤ w.heap.size) (hF : Frm w0 w B M0) (ho : w'.os = w.os) (ht : w'.tape = w.tape) (hu : w'.output = w.output) (hz : ∀ a, w'.frozen? a = w.frozen? a) : Frm w0 w' B M0 :=
  ⟨ho.trans hF.os, ht.trans hF.tape, hu.trans hF.output, Nat.le_trans hF.size T.size, fun q hq hm => (T.rest q (Nat.lt_of_lt_of_le hq hB) fun hc => by
    rcases (M.apart id c0 T.here T.at_ q hc).2.2 with hx | hx
    · omega
    · exact hm hx).trans (hF.block q hq hm), fun a => (hz a).trans (hF.fz a)⟩

theorem frozen_setRow {w : World} {b : Nat} {cs ncs : Array Value} {t : TypeId} {i : Nat × Nat} (h : w.heap[b]? = some (.cells cs t i)) (a : Addr) : (w.setRow b ncs).frozen? a = w.frozen? a := by
  by_cases e : a.block = b
  · simp only [World.frozen?, e, setRow_heap w b cs ncs t i h, h]
  · simp only [World.frozen?, setRow_other w b a.block ncs e]

theorem mapC_id (o : AObj) : o.mapC (fun c => c) = o := by cases o <;> simp [AObj.mapC]
theorem mapCV_id (v : AVal) : v.mapC (fun c => c) = v := by cases v <;> simp [AVal.mapC]

theorem get_upd : ∀ (h : AHeap) (id : Nat) (o : AObj) (j : Nat), AHeap.get (h.map fun p => bif Nat.beq p.1 id then (p.1, o) else p) j = if j = id then (AHeap.get h j).map (fun _ => o) else AHeap.get h j
  | [], _, _, _ => by simp [AHeap.get]
  | (i, x) :: r, id, o, j => by
    have ih := get_upd r id o j
    simp only [List.map_cons]
    cases hb : Nat.beq i id with
    | true =>
      have := Nat.eq_of_beq_eq_true hb
      subst this
      simp only [cond_true, AHeap.get]
      cases hj : Nat.beq i j with
      | true => have := Nat.eq_of_beq_eq_true hj; subst this; simp
      | false => simpa using ih
    | false =>
      simp only [cond_false, AHeap.get]
      cases hj : Nat.beq i j with
      | true =>
        have := Nat.eq_of_beq_eq_true hj
        subst this
        have : i ≠ id := fun e => by subst e; simp at hb
        simp [this]
      | false => simpa using ih

theorem get_updA : ∀ (h : AHeap) (id : Nat) (o : AObj) (j : Nat), AHeap.get (h.map fun p => bif Nat.beq p.1 id then (p.1, o) else (p.1, p.2.killSb id)) j = if j = id then (AHeap.get h j).map (fun _ => o) else (AHeap.get h j).map (AObj.killSb id)
  | [], _, _, _ => by simp [AHeap.get]
  | (i, x) :: r, id, o, j => by
    have ih := get_updA r id o j
    simp only [List.map_cons]
    cases hb : Nat.beq i id with
    | true =>
      have := Nat.eq_of_beq_eq_true hb
      subst this
      simp only [cond_true, AHeap.get]
      cases hj : Nat.beq i j with
      | true => have := Nat.eq_of_beq_eq_true hj; subst this; simp
      | false => simpa using ih
    | false =>
      simp only [cond_false, AHeap.get]
      cases hj : Nat.beq i j with
      | true =>
        have := Nat.eq_of_beq_eq_true hj
        subst this
        have : i ≠ id := fun e => by subst e; simp at hb
        simp [this]
      | false => simpa using ih

theorem size_setRow (g : Nat) (cur : Array Value) : (w.setRow g cur).heap.size = w.heap.size := by simp [World.setRow]

/-- a variable's cells are written -/
theorem Rel.storeBox {s : AS} {a : Act} (R : Rel w0 B M0 S m s a w) (hB : B ≤ w.heap.size) {id off : Nat} {cs ds : List ACell} {us : List Value} (ho : s.h.get id = some (.box cs)) (hd : CellsRel s.h.get S w m ds us) (hl : off + ds.length ≤ cs.length) {b o : Nat} {c : OC}
    (hc : m id = some c) (hv : c.v = .pointer (some ⟨b, o, none⟩)) : ∃ w', (storeCells ⟨b, off, none⟩ us).run P w = .ok () w' ∧ Rel w0 B M0 S m (s.upd id (.box (splice cs off ds))) a w' ∧ w.heap.size ≤ w'.heap.size ∧ ∀ q, S q → w'.heap[q]? = w.heap[q]? := by
  obtain ⟨c', hc', b', cur, e, k1, k2, k3, k4⟩ := R.mem.obj id _ ho
  obtain rfl : c' = c := Option.some.inj (hc'.symm.trans hc)
  rw [k1] at hv
  simp only [Value.pointer.injEq, Option.some.injEq, Addr.mk.injEq] at hv
  obtain ⟨rfl, _⟩ := hv
  have hlen : us.length = ds.length := hd.1.symm
  have hcur : cur.size = cs.length := by have := k3.1; simp at this; omega
  have hst := run_storeCells_at P b' off e us 0 cur w k2 (by omega) hd.2.1
  simp only [Nat.add_zero] at hst
  refine ⟨_, hst, ?_⟩
  generalize hnew : (cur.toList.take off ++ us ++ cur.toList.drop (off + us.length)).toArray = ncur
  have T : Turn s.h.get S w (w.setRow b' ncur) m m id c' :=
    ⟨heap_ne ho, hc, by rw [size_setRow]; exact Nat.le_refl _, fun q hq hF => setRow_other w b' q ncur (fun e => hF ((k4 q).2 e)), fun _ _ => rfl⟩
  have hget : ∀ j, (s.upd id (.box (splice cs off ds))).h.get j = if j = id then some (.box (splice cs off ds)) else s.h.get j := by
    intro j
    show AHeap.get _ j = _
    rw [AS.upd, get_upd]
    split
    · rename_i e; subst e; rw [ho]; rfl
    · rfl
  have hh : ∀ j, j ≠ id → (s.upd id (.box (splice cs off ds))).h.get j = (s.h.get j).map (AObj.mapC fun c => c) := fun j hj => by
    rw [hget j, if_neg hj]; cases s.h.get j <;> simp [mapC_id]
  have F : Carry s.h.get (s.upd id (.box (splice cs off ds))).h.get S S w (w.setRow b' ncur) m m (fun c => c) := by
    refine carry_turn T R.mem hh (fun c _ => .inl rfl) (fun c v hr r => ?_)
    cases c with
    | op j off' =>
      have := Nat.eq_of_beq_eq_true hr
      subst this
      obtain ⟨_, rest⟩ := r
      exact ⟨⟨_, by rw [hget j, if_pos rfl]⟩, rest⟩
    | os j => have := Nat.eq_of_beq_eq_true hr; subst this; obtain ⟨⟨_, _, _, hx⟩, _⟩ := r; rw [ho] at hx; cases hx
    | oe j i off' => have := Nat.eq_of_beq_eq_true hr; subst this; obtain ⟨⟨_, _, _, hx, _⟩, _⟩ := r; rw [ho] at hx; cases hx
    | sb j i off' e' y => have := Nat.eq_of_beq_eq_true hr; subst this; obtain ⟨_, _, hx, _⟩ := r; rw [ho] at hx; cases hx
    | _ => cases hr
  have hcells : CellsRel (s.upd id (.box (splice cs off ds))).h.get S (w.setRow b' ncur) m (splice cs off ds) ncur.toList := by
    have := (k3.splice hd off).imp F.cell
    have e3 : ncur.toList = cur.toList.take off ++ us ++ cur.toList.drop (off + us.length) := by rw [← hnew]
    rw [e3]
    exact this
  refine ⟨⟨mem_turn (o' := .box (splice cs off ds)) T R.mem hB F hh (by rw [hget id, if_pos rfl]) hc ⟨b', ncur, e, k1, setRow_heap w b' cur ncur e _ k2, hcells, k4⟩ (fun q hq => .inl hq), frm_turn T R.mem hB R.frm rfl rfl rfl (frozen_setRow k2), ?_, R.size, R.defers⟩, T.size, T.stay R.mem⟩
  have := tmps_carry F R.tmps rfl
  have e2 : s.ρ.map (AVal.mapC fun c => c) = s.ρ := by
    have : (AVal.mapC fun c => c) = _root_.id := funext mapCV_id
    rw [this]; simp
  rw [e2] at this
  exact this

end
end Go.Ab
