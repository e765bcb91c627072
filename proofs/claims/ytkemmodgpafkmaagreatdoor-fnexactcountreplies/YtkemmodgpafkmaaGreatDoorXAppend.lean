/-
  Many objects turn at once.
-/
import Derived.Test.YtkemmodgpafkmaaGreatDoorXOwn
import Derived.Laws.AppendOwn
namespace Go.Ab
open Go Go.RowKit
section
variable {P : Program} {E : Env} {h : HGet} {S : Blk} {w w' w0 : World} {m m' : OMap} {B : Nat} {M0 : Blk}
def InD (h : HGet) (m : OMap) (D : Nat → Prop) : Blk := fun q => ∃ id c, D id ∧ h id ≠ none ∧ m id = some c ∧ c.F q
open Classical in
theorem Rel.turnD [Tabs] {s s' : AS} {a : Act} (R : Rel w0 B M0 S m s a w) (hB : B ≤ w.heap.size) (D : Nat → Prop) (f : ACell → ACell) (Fn : Nat → Blk)
    (hsz : w.heap.size ≤ w'.heap.size) (hrest : ∀ q, q < w.heap.size → ¬ InD s.h.get m D q → w'.heap[q]? = w.heap[q]?) (hos : w'.os = w.os) (ht : w'.tape = w.tape) (hu : w'.output = w.output) (hz : ∀ a : Addr, a.block < w.heap.size → w'.frozen? a = w.frozen? a)
    (hρ : s'.ρ = s.ρ.map (AVal.mapC f)) (hh : ∀ j, ¬ D j → s'.h.get j = (s.h.get j).map (AObj.mapC f)) (hf : ∀ c, f c = c ∨ f c = .und) (hsb : ∀ j i off e y, D j → f (.sb j i off e y) = .und) (hvw : ∀ j k, D j → f (.vw j k) = .und)
    (hnew : ∀ j, D j → ∃ d t xs c d' ys, s.h.get j = some (.arr d t xs) ∧ m j = some c ∧ s'.h.get j = some (.arr d' t ys) ∧ ys.length = xs.length ∧ ArrRel S w' d' t c.v ys (Fn j) ∧ ∀ q, Fn j q → InD s.h.get m D q ∨ (w.heap.size ≤ q ∧ q < w'.heap.size))
    (hdis : ∀ i j, D i → D j → i ≠ j → ∀ q, Fn i q → Fn j q → False) :
    ∃ m', Rel w0 B M0 S m' s' a w' ∧ (∀ q, S q → w'.heap[q]? = w.heap[q]?) ∧ (∀ j c, m j = some c → ∃ c', m' j = some c' ∧ c'.v = c.v ∧ c'.e = c.e) := by
  let m' : OMap := fun j => if D j then (m j).map (fun c => ⟨c.v, Fn j, c.e⟩) else m j
  have M := R.mem
  have notS : ∀ q, InD s.h.get m D q → ¬ S q ∧ q < w.heap.size ∧ (B ≤ q ∨ M0 q) := fun q ⟨id, c, _, hn, hc, hF⟩ => M.apart id c hn hc q hF
  have stay : ∀ q, S q → w'.heap[q]? = w.heap[q]? := fun q hq => hrest q (M.lt q hq) fun hd => (notS q hd).1 hq
  have own : ∀ j c, ¬ D j → s.h.get j ≠ none → m j = some c → ∀ q, c.F q → w'.heap[q]? = w.heap[q]? := fun j c hj hn hc q hq => hrest q (M.apart j c hn hc q hq).2.1 fun ⟨id, c', hd, hn', hc', hF⟩ => M.dis j id c c' (fun e => hj (e ▸ hd)) hn hn' hc hc' q hq hF
  have m1 : ∀ j, ¬ D j → m' j = m j := fun j hj => if_neg hj
  have m2 : ∀ j c, D j → m j = some c → m' j = some ⟨c.v, Fn j, c.e⟩ := fun j c hj hc => by show (if D j then _ else _) = _; rw [if_pos hj, hc]; rfl
  have getD : ∀ {j d t xs}, D j → s.h.get j = some (.arr d t xs) → ∃ d' ys, s'.h.get j = some (.arr d' t ys) ∧ ys.length = xs.length := fun {j d t xs} hj hg => by
    obtain ⟨d0, t0, xs0, c, d', ys, h1, _, h2, h3, _⟩ := hnew j hj
    rw [hg] at h1
    cases h1
    exact ⟨d', ys, h2, h3⟩
  have arrOf : ∀ {j o}, D j → s.h.get j = some o → ∃ d t xs, o = .arr d t xs := fun {j o} hj hg => by
    obtain ⟨d0, t0, xs0, c, d', ys, h1, _⟩ := hnew j hj
    rw [hg] at h1
    exact ⟨d0, t0, xs0, Option.some.inj h1⟩
  have F : Carry s.h.get s'.h.get S S w w' m m' f := by
    refine ⟨fun x v r => ?_⟩
    rcases hf x with e | e
    rotate_left
    · rw [e]; trivial
    cases x with
    | und => rw [e]; trivial
    | nils => rw [e]; exact r
    | pv t x => rw [e]; exact ⟨r.1, r.2.mono (fun _ h => h) stay hsz⟩
    | pc t x => rw [e]; obtain ⟨b, o, ds, h1, h2, h3, h4, h5⟩ := r; exact ⟨b, o, ds, h1, h2, Nat.lt_of_lt_of_le h3 hsz, h4.mono (stay b h2), h5.mono (fun _ h => h) stay hsz⟩
    | cl g caps => rw [e]; obtain ⟨cs, e1, k⟩ := r; exact ⟨cs, e1, k.mono (fun _ h => h) stay hsz⟩
    | os j =>
      rw [e]
      obtain ⟨⟨d, t, xs, h1⟩, c, h2, h3⟩ := r
      by_cases hj : D j
      · obtain ⟨d', ys, k1, _⟩ := getD hj h1
        exact ⟨⟨d', t, ys, k1⟩, _, m2 j c hj h2, h3⟩
      · exact ⟨⟨d, t, xs, by rw [hh j hj, h1]; rfl⟩, c, (m1 j hj).trans h2, h3⟩
    | op j off =>
      rw [e]
      obtain ⟨⟨cs, h1⟩, c, b, h2, rest⟩ := r
      have hj : ¬ D j := fun hj => by obtain ⟨_, _, _, he⟩ := arrOf hj h1; cases he
      exact ⟨⟨_, by rw [hh j hj, h1]; rfl⟩, c, b, (m1 j hj).trans h2, rest⟩
    | oe j i off =>
      rw [e]
      obtain ⟨⟨d, t, xs, h1, hi⟩, c, g, n, cap, h2, h3, h4⟩ := r
      by_cases hj : D j
      · obtain ⟨d', ys, k1, k2⟩ := getD hj h1
        exact ⟨⟨d', t, ys, k1, by omega⟩, _, g, n, cap, m2 j c hj h2, h3, h4⟩
      · exact ⟨⟨d, t, xs, by rw [hh j hj, h1]; rfl, hi⟩, c, g, n, cap, (m1 j hj).trans h2, h3, h4⟩
    | sb j i off e' y =>
      by_cases hj : D j
      · rw [hsb j i off e' y hj] at e; cases e
      · rw [e]
        obtain ⟨d, xs, h1, hi, hd, hu', c, g, n, cap, h2, h3, h4⟩ := r
        refine ⟨d, xs, by rw [hh j hj, h1]; rfl, hi, hd, hu', c, g, n, cap, (m1 j hj).trans h2, h3, ?_⟩
        obtain ⟨c', hc', hob⟩ := M.obj j _ h1
        obtain rfl : c' = c := Option.some.inj (hc'.symm.trans h2)
        exact (World.cell?_of_block (w := w) (w' := w') (own j c' hj (heap_ne h1) h2 g (arr_block hob.2 (Nat.zero_lt_of_lt (List.getElem?_eq_some_iff.1 hi).1) h3))).trans h4
    | vw j k =>
      by_cases hj : D j
      · rw [hvw j k hj] at e; cases e
      · rw [e]
        obtain ⟨o, h1, hnb, c, h2, h3⟩ := r
        cases o with
        | box cs => cases hnb
        | arr d t xs => exact ⟨_, by rw [hh j hj, h1]; rfl, rfl, c, (m1 j hj).trans h2, vk_stay M h1 h2 (own j c hj (heap_ne h1) h2) h3⟩
        | src t i xs => exact ⟨_, by rw [hh j hj, h1]; rfl, rfl, c, (m1 j hj).trans h2, vk_stay M h1 h2 (own j c hj (heap_ne h1) h2) h3⟩
  have hne : ∀ j, s'.h.get j ≠ none → s.h.get j ≠ none := fun j hn e => by
    by_cases hj : D j
    · obtain ⟨d0, t0, xs0, c, d', ys, h1, _⟩ := hnew j hj
      rw [e] at h1; cases h1
    · exact hn (by rw [hh j hj, e]; rfl)
  have newF : ∀ j c, D j → m' j = some c → c.F = Fn j ∧ ∃ c0, m j = some c0 := fun j c hj hc => by
    have hc : (if D j then (m j).map (fun c => (⟨c.v, Fn j, c.e⟩ : OC)) else m j) = some c := hc
    rw [if_pos hj] at hc
    cases h0 : m j with
    | none => rw [h0] at hc; cases hc
    | some c0 => rw [h0] at hc; cases hc; exact ⟨rfl, c0, rfl⟩
  have FnIn : ∀ j, D j → ∀ q, Fn j q → InD s.h.get m D q ∨ (w.heap.size ≤ q ∧ q < w'.heap.size) := fun j hj q hq => by
    obtain ⟨_, _, _, _, _, _, _, _, _, _, _, h6⟩ := hnew j hj
    exact h6 q hq
  have mixed : ∀ i j c c', D i → ¬ D j → s'.h.get j ≠ none → m' i = some c → m' j = some c' → ∀ q, c.F q → c'.F q → False := fun i j c c' hi hj hn hc hc' q hq hq' => by
    rw [(newF i c hi hc).1] at hq
    have hc2 := (m1 j hj).symm.trans hc'
    rcases FnIn i hi q hq with ⟨id, c0, hd, hn0, hc0, hF⟩ | hx
    · exact M.dis id j c0 c' (fun e => hj (e ▸ hd)) hn0 (hne j hn) hc0 hc2 q hF hq'
    · have := (M.apart j c' (hne j hn) hc2 q hq').2.1; omega
  refine ⟨m', ⟨⟨fun j o e => ?_, fun i j c c' hij hi hj hc hc' q hq hq' => ?_, fun i c hi hc q hq => ?_, fun q hq => Nat.lt_of_lt_of_le (M.lt q hq) hsz⟩, ⟨hos.trans R.frm.os, ht.trans R.frm.tape, hu.trans R.frm.output, Nat.le_trans R.frm.size hsz, fun q hq hm => ?_, fun a ha => (hz a (Nat.lt_of_lt_of_le ha R.frm.size)).trans (R.frm.fz a ha), R.frm.tab⟩, ?_, by rw [R.size, hρ]; simp, R.defers⟩, stay, fun j c hc => ?_⟩
  · by_cases hj : D j
    · obtain ⟨d0, t0, xs0, c, d', ys, h1, h2, h3, h4, h5, _⟩ := hnew j hj
      rw [h3] at e
      cases e
      obtain ⟨c', hc', he, _⟩ := M.obj j _ h1
      obtain rfl : c' = c := Option.some.inj (hc'.symm.trans h2)
      exact ⟨_, m2 j c' hj h2, he, h5⟩
    · rw [hh j hj] at e
      cases hj' : s.h.get j with
      | none => rw [hj'] at e; cases e
      | some o1 =>
        rw [hj'] at e
        simp only [Option.map_some, Option.some.injEq] at e
        subst e
        obtain ⟨c1, h1, h2⟩ := M.obj j o1 hj'
        refine ⟨c1, (m1 j hj).trans h1, ?_⟩
        have hown := own j c1 hj (heap_ne hj') h1
        cases o1 with
        | box cs => obtain ⟨b, cur, e, k1, k2, k3, k4⟩ := h2; exact ⟨b, cur, e, k1, (hown b ((k4 b).2 rfl)).trans k2, k3.carry F, k4⟩
        | arr d t ys => exact ⟨h2.1, h2.2.mono (fun _ h => h) stay hown hsz⟩
        | src t k ys => exact ⟨h2.1, h2.2.mono hown⟩
  · by_cases di : D i
    · by_cases dj : D j
      · rw [(newF i c di hc).1] at hq
        rw [(newF j c' dj hc').1] at hq'
        exact hdis i j di dj hij q hq hq'
      · exact mixed i j c c' di dj hj hc hc' q hq hq'
    · by_cases dj : D j
      · exact mixed j i c' c dj di hi hc' hc q hq' hq
      · exact M.dis i j c c' hij (hne i hi) (hne j hj) ((m1 i di).symm.trans hc) ((m1 j dj).symm.trans hc') q hq hq'
  · by_cases di : D i
    · rw [(newF i c di hc).1] at hq
      rcases FnIn i di q hq with hx | hx
      · have := notS q hx
        exact ⟨this.1, Nat.lt_of_lt_of_le this.2.1 hsz, this.2.2⟩
      · exact ⟨fun hs => by have := M.lt q hs; omega, hx.2, .inl (by omega)⟩
    · have := M.apart i c (hne i hi) ((m1 i di).symm.trans hc) q hq
      exact ⟨this.1, Nat.lt_of_lt_of_le this.2.1 hsz, this.2.2⟩
  · exact (hrest q (Nat.lt_of_lt_of_le hq hB) fun hd => by
      rcases (notS q hd).2.2 with hx | hx
      · omega
      · exact hm hx).trans (R.frm.block q hq hm)
  · have hund : f .und = .und := (hf .und).elim (fun h => h) fun h => h
    have := tmps_carry F R.tmps hund
    rw [hρ]
    exact this
  · by_cases hj : D j
    · exact ⟨_, m2 j c hj hc, rfl, rfl⟩
    · exact ⟨c, (m1 j hj).trans hc, rfl, rfl⟩
end
end Go.Ab
namespace Go.Ab
open Go Go.RowKit
section
variable {P : Program} {E : Env} {h : HGet} {S : Blk} {w w' w0 : World} {m m' : OMap} {B : Nat} {M0 : Blk}
theorem Rel.rebornX [Tabs] {X : Blk} {s : AS} {a : Act} (R : Rel w0 B M0 S m s a w) (hB : B ≤ w.heap.size) {id : Nat} {o0 : AObj} (ho : s.h.get id = some o0) {c : OC} (hc : m id = some c) {d : Bool} {t : Ty} {zs : List t.den} {v : Value} {F' : Blk}
    (hsz : w.heap.size ≤ w'.heap.size) (hrest : ∀ q, q < w.heap.size → ¬ c.F q → w'.heap[q]? = w.heap[q]?) (hos : w'.os = w.os) (ht : w'.tape = w.tape) (hu : w'.output = w.output) (hz : ∀ a : Addr, a.block < w.heap.size → w'.frozen? a = w.frozen? a)
    (hrel : ArrRel S w' d t v zs F') (hX : Orphan s.h.get S w m B M0 X) (hF' : ∀ q, F' q → c.F q ∨ X q ∨ (w.heap.size ≤ q ∧ q < w'.heap.size)) :
    ∃ m', Rel w0 B M0 S m' { s.kill id with h := (id, .arr d t zs) :: (s.kill id).h } a w' ∧ (∀ q, S q → w'.heap[q]? = w.heap[q]?) ∧ m' id = some ⟨v, F', t⟩ := by
  let m' : OMap := fun j => if j = id then some ⟨v, F', t⟩ else m j
  have T : Turn s.h.get S w w' m m' id c := ⟨heap_ne ho, hc, hsz, hrest, fun j hj => if_neg hj⟩
  have hget : ∀ j, AHeap.get ((id, AObj.arr d t zs) :: (s.kill id).h) j = if j = id then some (.arr d t zs) else (s.h.get j).map (AObj.mapC (ACell.kill id)) := by
    intro j
    simp only [AHeap.get]
    cases hb : Nat.beq id j with
    | true => have := Nat.eq_of_beq_eq_true hb; subst this; simp
    | false =>
      have hj : j ≠ id := fun e => by subst e; simp at hb
      rw [cond_false, if_neg hj, get_kill, if_neg hj]
      exact congrArg (fun f => Option.map f (s.h.get j)) (funext (killO_mapC id))
  have hh : ∀ j, j ≠ id → AHeap.get ((id, AObj.arr d t zs) :: (s.kill id).h) j = (s.h.get j).map (AObj.mapC (ACell.kill id)) := fun j hj => by rw [hget j, if_neg hj]
  have F : Carry s.h.get (AHeap.get ((id, AObj.arr d t zs) :: (s.kill id).h)) S S w w' m m' (ACell.kill id) := by
    refine carry_turn T R.mem hh (fun c hr => ?_) (fun c v hr r => ?_)
    · cases c with
      | os j => simp only [ACell.kill, ACell.refs] at hr ⊢; rw [hr]; exact .inl rfl
      | op j o => simp only [ACell.kill, ACell.refs] at hr ⊢; rw [hr]; exact .inl rfl
      | oe j i o => simp only [ACell.kill, ACell.refs] at hr ⊢; rw [hr]; exact .inl rfl
      | sb j i o e y => simp only [ACell.kill, ACell.refs] at hr ⊢; rw [hr]; exact .inl rfl
      | vw j k => simp only [ACell.kill, ACell.refs] at hr ⊢; rw [hr]; exact .inl rfl
      | _ => exact .inl rfl
    · cases c with
      | os j => simp only [ACell.kill, ACell.refs] at hr ⊢; rw [hr]; trivial
      | op j o => simp only [ACell.kill, ACell.refs] at hr ⊢; rw [hr]; trivial
      | oe j i o => simp only [ACell.kill, ACell.refs] at hr ⊢; rw [hr]; trivial
      | sb j i o e y => simp only [ACell.kill, ACell.refs] at hr ⊢; rw [hr]; trivial
      | vw j k => simp only [ACell.kill, ACell.refs] at hr ⊢; rw [hr]; trivial
      | _ => cases hr
  refine ⟨m', ⟨mem_turnX hX (c' := ⟨v, F', t⟩) (o' := .arr d t zs) T R.mem hB F hh (by rw [hget id, if_pos rfl]) (if_pos rfl) ⟨rfl, hrel⟩ hF', frm_turn T R.mem hB R.frm hos ht hu hz, ?_, ?_, R.defers⟩, T.stay R.mem, if_pos rfl⟩
  · have := tmps_carry F R.tmps rfl
    have e2 : (s.kill id).ρ = s.ρ.map (AVal.mapC (ACell.kill id)) := congrArg (fun f => s.ρ.map f) (funext (kill_mapC id))
    rw [e2]
    exact this
  · rw [R.size]; simp [AS.kill]
theorem Rel.reborn [Tabs] {s : AS} {a : Act} (R : Rel w0 B M0 S m s a w) (hB : B ≤ w.heap.size) {id : Nat} {o0 : AObj} (ho : s.h.get id = some o0) {c : OC} (hc : m id = some c) {d : Bool} {t : Ty} {zs : List t.den} {v : Value} {F' : Blk}
    (hsz : w.heap.size ≤ w'.heap.size) (hrest : ∀ q, q < w.heap.size → ¬ c.F q → w'.heap[q]? = w.heap[q]?) (hos : w'.os = w.os) (ht : w'.tape = w.tape) (hu : w'.output = w.output) (hz : ∀ a : Addr, a.block < w.heap.size → w'.frozen? a = w.frozen? a)
    (hrel : ArrRel S w' d t v zs F') (hF' : ∀ q, F' q → c.F q ∨ (w.heap.size ≤ q ∧ q < w'.heap.size)) :
    ∃ m', Rel w0 B M0 S m' { s.kill id with h := (id, .arr d t zs) :: (s.kill id).h } a w' ∧ (∀ q, S q → w'.heap[q]? = w.heap[q]?) ∧ m' id = some ⟨v, F', t⟩ :=
  R.rebornX hB ho hc hsz hrest hos ht hu hz hrel (Orphan.empty s.h.get S w m B M0) fun q hq => (hF' q hq).imp (fun h => h) .inr
theorem Rel.born [Tabs] {s : AS} {a : Act} (R : Rel w0 B M0 S m s a w) (hB : B ≤ w.heap.size) {id : Nat} (ho : s.h.get id = none) {d : Bool} {t : Ty} {zs : List t.den} {v : Value} {F' : Blk} {n : Nat} (g : Grow w w')
    (hrel : ArrRel S w' d t v zs F') (hF' : ∀ q, F' q → w.heap.size ≤ q ∧ q < w'.heap.size) :
    ∃ m', Rel w0 B M0 S m' { ρ := s.ρ, h := (id, .arr d t zs) :: s.h, t := n } a w' ∧ m' id = some ⟨v, F', t⟩ ∧ ∀ j, j ≠ id → m' j = m j := by
  have hone : ∀ j, AHeap.get [(id, AObj.arr d t zs)] j = if j = id then some (.arr d t zs) else none := fun j => by rw [get_one]
  have hget : ∀ j, AHeap.get ((id, AObj.arr d t zs) :: s.h) j = (AHeap.get [(id, AObj.arr d t zs)] j).or (s.h.get j) := fun j => by
    rw [hone]
    simp only [AHeap.get]
    cases hb : Nat.beq id j with
    | true => have := Nat.eq_of_beq_eq_true hb; subst this; simp
    | false =>
      have hj : j ≠ id := fun e => by subst e; simp at hb
      simp [hj]
  have is : ∀ {j}, AHeap.get [(id, AObj.arr d t zs)] j ≠ none → j = id := fun {j} h => by
    rw [hone] at h
    by_cases e : j = id
    · exact e
    · simp [e] at h
  have G := Mem.grow (m' := fun j => if j = id then some ⟨v, F', t⟩ else m j) (S' := S) R.mem g hB [(id, AObj.arr d t zs)] (fun j hj => by rw [is hj]; exact ho)
    (fun j hj => by rw [hone] at hj; have : j ≠ id := fun e => by simp [e] at hj
                    simp [this])
    (fun _ h => h) (fun _ h => .inl h)
    (fun j o hj => by
      have e := is (heap_ne hj)
      rw [hone, if_pos e] at hj
      cases hj
      exact ⟨⟨v, F', t⟩, if_pos e, ⟨rfl, hrel⟩, fun q hq => ⟨(hF' q hq).1, (hF' q hq).2, fun hs => by have := R.mem.lt q hs; have := (hF' q hq).1; omega⟩⟩)
    (fun i j c c' hij hi hj => absurd ((is hi).trans (is hj).symm) hij)
  have eget : (fun i => (AHeap.get [(id, AObj.arr d t zs)] i).or (s.h.get i)) = AHeap.get ((id, AObj.arr d t zs) :: s.h) := funext fun j => (hget j).symm
  rw [eget] at G
  exact ⟨_, ⟨G.1, R.frm.grow hB g, fun i => (R.tmps i).wider G.2 R.mem, R.size, R.defers⟩, if_pos rfl, fun j hj => if_neg hj⟩
theorem Rel.bornX [Tabs] {X : Blk} {s : AS} {a : Act} (R : Rel w0 B M0 S m s a w) (hB : B ≤ w.heap.size) {id : Nat} (ho : s.h.get id = none) {t : Ty} {zs : List t.den} {v : Value} {F' : Blk} (g : Grow w w')
    (hrel : ArrRel S w' true t v zs F') (hX : Orphan s.h.get S w m B M0 X) (hF' : ∀ q, F' q → X q ∨ (w.heap.size ≤ q ∧ q < w'.heap.size)) :
    ∃ m', Rel w0 B M0 S m' (s.bear id t zs) a w' ∧ m' id = some ⟨v, F', t⟩ := by
  obtain ⟨m1, R1, h1, h2⟩ := R.born (d := true) (t := t) (zs := []) (v := .slice none 0 0) (F' := fun _ => False) (n := s.t) hB ho (Grow.refl w) (.inl ⟨⟨_, rfl⟩, rfl, fun _ h => h⟩) (fun q h => h.elim)
  have hget : ∀ j, AHeap.get ((id, AObj.arr true t ([] : List t.den)) :: s.h) j = if j = id then some (.arr true t []) else s.h.get j := fun j => by
    simp only [AHeap.get]
    cases hb : Nat.beq id j with
    | true => have := Nat.eq_of_beq_eq_true hb; subst this; simp
    | false =>
      have hj : j ≠ id := fun e => by subst e; simp at hb
      simp [hj]
  have hX1 : Orphan (AHeap.get ((id, AObj.arr true t ([] : List t.den)) :: s.h)) S w m1 B M0 X := ⟨hX.free, fun j d hj hd q hq hF => by
    by_cases e : j = id
    · subst e
      rw [h1] at hd
      cases hd
      exact hF
    · rw [hget, if_neg e] at hj
      rw [h2 j e] at hd
      exact hX.dis j d hj hd q hq hF⟩
  obtain ⟨m', R2, _, h3⟩ := R1.rebornX hB (by rw [hget, if_pos rfl]) h1 g.size (fun q hq _ => g.block q hq) g.os g.tape g.output g.fz hrel hX1 (fun q hq => .inr (hF' q hq))
  exact ⟨m', ⟨R2.mem, R2.frm, R2.tmps, R2.size, R2.defers⟩, h3⟩
theorem Orphan.less {X Y : Blk} {h h' : HGet} (o : Orphan h S w m B M0 X) (hY : ∀ q, Y q → X q) (hh : ∀ j, h' j ≠ none → h j ≠ none) : Orphan h' S w m B M0 Y :=
  ⟨fun q hq => o.free q (hY q hq), fun j d hj hd q hq => o.dis j d (hh j hj) hd q (hY q hq)⟩
theorem ArrRel.rowsX [Tabs] {t : Ty} {ys : List t.den} {v : Value} {F : Blk} (hpos : 0 < t.size) (r : ArrRel S w true t v ys F) : (v = .slice none 0 0 ∧ ys = []) ∨
    ∃ (a : Addr) (cap : Nat) (news : List Value) (Gs : Nat → Blk), v = .slice (some a) ys.length cap ∧ news.length = ys.length * t.size ∧ (∀ j u, news[j]? = some u → w.cell? (a.add j) = some u) ∧ (∀ u ∈ news, u.oneCell' = true) ∧ (∀ i y, ys[i]? = some y → Own w t ((news.drop (i * t.size)).take t.size) y (Gs i)) ∧
      (∀ i j q, i < ys.length → j < ys.length → Gs i q → Gs j q → i = j) ∧ ∀ i q, i < ys.length → Gs i q → F q := by
  rcases r with ⟨⟨o, e⟩, e2, _⟩ | ⟨g, cap, cur, te, Fs, k1, k2, k3, k4, k5, k6, k7, k8, k9⟩
  · cases o with
    | none => exact .inl ⟨e, e2⟩
    | some a => exact .inr ⟨a, 0, [], fun _ _ => False, by rw [e, e2]; rfl, by rw [e2]; simp, fun j u h => by simp at h, fun u h => (by cases h), fun i y h => (by rw [e2] at h; simp at h), fun _ _ _ _ _ h => h.elim, fun _ _ _ h => h.elim⟩
  · have hcl : cur.toList.length = cap * t.size := by rw [← k3]; exact Array.length_toList
    have hlen : (cur.toList.take (ys.length * t.size)).length = ys.length * t.size := by
      rw [List.length_take, hcl]
      exact Nat.min_eq_left (Nat.mul_le_mul_right _ k4)
    have hown : ∀ i y, ys[i]? = some y → Own w t (((cur.toList.take (ys.length * t.size)).drop (i * t.size)).take t.size) y (Fs i) := fun i y hi => by
      rw [← seg_of_take rfl (List.getElem?_eq_some_iff.1 hi).1]
      exact k6 i y hi
    refine .inr ⟨⟨g, 0, none⟩, cap, cur.toList.take (ys.length * t.size), Fs, k1, hlen, fun j u hj => ?_, fun u hu => ?_, hown, k7, fun i q hi hq => (k9 q).2 (.inr ⟨i, hi, hq⟩)⟩
    · rw [add_none, Nat.zero_add, cell_of_row w g j cur te (0, 0) k2]
      rw [List.getElem?_take] at hj
      split at hj
      · simpa using hj
      · cases hj
    · obtain ⟨j, hj, rfl⟩ := List.getElem_of_mem hu
      have hj' := hj
      rw [hlen] at hj'
      have hi : j / t.size < ys.length := (Nat.div_lt_iff_lt_mul hpos).2 hj'
      have hy : ys[j / t.size]? = some ys[j / t.size] := by simp [hi]
      have ho := (hown _ _ hy).rep (S := fun _ => True) (fun _ _ => trivial)
      refine (flat_rel (h := fun _ => none) (m := fun _ => none) ho).2.1 _ ?_
      refine List.mem_of_getElem? (i := j % t.size) ?_
      have e : j / t.size * t.size + j % t.size = j := by rw [Nat.mul_comm]; exact Nat.div_add_mod j t.size
      rw [seg_get, if_pos (Nat.mod_lt _ hpos), e]
      exact List.getElem?_eq_getElem hj
end
end Go.Ab
