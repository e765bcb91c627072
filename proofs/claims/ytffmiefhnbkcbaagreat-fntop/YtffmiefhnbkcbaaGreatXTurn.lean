/-
  Many objects turn at once.
-/
import Derived.Test.YtffmiefhnbkcbaaGreatXOwn
namespace Go.Ab
open Go Go.RowKit
section
variable {P : Program} {E : Env} {h : HGet} {S : Blk} {w w' w0 : World} {m m' : OMap} {B : Nat} {M0 : Blk}
def InD (h : HGet) (m : OMap) (D : Nat → Prop) : Blk := fun q => ∃ id c, D id ∧ h id ≠ none ∧ m id = some c ∧ c.F q
open Classical in
theorem Rel.turnD [Tabs] {s s' : AS} {a : Act} (R : Rel w0 B M0 S m s a w) (hB : B ≤ w.heap.size) (D : Nat → Prop) (f : ACell → ACell) (Fn : Nat → Blk)
    (hsz : w.heap.size ≤ w'.heap.size) (hrest : ∀ q, q < w.heap.size → ¬ InD s.h.get m D q → w'.heap[q]? = w.heap[q]?) (hos : w'.os = w.os) (ht : w'.tape = w.tape) (hu : w'.output = w.output) (hz : ∀ a : Addr, a.block < w.heap.size → w'.frozen? a = w.frozen? a)
    (hρ : s'.ρ = s.ρ.map (AVal.mapC f)) (hh : ∀ j, ¬ D j → s'.h.get j = (s.h.get j).map (AObj.mapC f)) (hf : ∀ c, f c = c ∨ f c = .und) (hsb : ∀ j i off e y, D j → f (.sb j i off e y) = .und) (hvw : ∀ j k, D j → f (.vw j k) = .und)
    (hnew : ∀ j, D j → ∃ d t xs c d' ys, s.h.get j = some (.arr d t xs) ∧ m j = some c ∧ s'.h.get j = some (.arr d' t ys) ∧ ys.length = xs.length ∧ ArrRel S w' d' t c.v ys (Fn j) ∧ ∀ q, Fn j q → InD s.h.get m D q ∨ (w.heap.size ≤ q ∧ q < w'.heap.size))
    (hdis : ∀ i j, D i → D j → i ≠ j → ∀ q, Fn i q → Fn j q → False) :
    ∃ m', Rel w0 B M0 S m' s' a w' ∧ (∀ q, S q → w'.heap[q]? = w.heap[q]?) ∧ (∀ j c, m j = some c → ∃ c', m' j = some c' ∧ c'.v = c.v ∧ c'.e = c.e) := by
  let m' : OMap := fun j => if D j then (m j).map (fun c => ⟨c.v, Fn j, c.e⟩) else m j
  have M := R.mem
  have notS : ∀ q, InD s.h.get m D q → ¬ S q ∧ q < w.heap.size ∧ (B ≤ q ∨ M0 q) := fun q ⟨id, c, _, hn, hc, hF⟩ => M.apart id c hn hc q hF
  have stay : ∀ q, S q → w'.heap[q]? = w.heap[q]? := fun q hq => hrest q (M.lt q hq) fun hd => (notS q hd).1 hq
  have own : ∀ j c, ¬ D j → s.h.get j ≠ none → m j = some c → ∀ q, c.F q → w'.heap[q]? = w.heap[q]? := fun j c hj hn hc q hq => hrest q (M.apart j c hn hc q hq).2.1 fun ⟨id, c', hd, hn', hc', hF⟩ => M.dis j id c c' (fun e => hj (e ▸ hd)) hn hn' hc hc' q hq hF
  have m1 : ∀ j, ¬ D j → m' j = m j := fun j hj => if_neg hj
  have m2 : ∀ j c, D j → m j = some c → m' j = some ⟨c.v, Fn j, c.e⟩ := fun j c hj hc => by show (if D j then _ else _) = _; rw [if_pos hj, hc]; rfl
  have getD : ∀ {j d t xs}, D j → s.h.get j = some (.arr d t xs) → ∃ d' ys, s'.h.get j = some (.arr d' t ys) ∧ ys.length = xs.length := fun {j d t xs} hj hg => by
    obtain ⟨d0, t0, xs0, c, d', ys, h1, _, h2, h3, _⟩ := hnew j hj
    rw [hg] at h1
    cases h1
    exact ⟨d', ys, h2, h3⟩
  have arrOf : ∀ {j o}, D j → s.h.get j = some o → ∃ d t xs, o = .arr d t xs := fun {j o} hj hg => by
    obtain ⟨d0, t0, xs0, c, d', ys, h1, _⟩ := hnew j hj
    rw [hg] at h1
    exact ⟨d0, t0, xs0, Option.some.inj h1⟩
  have F : Carry s.h.get s'.h.get S S w w' m m' f := by
    refine ⟨fun x v r => ?_⟩
    rcases hf x with e | e
    rotate_left
    · rw [e]; trivial
    cases x with
    | und => rw [e]; trivial
    | nils => rw [e]; exact r
    | pv t x => rw [e]; exact ⟨r.1, r.2.mono (fun _ h => h) stay hsz⟩
    | pc t x => rw [e]; obtain ⟨b, o, ds, h1, h2, h3, h4, h5⟩ := r; exact ⟨b, o, ds, h1, h2, Nat.lt_of_lt_of_le h3 hsz, h4.mono (stay b h2), h5.mono (fun _ h => h) stay hsz⟩
    | cl g caps => rw [e]; obtain ⟨cs, e1, k⟩ := r; exact ⟨cs, e1, k.mono (fun _ h => h) stay hsz⟩
    | os j =>
      rw [e]
      obtain ⟨⟨d, t, xs, h1⟩, c, h2, h3⟩ := r
      by_cases hj : D j
      · obtain ⟨d', ys, k1, _⟩ := getD hj h1
        exact ⟨⟨d', t, ys, k1⟩, _, m2 j c hj h2, h3⟩
      · exact ⟨⟨d, t, xs, by rw [hh j hj, h1]; rfl⟩, c, (m1 j hj).trans h2, h3⟩
    | op j off =>
      rw [e]
      obtain ⟨⟨cs, h1⟩, c, b, h2, rest⟩ := r
      have hj : ¬ D j := fun hj => by obtain ⟨_, _, _, he⟩ := arrOf hj h1; cases he
      exact ⟨⟨_, by rw [hh j hj, h1]; rfl⟩, c, b, (m1 j hj).trans h2, rest⟩
    | oe j i off =>
      rw [e]
      obtain ⟨⟨d, t, xs, h1, hi⟩, c, g, n, cap, h2, h3, h4⟩ := r
      by_cases hj : D j
      · obtain ⟨d', ys, k1, k2⟩ := getD hj h1
        exact ⟨⟨d', t, ys, k1, by omega⟩, _, g, n, cap, m2 j c hj h2, h3, h4⟩
      · exact ⟨⟨d, t, xs, by rw [hh j hj, h1]; rfl, hi⟩, c, g, n, cap, (m1 j hj).trans h2, h3, h4⟩
    | sb j i off e' y =>
      by_cases hj : D j
      · rw [hsb j i off e' y hj] at e; cases e
      · rw [e]
        obtain ⟨d, xs, h1, hi, hd, hu', c, g, n, cap, h2, h3, h4⟩ := r
        refine ⟨d, xs, by rw [hh j hj, h1]; rfl, hi, hd, hu', c, g, n, cap, (m1 j hj).trans h2, h3, ?_⟩
        obtain ⟨c', hc', hob⟩ := M.obj j _ h1
        obtain rfl : c' = c := Option.some.inj (hc'.symm.trans h2)
        exact (World.cell?_of_block (w := w) (w' := w') (own j c' hj (heap_ne h1) h2 g (arr_block hob.2 (Nat.zero_lt_of_lt (List.getElem?_eq_some_iff.1 hi).1) h3))).trans h4
    | vw j k =>
      by_cases hj : D j
      · rw [hvw j k hj] at e; cases e
      · rw [e]
        obtain ⟨o, h1, hnb, c, h2, h3⟩ := r
        cases o with
        | box cs => cases hnb
        | arr d t xs => exact ⟨_, by rw [hh j hj, h1]; rfl, rfl, c, (m1 j hj).trans h2, vk_stay M h1 h2 (own j c hj (heap_ne h1) h2) h3⟩
        | src t i xs => exact ⟨_, by rw [hh j hj, h1]; rfl, rfl, c, (m1 j hj).trans h2, vk_stay M h1 h2 (own j c hj (heap_ne h1) h2) h3⟩
  have hne : ∀ j, s'.h.get j ≠ none → s.h.get j ≠ none := fun j hn e => by
    by_cases hj : D j
    · obtain ⟨d0, t0, xs0, c, d', ys, h1, _⟩ := hnew j hj
      rw [e] at h1; cases h1
    · exact hn (by rw [hh j hj, e]; rfl)
  have newF : ∀ j c, D j → m' j = some c → c.F = Fn j ∧ ∃ c0, m j = some c0 := fun j c hj hc => by
    have hc : (if D j then (m j).map (fun c => (⟨c.v, Fn j, c.e⟩ : OC)) else m j) = some c := hc
    rw [if_pos hj] at hc
    cases h0 : m j with
    | none => rw [h0] at hc; cases hc
    | some c0 => rw [h0] at hc; cases hc; exact ⟨rfl, c0, rfl⟩
  have FnIn : ∀ j, D j → ∀ q, Fn j q → InD s.h.get m D q ∨ (w.heap.size ≤ q ∧ q < w'.heap.size) := fun j hj q hq => by
    obtain ⟨_, _, _, _, _, _, _, _, _, _, _, h6⟩ := hnew j hj
    exact h6 q hq
  have mixed : ∀ i j c c', D i → ¬ D j → s'.h.get j ≠ none → m' i = some c → m' j = some c' → ∀ q, c.F q → c'.F q → False := fun i j c c' hi hj hn hc hc' q hq hq' => by
    rw [(newF i c hi hc).1] at hq
    have hc2 := (m1 j hj).symm.trans hc'
    rcases FnIn i hi q hq with ⟨id, c0, hd, hn0, hc0, hF⟩ | hx
    · exact M.dis id j c0 c' (fun e => hj (e ▸ hd)) hn0 (hne j hn) hc0 hc2 q hF hq'
    · have := (M.apart j c' (hne j hn) hc2 q hq').2.1; omega
  refine ⟨m', ⟨⟨fun j o e => ?_, fun i j c c' hij hi hj hc hc' q hq hq' => ?_, fun i c hi hc q hq => ?_, fun q hq => Nat.lt_of_lt_of_le (M.lt q hq) hsz⟩, ⟨hos.trans R.frm.os, ht.trans R.frm.tape, hu.trans R.frm.output, Nat.le_trans R.frm.size hsz, fun q hq hm => ?_, fun a ha => (hz a (Nat.lt_of_lt_of_le ha R.frm.size)).trans (R.frm.fz a ha), R.frm.tab⟩, ?_, by rw [R.size, hρ]; simp, R.defers⟩, stay, fun j c hc => ?_⟩
  · by_cases hj : D j
    · obtain ⟨d0, t0, xs0, c, d', ys, h1, h2, h3, h4, h5, _⟩ := hnew j hj
      rw [h3] at e
      cases e
      obtain ⟨c', hc', he, _⟩ := M.obj j _ h1
      obtain rfl : c' = c := Option.some.inj (hc'.symm.trans h2)
      exact ⟨_, m2 j c' hj h2, he, h5⟩
    · rw [hh j hj] at e
      cases hj' : s.h.get j with
      | none => rw [hj'] at e; cases e
      | some o1 =>
        rw [hj'] at e
        simp only [Option.map_some, Option.some.injEq] at e
        subst e
        obtain ⟨c1, h1, h2⟩ := M.obj j o1 hj'
        refine ⟨c1, (m1 j hj).trans h1, ?_⟩
        have hown := own j c1 hj (heap_ne hj') h1
        cases o1 with
        | box cs => obtain ⟨b, cur, e, k1, k2, k3, k4⟩ := h2; exact ⟨b, cur, e, k1, (hown b ((k4 b).2 rfl)).trans k2, k3.carry F, k4⟩
        | arr d t ys => exact ⟨h2.1, h2.2.mono (fun _ h => h) stay hown hsz⟩
        | src t k ys => exact ⟨h2.1, h2.2.mono hown⟩
  · by_cases di : D i
    · by_cases dj : D j
      · rw [(newF i c di hc).1] at hq
        rw [(newF j c' dj hc').1] at hq'
        exact hdis i j di dj hij q hq hq'
      · exact mixed i j c c' di dj hj hc hc' q hq hq'
    · by_cases dj : D j
      · exact mixed j i c' c dj di hi hc' hc q hq' hq
      · exact M.dis i j c c' hij (hne i hi) (hne j hj) ((m1 i di).symm.trans hc) ((m1 j dj).symm.trans hc') q hq hq'
  · by_cases di : D i
    · rw [(newF i c di hc).1] at hq
      rcases FnIn i di q hq with hx | hx
      · have := notS q hx
        exact ⟨this.1, Nat.lt_of_lt_of_le this.2.1 hsz, this.2.2⟩
      · exact ⟨fun hs => by have := M.lt q hs; omega, hx.2, .inl (by omega)⟩
    · have := M.apart i c (hne i hi) ((m1 i di).symm.trans hc) q hq
      exact ⟨this.1, Nat.lt_of_lt_of_le this.2.1 hsz, this.2.2⟩
  · exact (hrest q (Nat.lt_of_lt_of_le hq hB) fun hd => by
      rcases (notS q hd).2.2 with hx | hx
      · omega
      · exact hm hx).trans (R.frm.block q hq hm)
  · have hund : f .und = .und := (hf .und).elim (fun h => h) fun h => h
    have := tmps_carry F R.tmps hund
    rw [hρ]
    exact this
  · by_cases hj : D j
    · exact ⟨_, m2 j c hj hc, rfl, rfl⟩
    · exact ⟨c, (m1 j hj).trans hc, rfl, rfl⟩
end
end Go.Ab
