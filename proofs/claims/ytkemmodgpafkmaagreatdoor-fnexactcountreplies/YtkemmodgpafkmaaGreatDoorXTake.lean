/-
  A list is taken apart from its front on: its first element is taken out, with all that it owns.
-/
import Derived.Test.YtkemmodgpafkmaaGreatDoorXWin
namespace Go.Ab
open Go Go.RowKit
section
variable {P : Program} {E : Env} {S : Blk} {w w0 : World} {m : OMap} {B : Nat} {M0 : Blk}
theorem fresh_same [Tabs] : ∀ (l : List (Nat × AObj)) (s : AS) (j : Nat) {t : Ty} {k : Nat} {xs : List t.den}, (l.foldl (fun s p => s.kill p.1) s).h.get j = some (.src t k xs) → s.h.get j = some (.src t k xs)
  | [], _, _, _, _, _, h => h
  | p :: l, s, j, t, k, xs, h => by
    have := fresh_same l (s.kill p.1) j h
    rw [get_kill] at this
    split at this
    · cases this
    · cases ho : s.h.get j with
      | none => rw [ho] at this; cases this
      | some o =>
        rw [ho] at this
        cases o with
        | box cs => cases this
        | arr d t xs => cases this
        | src t k xs => exact this
theorem aTake_sound [Tabs] (hT : ∀ p ∈ E.T, tyOk P p.1 p.2 = true) (hB0 : B ≤ w0.heap.size) {s0 : AS} {a : Act} (R0 : Rel w0 B M0 S m s0 a w) {o : Oper} {t : TypeId} {x : Operand} (ho : o.op = .load t x) {id i : Nat} (hx : s0.ev x = .one (.vw id (.el i)))
    {R' : Type} {k : AVal → AS → Option R'} {r : R'} (e : aTake E s0 (o.dst.getD 0) t id i k = some r)
    {next : Act → World → Prop} {Q : Exit → Act → World → Prop} (K : ∀ v s' v' w' S' m', k v s' = some r → Moved w0 B M0 S m s0 a w v s' v' w' S' m' → next (a.put o.dst v') w') : o.wp P a w next Q := by
  have hB : B ≤ w.heap.size := Nat.le_trans hB0 R0.frm.size
  generalize hd : o.dst.getD 0 = d at e
  obtain ⟨R, hfr⟩ := R0.fresh d
  unfold aTake at e
  simp only at e
  generalize hs : s0.fresh d = s at *
  cases hl : look E.T t with
  | none => rw [hl] at e; cases e
  | some tt =>
  rw [hl] at e
  cases hid : s.h.get id with
  | none => rw [hid] at e; cases tt <;> cases e
  | some ob =>
  rw [hid] at e
  split at e
  · rename_i u' u j xs e1 e2
    cases e1
    cases e2
    cases hu : decide (u = u') with
    | false => rw [hu] at e; cases e
    | true =>
    rw [hu] at e
    have hu := of_decide_eq_true hu
    subst hu
    cases hij : Nat.beq i j with
    | false => rw [hij] at e; cases e
    | true =>
    rw [hij] at e
    have hij := Nat.eq_of_beq_eq_true hij
    subst hij
    simp only [cond_true, Option.bind_eq_some_iff] at e
    obtain ⟨y, hy, hk⟩ := e
    have hil : i < xs.length := (List.getElem?_eq_some_iff.1 hy).1
    have hd16 : s.h.get (d * 16) = none := hfr (d * 16) (Nat.le_refl _) (by omega)
    have hne : id ≠ d * 16 := fun e => by rw [e, hd16] at hid; cases hid
    have r1 := R0.ev x
    rw [hx] at r1
    obtain ⟨o', ho', _, c, hm, t', k', xs', rfl, hi', g, n, cap, hv, hp⟩ := r1
    have ho2 : s0.h.get id = some (.src (.slice u) i xs) := by
      rw [← hs] at hid
      exact fresh_same _ s0 id hid
    rw [ho'] at ho2
    cases ho2
    obtain ⟨c', hm', he, hrel⟩ := R.mem.obj id _ hid
    obtain rfl : c' = c := Option.some.inj (hm'.symm.trans hm)
    rcases hrel with ⟨_, rfl, _⟩ | ⟨g', cap', cur, te, Fs, k1, k2, k3, k4, k5, k6, k7, k8, k9⟩
    · simp at hil
    rw [k1] at hv
    simp only [Value.slice.injEq, Option.some.injEq, Addr.mk.injEq] at hv
    obtain ⟨⟨rfl, _⟩, _, rfl⟩ := hv
    obtain ⟨v, hv1, hv2⟩ := k6 i y (Nat.le_refl _) hy
    have sz : (Ty.slice u).size = 1 := rfl
    rw [sz, Nat.mul_one] at hp hv1
    have hrun : (loadVar t ⟨g', i, none⟩).run P w = .ok v w := by
      have := run_loadVar_ty (P := P) (hT _ (look_mem hl)) (reads_of_cells k2 i 1) (by rw [hv1]; rfl)
      rw [hv1] at this
      exact this
    have hex : (execOp a.eval o).run P w = .ok (.value v) w := by
      unfold execOp
      simp only [ho, hp, Instr.loadAt, Instr.sureAddr, pure_bind]
      simp [hrun]
    let F' : Blk := fun q => q = g' ∨ ∃ l, i + 1 ≤ l ∧ l < xs.length ∧ Fs l q
    have hF' : ∀ q, F' q → c'.F q := fun q hq => by
      rcases hq with rfl | ⟨l, h1, h2, h3⟩
      · exact (k9 _).2 (.inl rfl)
      · exact (k9 q).2 (.inr ⟨l, by omega, h2, h3⟩)
    have hFi : ∀ q, Fs i q → c'.F q := fun q hq => (k9 q).2 (.inr ⟨i, Nat.le_refl _, hil, hq⟩)
    have hdisj : ∀ q, Fs i q → F' q → False := fun q h1 h2 => by
      rcases h2 with rfl | ⟨l, h3, h4, h5⟩
      · exact k8 i (Nat.le_refl _) hil h1
      · have := k7 i l q (Nat.le_refl _) (by omega) hil h4 h1 h5; omega
    let m' : OMap := fun q => if q = d * 16 then some ⟨v, Fs i, u⟩ else if q = id then some ⟨c'.v, F', .slice u⟩ else m q
    let s' : AS := { ρ := s.ρ, h := (d * 16, .arr true u y) :: (s.upd id (.src (.slice u) (i + 1) xs)).h, t := s.t + 1 }
    have hget : ∀ q, s'.h.get q = if q = d * 16 then some (.arr true u y) else if q = id then some (.src (.slice u) (i + 1) xs) else s.h.get q := fun q => by
      show AHeap.get ((d * 16, .arr true u y) :: (s.upd id (.src (.slice u) (i + 1) xs)).h) q = _
      simp only [AHeap.get]
      by_cases h1 : q = d * 16
      · subst h1; simp
      · rw [beq_false (Ne.symm h1), cond_false, if_neg h1]
        show AHeap.get (s.h.map fun p => bif Nat.beq p.1 id then (p.1, .src (.slice u) (i + 1) xs) else p) q = _
        have : (s.h.map fun p => bif Nat.beq p.1 id then (p.1, AObj.src (.slice u) (i + 1) xs) else p) = s.h.map fun p => (p.1, bif Nat.beq p.1 id then AObj.src (.slice u) (i + 1) xs else p.2) := by
          congr 1
          funext p
          cases Nat.beq p.1 id <;> rfl
        rw [this, get_mapK (fun q o => bif Nat.beq q id then AObj.src (.slice u) (i + 1) xs else o)]
        by_cases h2 : q = id
        · subst h2; rw [hid]; simp
        · rw [if_neg h2]
          cases s.h.get q with
          | none => rfl
          | some o => simp [beq_false h2]
    have F : Carry s.h.get s'.h.get S S w w m m' (fun c => c) := by
      refine ⟨fun c v r => ?_⟩
      have nd : ∀ q o, s.h.get q = some o → q ≠ d * 16 := fun q o e e2 => by rw [e2, hd16] at e; cases e
      have go : ∀ q o, s.h.get q = some o → q ≠ id → s'.h.get q = some o ∧ m' q = m q := fun q o e e2 => by
        refine ⟨by rw [hget, if_neg (nd q o e), if_neg e2]; exact e, ?_⟩
        show (if q = d * 16 then _ else if q = id then _ else m q) = m q
        rw [if_neg (nd q o e), if_neg e2]
      have noid : ∀ q d2 t2 xs2, s.h.get q = some (.arr d2 t2 xs2) → q ≠ id := fun q d2 t2 xs2 e e2 => by subst e2; rw [hid] at e; cases e
      cases c with
      | und => trivial
      | nils => exact r
      | pv t x => exact r
      | pc t x => exact r
      | os q =>
        obtain ⟨⟨d2, t2, xs2, e⟩, c2, h1, h2⟩ := r
        obtain ⟨g1, g2⟩ := go q _ e (noid _ _ _ _ e)
        exact ⟨⟨d2, t2, xs2, g1⟩, c2, g2.trans h1, h2⟩
      | op q off =>
        obtain ⟨⟨cs, e⟩, c2, b, h1, h2⟩ := r
        obtain ⟨g1, g2⟩ := go q _ e (fun e2 => by subst e2; rw [hid] at e; cases e)
        exact ⟨⟨cs, g1⟩, c2, b, g2.trans h1, h2⟩
      | oe q i2 off =>
        obtain ⟨⟨d2, t2, xs2, e, hi⟩, c2, g, n, cap, h1, h2⟩ := r
        obtain ⟨g1, g2⟩ := go q _ e (noid _ _ _ _ e)
        exact ⟨⟨d2, t2, xs2, g1, hi⟩, c2, g, n, cap, g2.trans h1, h2⟩
      | sb q i2 off e' y2 =>
        obtain ⟨d2, xs2, e, hi, hd, hu, c2, g, n, cap, h1, h2⟩ := r
        obtain ⟨g1, g2⟩ := go q _ e (noid _ _ _ _ e)
        exact ⟨d2, xs2, g1, hi, hd, hu, c2, g, n, cap, g2.trans h1, h2⟩
      | vw q kk =>
        obtain ⟨o2, e, hnb, c2, h1, h2⟩ := r
        by_cases hq : q = id
        · subst hq
          rw [hid] at e
          cases e
          obtain rfl : c2 = c' := Option.some.inj (h1.symm.trans hm)
          have gg : s'.h.get q = some (.src (.slice u) (i + 1) xs) := by rw [hget, if_neg hne, if_pos rfl]
          have mm : m' q = some ⟨c2.v, F', .slice u⟩ := by
            show (if q = d * 16 then _ else if q = q then _ else m q) = _
            rw [if_neg hne, if_pos rfl]
          refine ⟨_, gg, rfl, _, mm, ?_⟩
          cases kk with
          | all => exact ⟨⟨_, _, _, rfl⟩, h2.2⟩
          | el i2 =>
            obtain ⟨t2, k2, xs2, e3, hi, g, n, cap, h3, h4⟩ := h2
            cases e3
            exact ⟨_, _, _, rfl, hi, g, n, cap, h3, h4⟩
          | win lo hi => obtain ⟨_, _, _, e3, _⟩ := h2; cases e3
          | inn a b c d e => obtain ⟨_, _, _, e3, _⟩ := h2; cases e3
          | app a b c d e f => obtain ⟨_, _, e3, _⟩ := h2; cases e3
        · obtain ⟨g1, g2⟩ := go q _ e hq
          exact ⟨o2, g1, hnb, c2, g2.trans h1, h2⟩
      | cl f caps => exact r
    have ids : ∀ q, s'.h.get q ≠ none → q = d * 16 ∨ s.h.get q ≠ none := fun q hq => by
      rw [hget] at hq
      split at hq
      · exact .inl (by assumption)
      · split at hq
        · rename_i h1 h2; subst h2; exact .inr (by rw [hid]; simp)
        · exact .inr hq
    have mOld : ∀ q, q ≠ d * 16 → q ≠ id → m' q = m q := fun q h1 h2 => by
      show (if q = d * 16 then _ else if q = id then _ else m q) = m q
      rw [if_neg h1, if_neg h2]
    have mNew : m' (d * 16) = some ⟨v, Fs i, u⟩ := by
      show (if d * 16 = d * 16 then _ else _) = _
      rw [if_pos rfl]
    have mId : m' id = some ⟨c'.v, F', .slice u⟩ := by
      show (if id = d * 16 then _ else if id = id then _ else m id) = _
      rw [if_neg hne, if_pos rfl]
    have blk : ∀ q cc, s'.h.get q ≠ none → m' q = some cc → ∀ z, cc.F z → ∃ q0 c0, s.h.get q0 ≠ none ∧ m q0 = some c0 ∧ c0.F z ∧ ((q = d * 16 ∧ q0 = id ∧ Fs i z) ∨ (q = id ∧ q0 = id ∧ F' z) ∨ (q ≠ d * 16 ∧ q ≠ id ∧ q0 = q)) := fun q cc hq hc z hz => by
      by_cases h1 : q = d * 16
      · subst h1
        rw [mNew] at hc
        cases hc
        exact ⟨id, c', by rw [hid]; simp, hm, hFi z hz, .inl ⟨rfl, rfl, hz⟩⟩
      · by_cases h2 : q = id
        · subst h2
          rw [mId] at hc
          cases hc
          exact ⟨q, c', by rw [hid]; simp, hm, hF' z hz, .inr (.inl ⟨rfl, rfl, hz⟩)⟩
        · rw [mOld q h1 h2] at hc
          refine ⟨q, cc, ?_, hc, hz, .inr (.inr ⟨h1, h2, rfl⟩)⟩
          rcases ids q hq with h3 | h3
          · exact absurd h3 h1
          · exact h3
    have R' : Rel w0 B M0 S m' s' a w := by
      refine ⟨⟨fun q oo hq => ?_, fun p q cp cq hpq hp hq hcp hcq z hz1 hz2 => ?_, fun q cc hq hcc z hz => ?_, R.mem.lt⟩, R.frm, ?_, R.size, R.defers⟩
      · rw [hget] at hq
        split at hq
        · rename_i h1
          subst h1
          cases hq
          exact ⟨_, mNew, rfl, hv2⟩
        · rename_i h1
          split at hq
          · rename_i h2
            subst h2
            cases hq
            exact ⟨_, mId, rfl, .inr ⟨g', cap', cur, te, Fs, k1, k2, k3, k4, k5, fun l z h3 h4 => k6 l z (by omega) h4, fun l l2 b h3 h4 => k7 l l2 b (by omega) (by omega), fun l h3 => k8 l (by omega), fun b => Iff.rfl⟩⟩
          · rename_i h2
            obtain ⟨c2, h3, h4⟩ := R.mem.obj q oo hq
            refine ⟨c2, (mOld q h1 h2).trans h3, ?_⟩
            cases oo with
            | box cs => obtain ⟨b, cur, e, k1, k2, k3, k4⟩ := h4; exact ⟨b, cur, e, k1, k2, k3.imp F.cell, k4⟩
            | arr d t xs => exact h4
            | src t k xs => exact h4
      · obtain ⟨p0, c1, a1, a2, a3, a4⟩ := blk p cp hp hcp z hz1
        obtain ⟨q0, c2, b1, b2, b3, b4⟩ := blk q cq hq hcq z hz2
        by_cases h0 : p0 = q0
        · subst h0
          rcases a4 with ⟨h1, h2, h3⟩ | ⟨h1, h2, h3⟩ | ⟨h1, h2, h3⟩
          · rcases b4 with ⟨g1, g2, g3⟩ | ⟨g1, g2, g3⟩ | ⟨g1, g2, g3⟩
            · exact hpq (h1.trans g1.symm)
            · exact hdisj z h3 g3
            · exact g2 (g3.symm.trans h2)
          · rcases b4 with ⟨g1, g2, g3⟩ | ⟨g1, g2, g3⟩ | ⟨g1, g2, g3⟩
            · exact hdisj z g3 h3
            · exact hpq (h1.trans g1.symm)
            · exact g2 (g3.symm.trans h2)
          · rcases b4 with ⟨g1, g2, g3⟩ | ⟨g1, g2, g3⟩ | ⟨g1, g2, g3⟩
            · exact h2 (h3.symm.trans g2)
            · exact h2 (h3.symm.trans g2)
            · exact hpq (h3.symm.trans g3)
        · exact R.mem.dis p0 q0 c1 c2 h0 a1 b1 a2 b2 z a3 b3
      · obtain ⟨p0, c1, a1, a2, a3, _⟩ := blk q cc hq hcc z hz
        exact R.mem.apart p0 c1 a1 a2 z a3
      · have := tmps_carry F R.tmps rfl
        have e : s.ρ.map (AVal.mapC fun c => c) = s.ρ := by
          have h2 : (AVal.mapC fun c => c) = fun v => v := funext fun v => by cases v <;> simp [AVal.mapC]
          rw [h2, List.map_id']
        rw [e] at this
        exact this
    have ht : s0.t ≤ s.t := by rw [← hs]; exact (kills_t _ s0).1
    refine wp_value hex (K _ s' v w S m' hk ⟨⟨⟨true, u, y, by rw [hget, if_pos rfl]⟩, _, mNew, rfl⟩, R', ⟨fun q hq => hq, Nat.le_refl _, fun _ _ => rfl, fun q hq => .inl hq⟩, by show s0.t ≤ s.t + 1; omega, fun et => by have : s.t + 1 = s0.t := et; omega⟩)
  · cases e
theorem aTake_t [Tabs] {s0 : AS} {d : Nat} {t : TypeId} {id i : Nat} {R' : Type} {k : AVal → AS → Option R'} {r : R'} (e : aTake E s0 d t id i k = some r) : ∃ v s', k v s' = some r ∧ s0.t < s'.t := by
  unfold aTake at e
  simp only at e
  split at e
  · rename_i u' u j xs _ _
    cases hu : decide (u = u') with
    | false => rw [hu] at e; cases e
    | true =>
      rw [hu] at e
      simp only [cond_true] at e
      cases hb : Nat.beq i j with
      | false => rw [hb] at e; cases e
      | true =>
        rw [hb] at e
        simp only [cond_true, Option.bind_eq_some_iff] at e
        obtain ⟨y, _, hk⟩ := e
        refine ⟨_, _, hk, ?_⟩
        have := (kills_t (s0.h.filter fun p => Nat.ble (d * 16) p.1 && Nat.ble p.1 (d * 16 + 15)) s0).1
        show s0.t < (s0.fresh d).t + 1
        exact Nat.lt_succ_of_le this
  · cases e
end
end Go.Ab
