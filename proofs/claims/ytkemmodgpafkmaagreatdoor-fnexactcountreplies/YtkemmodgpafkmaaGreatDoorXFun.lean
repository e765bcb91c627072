/-
  A whole function: its contract.
-/
import Derived.Test.YtkemmodgpafkmaaGreatDoorXExec
namespace Go.Ab
open Go Go.RowKit
section
variable {P : Program} {E : Env} {h : HGet} {S : Blk} {w w0 : World} {m : OMap} {B : Nat} {M0 : Blk}
theorem ResRel.mono {S' : Blk} (hS : ∀ q, S q → S' q) : ∀ {rs : List RK} {us : List Value} {x : dens (RK.tys rs)} {F : Blk}, ResRel S w rs us x F → ResRel S' w rs us x F
  | [], _, _, _, r => r
  | .val t :: rs, _, _, _, r => by
    obtain ⟨v, r', e, ⟨ds, e', k⟩, k2⟩ := r
    exact ⟨v, r', e, ⟨ds, e', k.mono hS (fun _ _ => rfl) (Nat.le_refl _)⟩, ResRel.mono hS (rs := rs) k2⟩
  | .own t :: rs, _, _, _, r => by
    obtain ⟨v, r', G, H, e, k, k2, h3, h4⟩ := r
    exact ⟨v, r', G, H, e, k, ResRel.mono hS (rs := rs) k2, h3, h4⟩
  | .ob t :: rs, _, _, _, r => by
    obtain ⟨v, r', G, H, e, k, k2, h3, h4⟩ := r
    exact ⟨v, r', G, H, e, k, ResRel.mono hS (rs := rs) k2, h3, h4⟩
  | .rp t :: rs, _, _, _, r => by
    obtain ⟨v, r', e, k, k2⟩ := r
    exact ⟨v, r', e, k.mono hS (fun _ _ => rfl) (Nat.le_refl _), ResRel.mono hS (rs := rs) k2⟩
  | .sh t :: rs, _, _, _, r => by
    obtain ⟨v, r', G, H, e, k, k2, h3, h4⟩ := r
    exact ⟨v, r', G, H, e, k.mono hS (fun _ _ => rfl) (fun _ _ => rfl) (Nat.le_refl _), ResRel.mono hS (rs := rs) k2, h3, h4⟩
def resIds : List RK → List AVal → List Nat
  | .val _ :: rs, v :: vs => osIn v.cells ++ resIds rs vs
  | _ :: rs, _ :: vs => resIds rs vs
  | _, _ => []
theorem pcTo_spec {t : Ty} {a : AVal} {x : t.den} (h : pcTo t a = some x) : a = .one (.pc t x) := by
  unfold pcTo at h
  split at h
  · rename_i u y
    unfold cast? at h
    split at h
    · rename_i e
      subst e
      cases h
      rfl
    · cases h
  · cases h
theorem shTo_spec {hp hp' : AHeap} {t : Ty} {a : AVal} {x : List t.den} (h : shTo hp t a = some (x, hp')) : (a = .one .nils ∧ x = [] ∧ hp' = hp) ∨ ∃ j, a = .one (.os j) ∧ hp.get j = some (.arr false t x) ∧ hp' = hp.del j := by
  unfold shTo at h
  split at h
  · cases h; exact .inl ⟨rfl, rfl, rfl⟩
  · rename_i j
    split at h
    · rename_i e xs ho
      simp only [Option.bind_eq_some_iff, Option.some.injEq, Prod.mk.injEq] at h
      obtain ⟨y, e1, rfl, rfl⟩ := h
      obtain ⟨hty, hxy⟩ := cast?_some e1
      have hty' : e = t := by cases hty; rfl
      subst hty'
      cases hxy
      exact .inr ⟨j, rfl, ho, rfl⟩
    · cases h
  · cases h
theorem shTo_sub [Tabs] {hp hp' : AHeap} {t : Ty} {a : AVal} {x : List t.den} (h : shTo hp t a = some (x, hp')) : ∀ id o, hp'.get id = some o → hp.get id = some o := fun id o ho => by
  rcases shTo_spec h with ⟨_, _, rfl⟩ | ⟨j, _, _, rfl⟩
  · exact ho
  · rw [get_del] at ho
    split at ho <;> first | cases ho | exact ho
theorem takeVal_spec {hp hp' : AHeap} {t : Ty} {cs : List ACell} {x : t.den} (e1 : takeVal hp t cs = some (x, hp')) : gatherG hp.get t cs = some x ∧ hp' = (osIn cs).foldl AHeap.del hp := by
  unfold takeVal at e1
  cases hc : (noSb cs && Nat.beq cs.length t.size) with
  | false => rw [hc] at e1; cases e1
  | true =>
    rw [hc] at e1
    simp only [cond_true, Option.bind_eq_some_iff, Option.some.injEq, Prod.mk.injEq] at e1
    obtain ⟨y, e1, rfl, e2⟩ := e1
    exact ⟨e1, e2.symm⟩
theorem finOb_spec {hp : AHeap} {t : Ty} {rs : List RK} {a : AVal} {vs : List AVal} {y : dens (RK.tys (.ob t :: rs))} (e : finRes hp (.ob t :: rs) (a :: vs) = some y) :
    ∃ j cs x, ∃ z : dens (RK.tys rs), a = .one (.op j 0) ∧ hp.get j = some (.box cs) ∧ cs.length = t.size ∧ deepIn (hp.del j) cs = true ∧ gatherG (hp.del j).get t cs = some x ∧ finRes ((osIn cs).foldl AHeap.del (hp.del j)) rs vs = some z ∧ y = consD (t := t) (ts := RK.tys rs) x z := by
  simp only [finRes] at e
  split at e
  · rename_i j
    split at e
    · rename_i cs hj
      cases hb : (Nat.beq cs.length t.size && deepIn (hp.del j) cs) with
      | false => rw [hb] at e; cases e
      | true =>
        rw [hb] at e
        simp only [cond_true, Option.bind_eq_some_iff, Option.some.injEq] at e
        obtain ⟨⟨x, hp'⟩, e1, z, e2, rfl⟩ := e
        obtain ⟨h1, rfl⟩ := takeVal_spec e1
        simp only [Bool.and_eq_true] at hb
        exact ⟨j, cs, x, z, rfl, hj, Nat.eq_of_beq_eq_true hb.1, hb.2, h1, e2, rfl⟩
    · cases e
  · cases e
theorem finRes_in [Tabs] : ∀ {rs : List RK} {vs : List AVal} {hp : AHeap} {y : dens (RK.tys rs)}, finRes hp rs vs = some y → ∀ id ∈ resIds rs vs, hp.get id ≠ none
  | [], [], _, _, _, id, hid => by cases hid
  | [], _ :: _, _, _, e, _, _ => by cases e
  | .val t :: rs, [], _, _, e, _, _ => by cases e
  | .own t :: rs, [], _, _, e, _, _ => by cases e
  | .rp t :: rs, [], _, _, e, _, _ => by cases e
  | .sh t :: rs, [], _, _, e, _, _ => by cases e
  | .ob t :: rs, [], _, _, e, _, _ => by cases e
  | .val t :: rs, a :: vs, hp, y, e, id, hid => by
    simp only [finRes] at e
    cases hb : a.fits t with
    | false => rw [hb] at e; cases e
    | true =>
      rw [hb] at e
      simp only [cond_true, Option.bind_eq_some_iff, Option.some.injEq] at e
      obtain ⟨⟨x, hp'⟩, e1, z, e2, rfl⟩ := e
      obtain ⟨i1, i2⟩ := takeVal_in e1
      simp only [resIds, List.mem_append] at hid
      rcases hid with hid | hid
      · exact i1 id hid
      · have := finRes_in (rs := rs) e2 id hid
        cases h : hp'.get id with
        | none => exact absurd h this
        | some o => rw [i2 id o h]; simp
  | .own t :: rs, a :: vs, hp, y, e, id, hid => by
    simp only [finRes] at e
    cases hb : (a.fits t && deepIn hp a.cells) with
    | false => rw [hb] at e; cases e
    | true =>
      rw [hb] at e
      simp only [cond_true, Option.bind_eq_some_iff, Option.some.injEq] at e
      obtain ⟨⟨x, hp'⟩, e1, z, e2, rfl⟩ := e
      obtain ⟨i1, i2⟩ := takeVal_in e1
      have := finRes_in (rs := rs) e2 id hid
      cases h : hp'.get id with
      | none => exact absurd h this
      | some o => rw [i2 id o h]; simp
  | .rp t :: rs, a :: vs, hp, y, e, id, hid => by
    simp only [finRes, Option.bind_eq_some_iff, Option.some.injEq] at e
    obtain ⟨x, e1, z, e2, rfl⟩ := e
    exact finRes_in (rs := rs) e2 id hid
  | .sh t :: rs, a :: vs, hp, y, e, id, hid => by
    simp only [finRes, Option.bind_eq_some_iff, Option.some.injEq] at e
    obtain ⟨⟨x, hp'⟩, e1, z, e2, rfl⟩ := e
    have := finRes_in (rs := rs) e2 id hid
    cases h : hp'.get id with
    | none => exact absurd h this
    | some o => rw [shTo_sub e1 id o h]; simp
  | .ob t :: rs, a :: vs, hp, y, e, id, hid => by
    obtain ⟨j, cs, x, z, rfl, hj, hcl, hdp, e1, e2, rfl⟩ := finOb_spec e
    have := finRes_in (rs := rs) e2 id hid
    rw [dels_get, get_del] at this
    intro hn
    rw [hn] at this
    split at this
    · exact this rfl
    · split at this <;> exact this rfl
theorem finRes_sound [Tabs] (M : Mem h S w m B M0) : ∀ {rs : List RK} {vs : List AVal} {us : List Value} {hp : AHeap} {y : dens (RK.tys rs)}, (∀ id o, hp.get id = some o → h id = some o) → finRes hp rs vs = some y → vs.length = us.length →
    (∀ (i : Nat) (a : AVal) (u : Value), vs[i]? = some a → us[i]? = some u → VRel h S w m a u) → ∃ FR, ResRel (Plus m h S (resIds rs vs)) w rs us y FR ∧ ∀ q, FR q → ∃ id c, hp.get id ≠ none ∧ m id = some c ∧ c.F q ∧ id ∉ resIds rs vs
  | [], [], us, _, y, _, _, hl, _ => ⟨fun _ => False, ⟨List.eq_nil_of_length_eq_zero hl.symm, fun _ h => h⟩, fun _ h => h.elim⟩
  | [], _ :: _, _, _, _, _, e, _, _ => by cases e
  | .val t :: rs, [], _, _, _, _, e, _, _ => by cases e
  | .own t :: rs, [], _, _, _, _, e, _, _ => by cases e
  | .rp t :: rs, [], _, _, _, _, e, _, _ => by cases e
  | .sh t :: rs, [], _, _, _, _, e, _, _ => by cases e
  | .ob t :: rs, [], _, _, _, _, e, _, _ => by cases e
  | .val t :: rs, a :: vs, us, hp, y, hg, e, hl, hr => by
    cases us with
    | nil => cases hl
    | cons u us =>
      simp only [finRes] at e
      cases hb : a.fits t with
      | false => rw [hb] at e; cases e
      | true =>
        rw [hb] at e
        simp only [cond_true, Option.bind_eq_some_iff, Option.some.injEq] at e
        obtain ⟨⟨x, hp'⟩, e1, z, e2, rfl⟩ := e
        have h0 := hr 0 a u rfl rfl
        obtain ⟨f1, f2, f3⟩ := fits_spec M hb h0
        obtain ⟨k1, rfl, _⟩ := takeVal_sound M hg e1 (h0.cells f1 M)
        obtain ⟨FR, k2, k3⟩ := finRes_sound M (rs := rs) (vs := vs) (us := us) (fun id o h1 => hg id o (by rw [dels_get] at h1; split at h1 <;> first | cases h1 | exact h1)) e2 (by simpa using hl) (fun i a u h1 h2 => hr (i + 1) a u (by simpa using h1) (by simpa using h2))
        refine ⟨FR, ⟨u, us, rfl, ⟨u.cells.toList, f3, ?_⟩, ?_⟩, fun q hq => ?_⟩
        · rw [headD_consD]; exact k1.plus fun id hid => by simp [resIds, hid]
        · rw [tailD_consD]; exact k2.mono fun q hq => hq.imp id fun ⟨i, hi, rest⟩ => ⟨i, by simp [resIds, hi], rest⟩
        · obtain ⟨id, c, i1, i2, i3, i4⟩ := k3 q hq
          rw [dels_get] at i1
          have : id ∉ osIn a.cells := fun hm => by rw [if_pos hm] at i1; exact i1 rfl
          rw [if_neg this] at i1
          exact ⟨id, c, i1, i2, i3, by simp [resIds, this, i4]⟩
  | .own t :: rs, a :: vs, us, hp, y, hg, e, hl, hr => by
    cases us with
    | nil => cases hl
    | cons u us =>
      simp only [finRes] at e
      cases hb : (a.fits t && deepIn hp a.cells) with
      | false => rw [hb] at e; cases e
      | true =>
        rw [hb] at e
        simp only [cond_true, Option.bind_eq_some_iff, Option.some.injEq] at e
        obtain ⟨⟨x, hp'⟩, e1, z, e2, rfl⟩ := e
        simp only [Bool.and_eq_true] at hb
        have h0 := hr 0 a u rfl rfl
        obtain ⟨f1, f2, f3⟩ := fits_spec M hb.1 h0
        obtain ⟨d1, d2, d3⟩ := deepIn_spec hb.2
        obtain ⟨_, rfl, hlen⟩ := takeVal_sound M hg e1 (h0.cells f1 M)
        have hgat : gatherG hp.get t a.cells = some x := by
          unfold takeVal at e1
          cases hc : (noSb a.cells && Nat.beq a.cells.length t.size) with
          | false => rw [hc] at e1; cases e1
          | true =>
            rw [hc] at e1
            simp only [cond_true, Option.bind_eq_some_iff, Option.some.injEq, Prod.mk.injEq] at e1
            obtain ⟨y, e1, rfl, _⟩ := e1
            exact e1
        have own := deep_own M hg d1 (fun id hid => by obtain ⟨t', xs, h⟩ := d2 id hid; exact ⟨t', xs, hg id _ h⟩) d3 hgat (h0.cells f1 M) hlen
        obtain ⟨FR, k2, k3⟩ := finRes_sound M (rs := rs) (vs := vs) (us := us) (fun id o h1 => hg id o (by rw [dels_get] at h1; split at h1 <;> first | cases h1 | exact h1)) e2 (by simpa using hl) (fun i a u h1 h2 => hr (i + 1) a u (by simpa using h1) (by simpa using h2))
        have hin := finRes_in e2
        refine ⟨fun q => OsBlk m a.cells q ∨ FR q, ⟨u, us, OsBlk m a.cells, FR, rfl, ⟨u.cells.toList, f3, by rw [headD_consD]; exact own⟩, by rw [tailD_consD]; exact k2, fun q ⟨id, hid, c, hc, hF⟩ h2 => ?_, fun q => Iff.rfl⟩, fun q hq => ?_⟩
        · obtain ⟨id', c', i1, i2, i3, _⟩ := k3 q h2
          rw [dels_get] at i1
          have hne : id' ∉ osIn a.cells := fun hm => by rw [if_pos hm] at i1; exact i1 rfl
          rw [if_neg hne] at i1
          obtain ⟨t', xs, h1⟩ := d2 id hid
          have hn' : h id' ≠ none := by
            cases hx : hp.get id' with
            | none => exact absurd hx i1
            | some o => rw [hg id' o hx]; simp
          exact M.dis id id' c c' (fun e => hne (e ▸ hid)) (by rw [hg id _ h1]; simp) hn' hc i2 q hF i3
        · rcases hq with ⟨id, hid, c, hc, hF⟩ | hq
          · obtain ⟨t', xs, h1⟩ := d2 id hid
            refine ⟨id, c, by rw [h1]; simp, hc, hF, fun hm => ?_⟩
            have := hin id hm
            rw [dels_get, if_pos hid] at this
            exact this rfl
          · obtain ⟨id, c, i1, i2, i3, i4⟩ := k3 q hq
            rw [dels_get] at i1
            split at i1
            · exact absurd rfl i1
            · exact ⟨id, c, i1, i2, i3, i4⟩
  | .rp t :: rs, a :: vs, us, hp, y, hg, e, hl, hr => by
    cases us with
    | nil => cases hl
    | cons u us =>
      have h0 := hr 0 a u rfl rfl
      simp only [finRes, Option.bind_eq_some_iff, Option.some.injEq] at e
      obtain ⟨x, e1, z, e2, rfl⟩ := e
      have ea := pcTo_spec e1
      subst ea
      obtain ⟨FR, k2, k3⟩ := finRes_sound M (rs := rs) (us := us) hg e2 (by simpa using hl) (fun i a u h1 h2 => hr (i + 1) a u (by simpa using h1) (by simpa using h2))
      refine ⟨FR, ⟨u, us, rfl, ?_, ?_⟩, fun q hq => ?_⟩
      · rw [headD_consD]
        exact PcRel.mono (fun _ hq => .inl hq) (fun _ _ => rfl) (Nat.le_refl _) h0
      · rw [tailD_consD]; exact k2
      · exact k3 q hq
  | .sh t :: rs, a :: vs, us, hp, y, hg, e, hl, hr => by
    cases us with
    | nil => cases hl
    | cons u us =>
      have h0 := hr 0 a u rfl rfl
      simp only [finRes, Option.bind_eq_some_iff, Option.some.injEq] at e
      obtain ⟨⟨x, hp'⟩, e1, z, e2, rfl⟩ := e
      obtain ⟨FR, k2, k3⟩ := finRes_sound M (rs := rs) (us := us) (fun id o h1 => hg id o (shTo_sub e1 id o h1)) e2 (by simpa using hl) (fun i a u h1 h2 => hr (i + 1) a u (by simpa using h1) (by simpa using h2))
      have hin := finRes_in e2
      rcases shTo_spec e1 with ⟨rfl, rfl, rfl⟩ | ⟨j, rfl, hj, rfl⟩
      · obtain ⟨o, hv⟩ : ∃ o : Option Addr, u = .slice o 0 0 := h0
        refine ⟨FR, ⟨u, us, fun _ => False, FR, rfl, ?_, ?_, fun _ h => h.elim, fun q => by simp⟩, k3⟩
        · rw [headD_consD]; exact .inl ⟨⟨_, hv⟩, rfl, fun _ h => h⟩
        · rw [tailD_consD]; exact k2
      · obtain ⟨_, c, hc, hv⟩ := h0
        obtain ⟨c', hc', _, hrel⟩ := M.obj j _ (hg j _ hj)
        obtain rfl : c' = c := Option.some.inj (hc'.symm.trans hc)
        rw [← hv] at hrel
        refine ⟨fun q => c'.F q ∨ FR q, ⟨u, us, c'.F, FR, rfl, ?_, ?_, fun q hF h2 => ?_, fun q => Iff.rfl⟩, fun q hq => ?_⟩
        · rw [headD_consD]; exact hrel.mono (fun _ hq => .inl hq) (fun _ _ => rfl) (fun _ _ => rfl) (Nat.le_refl _)
        · rw [tailD_consD]; exact k2
        · obtain ⟨id', c2, i1, i2, i3, _⟩ := k3 q h2
          rw [get_del] at i1
          split at i1
          · exact absurd rfl i1
          · rename_i hne
            have hn' : h id' ≠ none := by
              cases hx : hp.get id' with
              | none => exact absurd hx i1
              | some o => rw [hg id' o hx]; simp
            exact M.dis j id' c' c2 (fun e => hne e.symm) (by rw [hg j _ hj]; simp) hn' hc i2 q hF i3
        · rcases hq with hF | hq
          · refine ⟨j, c', by rw [hj]; simp, hc, hF, fun hm => ?_⟩
            have := hin j hm
            rw [get_del, if_pos rfl] at this
            exact this rfl
          · obtain ⟨id, c2, i1, i2, i3, i4⟩ := k3 q hq
            rw [get_del] at i1
            split at i1
            · exact absurd rfl i1
            · exact ⟨id, c2, i1, i2, i3, i4⟩
  | .ob t :: rs, a :: vs, us, hp, y, hg, e, hl, hr => by
    cases us with
    | nil => cases hl
    | cons u us =>
      have h0 := hr 0 a u rfl rfl
      obtain ⟨j, cs, x, z, rfl, hj, hcl, hdp, hgat, e2, rfl⟩ := finOb_spec e
      obtain ⟨d1, d2, d3⟩ := deepIn_spec hdp
      have hsub : ∀ id o, (hp.del j).get id = some o → id ≠ j ∧ hp.get id = some o := fun id o h1 => by
        rw [get_del] at h1
        split at h1
        · cases h1
        · rename_i hne; exact ⟨hne, h1⟩
      obtain ⟨_, oc, b, hoc, hov, hu⟩ := h0
      obtain ⟨oc', hoc', b', cur, te, k1, k2, k3, k4⟩ := M.obj j _ (hg j _ hj)
      obtain rfl : oc' = oc := Option.some.inj (hoc'.symm.trans hoc)
      rw [k1] at hov
      simp only [Value.pointer.injEq, Option.some.injEq, Addr.mk.injEq] at hov
      obtain ⟨rfl, _⟩ := hov
      have own := deep_own M (fun id o h => hg id o (hsub id o h).2) d1 (fun id hid => by obtain ⟨t', xs, h⟩ := d2 id hid; exact ⟨t', xs, hg id _ (hsub id _ h).2⟩) d3 hgat k3 hcl
      have hGb : ¬ OsBlk m cs b' := fun ⟨i, hi, c, hc, hF⟩ => by
        obtain ⟨t', xs, h⟩ := d2 i hi
        obtain ⟨h1, h2⟩ := hsub i _ h
        exact M.dis i j c oc' h1 (by rw [hg i _ h2]; simp) (by rw [hg j _ hj]; simp) hc hoc b' hF ((k4 b').2 rfl)
      have hin := finRes_in e2
      have hget : ∀ id, ((osIn cs).foldl AHeap.del (hp.del j)).get id ≠ none → id ∉ osIn cs ∧ id ≠ j ∧ hp.get id ≠ none := fun id hn => by
        rw [dels_get] at hn
        split at hn
        · exact absurd rfl hn
        · rename_i h1
          rw [get_del] at hn
          split at hn
          · exact absurd rfl hn
          · rename_i h2; exact ⟨h1, h2, hn⟩
      have hne : ∀ {id}, hp.get id ≠ none → h id ≠ none := fun {id} hn => by
        cases hx : hp.get id with
        | none => exact absurd hx hn
        | some o => rw [hg id o hx]; simp
      obtain ⟨FR, k5, k6⟩ := finRes_sound M (rs := rs) (vs := vs) (us := us) (fun id o h1 => hg id o (hsub id o (dels_sub h1)).2) e2 (by simpa using hl) (fun i a u h1 h2 => hr (i + 1) a u (by simpa using h1) (by simpa using h2))
      refine ⟨fun q => (q = b' ∨ OsBlk m cs q) ∨ FR q, ⟨u, us, fun q => q = b' ∨ OsBlk m cs q, FR, rfl, ⟨b', cur, te, OsBlk m cs, hu, k2, by rw [headD_consD]; exact own, hGb, fun q => Iff.rfl⟩, by rw [tailD_consD]; exact k5, fun q hq h2 => ?_, fun q => Iff.rfl⟩, fun q hq => ?_⟩
      · obtain ⟨id', c', i1, i2, i3, _⟩ := k6 q h2
        obtain ⟨h3, h4, h5⟩ := hget id' i1
        rcases hq with rfl | ⟨id, hid, c, hc, hF⟩
        · exact M.dis id' j c' oc' h4 (hne h5) (by rw [hg j _ hj]; simp) i2 hoc q i3 ((k4 q).2 rfl)
        · obtain ⟨t', xs, h⟩ := d2 id hid
          exact M.dis id id' c c' (fun e => h3 (e ▸ hid)) (by rw [hg id _ (hsub id _ h).2]; simp) (hne h5) hc i2 q hF i3
      · rcases hq with (rfl | ⟨id, hid, c, hc, hF⟩) | hq
        · exact ⟨j, oc', by rw [hj]; simp, hoc, (k4 q).2 rfl, fun hm => (hget j (hin j hm)).2.1 rfl⟩
        · obtain ⟨t', xs, h⟩ := d2 id hid
          exact ⟨id, c, by rw [(hsub id _ h).2]; simp, hc, hF, fun hm => (hget id (hin id hm)).1 hid⟩
        · obtain ⟨id, c, i1, i2, i3, i4⟩ := k6 q hq
          exact ⟨id, c, (hget id i1).2.2, i2, i3, i4⟩
def resRun (tmps : Array Value) : ResultVar → Sem Value
  | .tmp t => pure (tmps.getD t undef)
  | .cell c t => do loadVar t (← asAddr (tmps.getD c undef))
theorem resOf_sound [Tabs] (hE : Good P E) {s : AS} {a : Act} (R : Rel w0 B M0 S m s a w) {rv : ResultVar} (hs : (resOf E s rv).solid = true) : ∃ v, (resRun a.tmps rv).run P w = .ok v w ∧ VRel s.h.get S w m (resOf E s rv) v := by
  cases rv with
  | tmp t => exact ⟨_, rfl, R.tmps t⟩
  | cell c t =>
    unfold resOf at hs ⊢
    simp only at hs ⊢
    split at hs
    · rename_i u id off hu hc
      split at hs
      · rename_i cs ho
        cases hb : Nat.ble (off + u.size) cs.length with
        | false => rw [hb] at hs; cases hs
        | true =>
          have hle := Nat.le_of_ble_eq_true hb
          have hx := R.tmps c
          rw [hc] at hx
          obtain ⟨_, oc, b, hm, hv, hp⟩ := hx
          obtain ⟨oc', hm', ob⟩ := R.mem.obj id _ ho
          obtain rfl : oc' = oc := Option.some.inj (hm'.symm.trans hm)
          obtain ⟨b', cur, el, k1, k2, k3, k4⟩ := box_reads ob
          rw [k1] at hv
          simp only [Value.pointer.injEq, Option.some.injEq, Addr.mk.injEq] at hv
          obtain ⟨rfl, _⟩ := hv
          have hlen : cs.length = cur.toList.length := k3.1
          have hrun := run_loadVar_ty (hE.T _ (look_mem hu)) (reads_of_cells k2 off u.size) (by simp at hlen ⊢; omega)
          refine ⟨_, by simp only [resRun, hp, asAddr]; exact hrun, ?_⟩
          simp only [cond_true]
          exact valOf_rel ((k3.drop off).take u.size) (valV_len (n := u.size) (by simp; omega) size_one)
      · cases hs
    · cases hs
theorem fin_solid {rs : List RK} : ∀ {hp : AHeap} {vs : List AVal} {y : dens (RK.tys rs)}, finRes hp rs vs = some y → ∀ v ∈ vs, v.solid = true := by
  induction rs with
  | nil =>
    intro hp vs y e v hv
    cases vs with
    | nil => cases hv
    | cons a vs => cases e
  | cons rk rs ih =>
    intro hp vs y e v hv
    cases vs with
    | nil => cases hv
    | cons a vs =>
      have sol : ∀ {t : Ty}, a.fits t = true → a.solid = true := fun h => by unfold AVal.fits at h; simp only [Bool.and_eq_true] at h; exact h.1.1
      cases rk with
      | val t =>
        simp only [finRes] at e
        cases hb : a.fits t with
        | false => rw [hb] at e; cases e
        | true =>
          rw [hb] at e
          simp only [cond_true, Option.bind_eq_some_iff] at e
          obtain ⟨p, _, z, e2, _⟩ := e
          rcases List.mem_cons.1 hv with rfl | hv
          · exact sol hb
          · exact ih e2 v hv
      | own t =>
        simp only [finRes] at e
        cases hb : (a.fits t && deepIn hp a.cells) with
        | false => rw [hb] at e; cases e
        | true =>
          rw [hb] at e
          simp only [cond_true, Option.bind_eq_some_iff] at e
          obtain ⟨p, _, z, e2, _⟩ := e
          simp only [Bool.and_eq_true] at hb
          rcases List.mem_cons.1 hv with rfl | hv
          · exact sol hb.1
          · exact ih e2 v hv
      | rp t =>
        simp only [finRes, Option.bind_eq_some_iff] at e
        obtain ⟨p, e1, z, e2, _⟩ := e
        rcases List.mem_cons.1 hv with rfl | hv
        · rw [pcTo_spec e1]; rfl
        · exact ih e2 v hv
      | sh t =>
        simp only [finRes, Option.bind_eq_some_iff] at e
        obtain ⟨⟨p, hp'⟩, e1, z, e2, _⟩ := e
        rcases List.mem_cons.1 hv with rfl | hv
        · rcases shTo_spec e1 with ⟨rfl, _, _⟩ | ⟨j, rfl, _, _⟩ <;> rfl
        · exact ih e2 v hv
      | ob t =>
        obtain ⟨j, cs, x, z, rfl, _, _, _, _, e2, _⟩ := finOb_spec e
        rcases List.mem_cons.1 hv with rfl | hv
        · rfl
        · exact ih e2 v hv
theorem run_mapM {α : Type} {f : α → Sem Value} {w : World} : ∀ (l : List α), (∀ x ∈ l, ∃ v, (f x).run P w = .ok v w) → ∃ vs : List Value, (l.mapM f).run P w = .ok vs w ∧ vs.length = l.length ∧ ∀ (i : Nat) (x : α) (v : Value), l[i]? = some x → vs[i]? = some v → (f x).run P w = .ok v w
  | [], _ => ⟨[], rfl, rfl, fun i x v h => by simp at h⟩
  | x :: l, h => by
    obtain ⟨v, hv⟩ := h x List.mem_cons_self
    obtain ⟨vs, h1, h2, h3⟩ := run_mapM l fun y hy => h y (List.mem_cons_of_mem _ hy)
    refine ⟨v :: vs, by rw [List.mapM_cons]; simp [hv, h1], by simp [h2], fun i y u hi hu => ?_⟩
    cases i with
    | zero => simp at hi hu; subst hi; subst hu; exact hv
    | succ i => exact h3 i y u (by simpa using hi) (by simpa using hu)
theorem results_sound [Tabs] (hE : Good P E) {s : AS} {a : Act} (R : Rel w0 B M0 S m s a w) {fn : Func} (hs : ∀ v ∈ fn.results.toList.map (resOf E s), v.solid = true) : ∃ vs : List Value, (results fn a.tmps).run P w = .ok (retV vs) w ∧ (fn.results.toList.map (resOf E s)).length = vs.length ∧
    ∀ (i : Nat) (x : AVal) (v : Value), (fn.results.toList.map (resOf E s))[i]? = some x → vs[i]? = some v → VRel s.h.get S w m x v := by
  have each : ∀ rv ∈ fn.results.toList, ∃ v, (resRun a.tmps rv).run P w = .ok v w ∧ VRel s.h.get S w m (resOf E s rv) v := fun rv h => resOf_sound hE R (hs _ (List.mem_map.2 ⟨rv, h, rfl⟩))
  obtain ⟨vs, h1, h2, h3⟩ := run_mapM (P := P) (w := w) (f := resRun a.tmps) fn.results.toList fun rv h => (each rv h).imp fun v k => k.1
  refine ⟨vs, ?_, by simp [h2], fun i x v hx hv => ?_⟩
  · have e : results fn a.tmps = (do let vs ← fn.results.mapM (resRun a.tmps); pure (if h : vs.size = 1 then vs[0] else .tuple vs)) := rfl
    rw [e, Array.mapM_eq_mapM_toList]
    have hret : ∀ (l : List Value), (if h : l.toArray.size = 1 then l.toArray[0] else Value.tuple l.toArray) = retV l := fun l => by
      match l with
      | [] => rfl
      | [v] => rfl
      | _ :: _ :: _ => simp [retV]
    rw [← hret vs]
    simp [-Array.getD_eq_getD_getElem?, h1]
  · rw [List.getElem?_map] at hx
    cases hi : fn.results.toList[i]? with
    | none => rw [hi] at hx; cases hx
    | some rv =>
      rw [hi] at hx
      simp only [Option.map_some, Option.some.injEq] at hx
      subst hx
      obtain ⟨v', k1, k2⟩ := each rv (List.mem_of_getElem? hi)
      have := (h3 i rv v hi hv).symm.trans k1
      cases this
      exact k2
theorem init_val [Tabs] : ∀ {ps : List PK} {us : List Value} {x : dens (PK.tys ps)} {F : Blk} (i : Nat), allVal ps = true → ArgsRel S w ps us x F → (initVals ps x i).2 = [] ∧ (initVals ps x i).1.length = us.length ∧ (∀ q, ¬ F q) ∧
    ∀ (j : Nat) (a : AVal) (u : Value), (initVals ps x i).1[j]? = some a → us[j]? = some u → VRel (fun _ => none) S w (fun _ => none) a u
  | [], us, x, F, i, _, r => by
    obtain ⟨rfl, hF⟩ := r
    exact ⟨rfl, rfl, hF, fun j a u h => by simp [initVals] at h⟩
  | .val t :: ps, us, x, F, i, hv, r => by
    obtain ⟨v, us, rfl, ⟨ds, rfl, k⟩, r⟩ := r
    obtain ⟨h1, h2, h3, h4⟩ := init_val (ps := ps) (i + 1) hv r
    refine ⟨h1, by simp [initVals, h2], h3, fun j a u ha hu => ?_⟩
    cases j with
    | zero =>
      simp [initVals] at ha hu
      subst ha; subst hu
      exact ofDen_rel k
    | succ j => exact h4 j a u (by simpa [initVals] using ha) (by simpa using hu)
  | .rp t :: ps, us, x, F, i, hv, r => by
    obtain ⟨v, us, rfl, k, r⟩ := r
    obtain ⟨h1, h2, h3, h4⟩ := init_val (ps := ps) (i + 1) hv r
    refine ⟨h1, by simp [initVals, h2], h3, fun j a u ha hu => ?_⟩
    cases j with
    | zero =>
      simp [initVals] at ha hu
      subst ha; subst hu
      exact k
    | succ j => exact h4 j a u (by simpa [initVals] using ha) (by simpa using hu)
  | .fn g ts :: ps, us, x, F, i, hv, r => by
    obtain ⟨cs, us, rfl, k, r⟩ := r
    obtain ⟨h1, h2, h3, h4⟩ := init_val (ps := ps) (i + 1) hv r
    refine ⟨h1, by simp [initVals, h2], h3, fun j a u ha hu => ?_⟩
    cases j with
    | zero =>
      simp [initVals] at ha hu
      subst ha; subst hu
      exact ⟨cs, rfl, k⟩
    | succ j => exact h4 j a u (by simpa [initVals] using ha) (by simpa using hu)
  | .own t :: ps, _, _, _, _, hv, _ => by cases hv
  | .mbox t :: ps, _, _, _, _, hv, _ => by cases hv
  | .obox t :: ps, _, _, _, _, hv, _ => by cases hv
theorem del_val : ∀ {ps : List PK} {i : Nat} {h : AHeap}, allVal ps = true → delMuts ps i h = h
  | [], _, _, _ => rfl
  | .val t :: ps, i, h, hv => del_val (ps := ps) (i := i + 1) hv
  | .rp t :: ps, i, h, hv => del_val (ps := ps) (i := i + 1) hv
  | .fn g ts :: ps, i, h, hv => del_val (ps := ps) (i := i + 1) hv
  | .own t :: ps, _, _, hv => by cases hv
  | .mbox t :: ps, _, _, hv => by cases hv
  | .obox t :: ps, _, _, hv => by cases hv
theorem fin_val : ∀ {ps : List PK} {x : dens (PK.tys ps)} {i : Nat} {h : AHeap} {ts : List Ty} {y : dens ts} {r : dens (PK.mtys ps ts)} {us : List Value} {K : dens ts → Prop}, allVal ps = true → finMuts ps x i h ts y = some r → K y → OutRel S w ps us ts r (fun _ => False) K
  | [], x, i, h, ts, y, r, us, K, _, e, k => by cases e; exact ⟨fun _ h => h, k⟩
  | .val t :: ps, x, i, h, ts, y, r, us, K, hv, e, k => fin_val (ps := ps) (x := tailD x) (i := i + 1) (r := r) hv e k
  | .rp t :: ps, x, i, h, ts, y, r, us, K, hv, e, k => fin_val (ps := ps) (x := tailD x) (i := i + 1) (r := r) hv e k
  | .fn g gs :: ps, x, i, h, ts, y, r, us, K, hv, e, k => fin_val (ps := ps) (x := tailD x) (i := i + 1) (r := r) hv e k
  | .own t :: ps, _, _, _, _, _, _, _, _, hv, _, _ => by cases hv
  | .mbox t :: ps, _, _, _, _, _, _, _, _, hv, _, _ => by cases hv
  | .obox t :: ps, _, _, _, _, _, _, _, _, hv, _, _ => by cases hv
theorem ownOk_val : ∀ {ps : List PK} {x : dens (PK.tys ps)} {c : Code} {s : AS}, allVal ps = true → ownOk ps x c s = true
  | [], _, _, _, _ => rfl
  | .val _ :: _, _, _, _, _ => rfl
  | .rp _ :: _, _, _, _, _ => rfl
  | .fn _ _ :: _, _, _, _, _ => rfl
  | .own _ :: _, _, _, _, h => by cases h
  | .mbox _ :: _, _, _, _, h => by cases h
  | .obox _ :: _, _, _, _, h => by cases h
theorem fun_sound [Tabs] (hE : Good P E) {f : FuncId} {fn : Func} (hf : P.funcs[f]? = some fn) {C : FnSpec} (hv : allVal C.ps = true) (he : ∀ x, afun E fn C.ps C.rs x = C.fn x) : Sound P f C := by
  intro w us x r S Ms hT hS hargs hMs hr
  rw [← he] at hr
  unfold afun at hr
  split at hr
  · cases hr
  · rename_i c hb
    obtain ⟨i1, i2, i3, i4⟩ := init_val (ps := C.ps) (x := x) 0 hv hargs
    generalize hin : initVals C.ps x 0 = iv at *
    obtain ⟨vs, h⟩ := iv
    simp only at i1 i2 i4
    subst i1
    simp only at hr
    let a0 : Act := { tmps := us.toArray ++ Array.replicate (fn.ntmps - us.toArray.size) undef, defers := [] }
    have R0 : Rel w w.heap.size (fun _ => False) S (fun _ => none) { ρ := vs ++ List.replicate (fn.ntmps - vs.length) (.one .und), h := [], t := 0 } a0 w := by
      refine ⟨{ obj := fun id o (e : none = some o) => (nomatch e), dis := fun i j c d _ hi => absurd rfl hi, apart := fun i c hi => absurd rfl hi, lt := hS }, ⟨rfl, rfl, rfl, Nat.le_refl _, fun _ _ _ => rfl, fun _ _ => rfl, fun p hp => ⟨(hT p hp).1, fun h => h, (hT p hp).2.2⟩⟩, fun i => ?_, by simp [a0, i2], rfl⟩
      by_cases hi : i < vs.length
      · have h1 : (vs ++ List.replicate (fn.ntmps - vs.length) (AVal.one .und)).getD i (.one .und) = vs[i] := by
          rw [List.getD_eq_getElem?_getD, List.getElem?_append_left hi]; simp [hi]
        have h2 : a0.tmps.getD i undef = us[i]'(by omega) := by
          show (us.toArray ++ Array.replicate _ undef).getD i undef = _
          rw [Array.getD_eq_getD_getElem?, Array.getElem?_append_left (by simp; omega)]
          simp [show i < us.length by omega]
        show VRel _ _ _ _ ((vs ++ List.replicate (fn.ntmps - vs.length) (AVal.one .und)).getD i (.one .und)) _
        rw [h1, h2]
        exact i4 i _ _ (by simp [hi]) (by simp [show i < us.length by omega])
      · have h1 : (vs ++ List.replicate (fn.ntmps - vs.length) (AVal.one .und)).getD i (.one .und) = .one .und := by
          rw [List.getD_eq_getElem?_getD, List.getElem?_append_right (by omega), List.getElem?_replicate]
          split <;> rfl
        show VRel _ _ _ _ ((vs ++ List.replicate (fn.ntmps - vs.length) (AVal.one .und)).getD i (.one .und)) _
        rw [h1]; exact trivial
    refine calls_of_wp hf hb (aexec_sound hE (Nat.le_refl _) c R0 hr fun e s' a' w' S' m' hk G => ?_)
    rw [ownOk_val hv, Bool.and_true] at hk
    cases hret : (AExit.same e .ret || AExit.same e .normal) with
    | false => rw [hret] at hk; cases hk
    | true =>
      rw [hret, del_val hv] at hk
      simp only [cond_true, Option.bind_eq_some_iff] at hk
      obtain ⟨y, hy, hfin⟩ := hk
      obtain ⟨vs', v1, v2, v3⟩ := results_sound hE G.rel (fin_solid hy)
      obtain ⟨FR, k1, k2⟩ := finRes_sound G.rel.mem (fun id o h => h) hy v2 v3
      have goal : a'.defers = [] ∧ ∃ v, (results fn a'.tmps).run P w' = .ok v w' ∧ ∃ vs S' FM FR, Ending.returned v = .returned (retV vs) ∧ Past w w' Ms ∧
          (∀ q, S q → S' q) ∧ (∀ q, S' q → S q ∨ (w.heap.size ≤ q ∧ q < w'.heap.size)) ∧
          OutRel S' w' C.ps us (RK.tys C.rs) r FM (fun z => ResRel S' w' C.rs vs z FR) ∧
          (∀ q, FM q → (Ms q ∨ w.heap.size ≤ q) ∧ q < w'.heap.size ∧ ¬ S' q) ∧ (∀ q, FR q → w.heap.size ≤ q ∧ q < w'.heap.size ∧ ¬ S' q ∧ ¬ FM q) := by
        have hfrm := G.rel.frm
        have noM : ∀ q, ¬ Ms q := i3
        refine ⟨G.rel.defers, _, v1, vs', Plus m' s'.h.get S' (resIds C.rs (fn.results.toList.map (resOf E s'))), (fun _ => False), FR, rfl, ⟨hfrm.os, hfrm.tape, hfrm.output, hfrm.size, fun q hq _ => hfrm.block q hq fun h => h, hfrm.fz⟩, fun q hq => .inl (G.ext.sub q hq), fun q hq => ?_, fin_val hv hfin k1, fun q hq => hq.elim, fun q hq => ?_⟩
        · rcases hq with hq | ⟨id, _, hn, c, hc, hF⟩
          · rcases G.ext.news q hq with h | h | h
            · exact .inl h
            · exact .inr ⟨h, G.rel.mem.lt q hq⟩
            · exact h.elim
          · have := G.rel.mem.apart id c hn hc q hF
            exact .inr ⟨this.2.2.resolve_right fun h => h, this.2.1⟩
        · obtain ⟨id, c, hn, hc, hF, hnot⟩ := k2 q hq
          have ap := G.rel.mem.apart id c hn hc q hF
          refine ⟨ap.2.2.resolve_right fun h => h, ap.2.1, fun hp => ?_, fun h => h⟩
          rcases hp with hp | ⟨id', hid', hn', c', hc', hF'⟩
          · exact ap.1 hp
          · exact G.rel.mem.dis id id' c c' (fun e => hnot (e ▸ hid')) hn hn' hc hc' q hF hF'
      rcases Bool.or_eq_true_iff.1 hret with h | h
      · have := same_spec h; subst this; exact goal
      · have := same_spec h; subst this; exact goal
theorem CellRel.of_none {h' : HGet} {m' : OMap} {c : ACell} {v : Value} (r : CellRel (fun _ => none) S w (fun _ => none) c v) : CellRel h' S w m' c v := by
  cases c with
  | os id => obtain ⟨⟨_, _, _, h⟩, _⟩ := r; cases h
  | op id off => obtain ⟨⟨_, h⟩, _⟩ := r; cases h
  | oe id i off => obtain ⟨⟨_, _, _, h, _⟩, _⟩ := r; cases h
  | sb id i off e y => obtain ⟨_, _, h, _⟩ := r; cases h
  | vw id k => obtain ⟨_, h, _⟩ := r; cases h
  | _ => exact r
theorem get_filter {p : Nat → Bool} : ∀ {l : AHeap} {id : Nat} {o : AObj}, AHeap.get (l.filter fun q => p q.1) id = some o → AHeap.get l id = some o
  | [], _, _, h => h
  | (j, x) :: l, id, o, h => by
    rw [List.filter_cons] at h
    simp only [AHeap.get]
    cases hb : Nat.beq j id with
    | true =>
      have := Nat.eq_of_beq_eq_true hb
      subst this
      cases hp : p j with
      | true => simpa [hp, AHeap.get] using h
      | false =>
        exfalso
        have hx : ∀ (l : AHeap), AHeap.get (l.filter fun q => p q.1) j = none := by
          intro l
          induction l with
          | nil => rfl
          | cons q l ih =>
            obtain ⟨k, y⟩ := q
            rw [List.filter_cons]
            cases hk : p k with
            | false => simpa [hk] using ih
            | true =>
              have : k ≠ j := fun e => by rw [e, hp] at hk; cases hk
              have hb2 : Nat.beq k j = false := by
                cases h : Nat.beq k j with
                | true => exact absurd (Nat.eq_of_beq_eq_true h) this
                | false => rfl
              simpa [hk, AHeap.get, hb2] using ih
        simp [hp] at h
        rw [hx l] at h
        cases h
    | false =>
      have : AHeap.get (l.filter fun q => p q.1) id = some o := by
        cases hp : p j with
        | true => simpa [hp, AHeap.get, hb] using h
        | false => simpa [hp] using h
      exact get_filter this
theorem res_none : ∀ {rs : List RK} {vs : List Value} {x : dens (RK.tys rs)} {F : Blk}, plainRs rs = true → ResRel S w rs vs x F → ∀ q, ¬ F q
  | [], _, _, _, _, r => r.2
  | .val t :: rs, _, x, _, h, r => by
    obtain ⟨_, _, _, _, r⟩ := r
    simp only [plainRs, Bool.and_eq_true] at h
    exact res_none (rs := rs) h.2 r
  | .own _ :: _, _, _, _, h, _ => by cases h
theorem mut_len : ∀ (t : Ty) (x : t.den) (base : Nat), (mutCells base t x).1.length = t.size ∧ base ≤ (mutCells base t x).2.2
  | .unit, _, _ => ⟨rfl, Nat.le_refl _⟩
  | .bool, _, _ => ⟨rfl, Nat.le_refl _⟩
  | .int _, _, _ => ⟨rfl, Nat.le_refl _⟩
  | .str, _, _ => ⟨rfl, Nat.le_refl _⟩
  | .raw, _, _ => ⟨rfl, Nat.le_refl _⟩
  | .slice _, _, _ => ⟨rfl, Nat.le_succ _⟩
  | .pair a b, x, base => by
    have h1 := mut_len a x.1 base
    have h2 := mut_len b x.2 (mutCells base a x.1).2.2
    simp only [mutCells, List.length_append, h1.1, h2.1, Ty.size]
    exact ⟨trivial, Nat.le_trans h1.2 h2.2⟩
theorem mut_back [Tabs] {w1 : World} {hp : AHeap} (M : Mem hp.get S w m B M0) : ∀ {t : Ty} {x y : t.den} {ds : List Value} {base n : Nat} {F : Blk}, mutBack hp base t x = some (y, n) → Own w1 t ds x F → (∀ (i id : Nat), (mutCells base t x).1[i]? = some (.os id) → ∃ c v, m id = some c ∧ ds[i]? = some v ∧ v = c.v) →
    n = (mutCells base t x).2.2 ∧ Own w t ds y (fun q => ∃ id c, base ≤ id ∧ id < n ∧ hp.get id ≠ none ∧ m id = some c ∧ c.F q)
  | .unit, x, y, ds, base, n, F, e, o, _ => by
    simp only [mutBack, Option.some.injEq, Prod.mk.injEq] at e
    obtain ⟨_, rfl⟩ := e
    exact ⟨rfl, o.1, fun q ⟨id, c, h1, h2, _⟩ => by omega⟩
  | .bool, x, y, ds, base, n, F, e, o, _ => by
    simp only [mutBack, Option.some.injEq, Prod.mk.injEq] at e
    obtain ⟨rfl, rfl⟩ := e
    exact ⟨rfl, o.1, fun q ⟨id, c, h1, h2, _⟩ => by omega⟩
  | .int k, x, y, ds, base, n, F, e, o, _ => by
    simp only [mutBack, Option.some.injEq, Prod.mk.injEq] at e
    obtain ⟨rfl, rfl⟩ := e
    exact ⟨rfl, o.1, fun q ⟨id, c, h1, h2, _⟩ => by omega⟩
  | .str, x, y, ds, base, n, F, e, o, _ => by
    simp only [mutBack, Option.some.injEq, Prod.mk.injEq] at e
    obtain ⟨rfl, rfl⟩ := e
    exact ⟨rfl, o.1, fun q ⟨id, c, h1, h2, _⟩ => by omega⟩
  | .raw, x, y, ds, base, n, F, e, o, _ => by
    simp only [mutBack, Option.some.injEq, Prod.mk.injEq] at e
    obtain ⟨rfl, rfl⟩ := e
    exact ⟨rfl, o.1, fun q ⟨id, c, h1, h2, _⟩ => by omega⟩
  | .slice t, x, y, ds, base, n, F, e, o, hs => by
    obtain ⟨v, rfl, _⟩ := o
    simp only [mutBack] at e
    split at e
    · rename_i t' xs hget
      simp only [Option.bind_eq_some_iff, Option.some.injEq, Prod.mk.injEq] at e
      obtain ⟨z, hc, rfl, rfl⟩ := e
      obtain ⟨hty, hz⟩ := cast?_some hc
      have hty' : t' = t := by cases hty; rfl
      subst hty'
      cases hz
      obtain ⟨c, v', hm, hv, hcv⟩ := hs 0 base rfl
      simp at hv
      subst hv
      obtain ⟨c', hm', _, hr⟩ := M.obj base _ hget
      obtain rfl : c' = c := Option.some.inj (hm'.symm.trans hm)
      refine ⟨rfl, v, rfl, ?_⟩
      rw [hcv]
      have : (fun q => ∃ id c, base ≤ id ∧ id < base + 1 ∧ hp.get id ≠ none ∧ m id = some c ∧ c.F q) = c'.F := by
        funext q
        refine propext ⟨fun ⟨id, c, h1, h2, h3, h4, h5⟩ => ?_, fun hq => ⟨base, c', Nat.le_refl _, Nat.lt_succ_self _, by rw [hget]; simp, hm, hq⟩⟩
        have : id = base := by omega
        subst this
        obtain rfl : c = c' := Option.some.inj (h4.symm.trans hm)
        exact h5
      rw [this]
      exact hr
    · cases e
  | .pair a b, x, y, ds, base, n, F, e, o, hs => by
    obtain ⟨p, q, G, H, rfl, o1, o2, _, _⟩ := o
    simp only [mutBack, Option.bind_eq_some_iff, Option.some.injEq, Prod.mk.injEq] at e
    obtain ⟨⟨y1, n1⟩, e1, ⟨y2, n2⟩, e2, rfl, rfl⟩ := e
    simp only at e2
    have hl := (mut_len a x.1 base).1
    have hpl := o1.len
    obtain ⟨hn1, k1⟩ := mut_back (t := a) M e1 o1 (fun i id hi => by
      have hlt : i < (mutCells base a x.1).1.length := (List.getElem?_eq_some_iff.1 hi).1
      obtain ⟨c, v, h1, h2, h3⟩ := hs i id (by simp only [mutCells]; rw [List.getElem?_append_left hlt]; exact hi)
      exact ⟨c, v, h1, by rw [List.getElem?_append_left (by omega)] at h2; exact h2, h3⟩)
    subst hn1
    obtain ⟨hn2, k2⟩ := mut_back (t := b) M e2 o2 (fun i id hi => by
      obtain ⟨c, v, h1, h2, h3⟩ := hs (a.size + i) id (by simp only [mutCells]; rw [List.getElem?_append_right (by omega), hl, Nat.add_sub_cancel_left]; exact hi)
      exact ⟨c, v, h1, by rw [List.getElem?_append_right (by omega), hpl, Nat.add_sub_cancel_left] at h2; exact h2, h3⟩)
    subst hn2
    have le1 := (mut_len a x.1 base).2
    have le2 := (mut_len b x.2 (mutCells base a x.1).2.2).2
    refine ⟨by simp only [mutCells], p, q, _, _, rfl, k1, k2, fun z ⟨i, c, i1, i2, i3, i4, i5⟩ ⟨j, d, j1, j2, j3, j4, j5⟩ => M.dis i j c d (by omega) i3 j3 i4 j4 z i5 j5, fun z => ⟨fun ⟨i, c, i1, i2, i3⟩ => ?_, fun h => ?_⟩⟩
    · by_cases hi : i < (mutCells base a x.1).2.2
      · exact .inl ⟨i, c, i1, hi, i3⟩
      · exact .inr ⟨i, c, by omega, i2, i3⟩
    · rcases h with ⟨i, c, i1, i2, i3⟩ | ⟨i, c, i1, i2, i3⟩
      · exact ⟨i, c, i1, by omega, i3⟩
      · exact ⟨i, c, by omega, i2, i3⟩
theorem sameOs_spec : ∀ {cs ds : List ACell}, sameOs cs ds = true → ∀ (i id : Nat), ds[i]? = some (.os id) → cs[i]? = some (.os id)
  | [], [], _, i, id, h => by simp at h
  | [], _ :: _, h, _, _, _ => by cases h
  | _ :: _, [], h, _, _, _ => by cases h
  | c :: cs, d :: ds, h, i, id, hi => by
    cases i with
    | zero =>
      simp at hi
      subst hi
      simp only [sameOs, Bool.and_eq_true] at h
      cases c with
      | os j => have := Nat.eq_of_beq_eq_true h.1; subst this; rfl
      | _ => cases h.1
    | succ i =>
      have h' : sameOs cs ds = true := by
        cases d with
        | os j => simp only [sameOs, Bool.and_eq_true] at h; exact h.2
        | _ => exact h
      simpa using sameOs_spec h' i id (by simpa using hi)
theorem fun_sound_own [Tabs] (hE : Good P E) {f : FuncId} {fn : Func} (hf : P.funcs[f]? = some fn) {t : Ty} {ps : List PK} {rs : List RK} {gf : dens (PK.tys (.own t :: ps)) → Option (dens (PK.mtys (.own t :: ps) (RK.tys rs)))} (hav : allVal ps = true) (hpl : plainRs rs = true) (he : ∀ x, afun E fn (.own t :: ps) rs x = gf x) : Sound P f ⟨.own t :: ps, rs, gf⟩ := by
  intro w us x r S Ms hT hS hargs hMs hr
  have hr : gf x = some r := hr
  rw [← he] at hr
  obtain ⟨v, us, G, H, rfl, ⟨ds, hdv, hown⟩, hrest, hdis, hMs'⟩ := hargs
  unfold afun at hr
  split at hr
  · cases hr
  · rename_i c hb
    obtain ⟨i1, i2, i3, i4⟩ := init_val (ps := ps) (x := tailD x) 1 hav hrest
    obtain ⟨cm, no, hcells⟩ := own_cells (S := S) 100000 hown
    have hi0 : initVals (.own t :: ps) x 0 = (valOf t.isAgg (mutCells 100000 t (headD x)).1 :: (initVals ps (tailD x) 1).1, (mutCells 100000 t (headD x)).2.1) := by
      simp only [initVals, Nat.mul_zero, Nat.add_zero, Nat.zero_add, i1, List.append_nil]
    rw [hi0] at hr
    simp only at hr
    have hMG : ∀ q, G q → Ms q := fun q hq => (hMs' q).2 (.inl hq)
    generalize hvs : (initVals ps (tailD x) 1).1 = vs at *
    generalize hgh : (mutCells 100000 t (headD x)).2.1 = gh at *
    let a0 : Act := { tmps := (v :: us).toArray ++ Array.replicate (fn.ntmps - (v :: us).toArray.size) undef, defers := [] }
    have hmc := hcells gh.get S cm (fun id o e => ⟨e, rfl⟩)
    have hvr : VRel gh.get S w cm (valOf t.isAgg (mutCells 100000 t (headD x)).1) v := by
      rw [hdv]
      exact valOf_rel hmc (valV_len (mut_len t (headD x) 100000).1 size_one)
    have M0 : Mem gh.get S w cm w.heap.size Ms := by
      have blk : ∀ id c, gh.get id ≠ none → cm id = some c → ∀ q, c.F q → G q := fun id c hn hc q hq => by
        cases e : gh.get id with
        | none => exact absurd e hn
        | some o =>
          obtain ⟨oc, h1, _, h5⟩ := no.obj id o e
          obtain rfl : oc = c := Option.some.inj (h1.symm.trans hc)
          exact h5 q hq
      refine ⟨fun id o e => ?_, no.dis, fun id c hn hc q hq => ?_, hS⟩
      · obtain ⟨oc, h1, h4, _⟩ := no.obj id o e
        exact ⟨oc, h1, h4 _ _ fun i o ei => ⟨ei, rfl⟩⟩
      · have hq' := hMG q (blk id c hn hc q hq)
        exact ⟨(hMs q hq').1, (hMs q hq').2, .inr hq'⟩
    have R0 : Rel w w.heap.size Ms S cm { ρ := (valOf t.isAgg (mutCells 100000 t (headD x)).1 :: vs) ++ List.replicate (fn.ntmps - (valOf t.isAgg (mutCells 100000 t (headD x)).1 :: vs).length) (.one .und), h := gh, t := 0 } a0 w := by
      refine ⟨M0, ⟨rfl, rfl, rfl, Nat.le_refl _, fun _ _ _ => rfl, fun _ _ => rfl, hT⟩, fun i => ?_, by simp [a0, i2]; omega, rfl⟩
      generalize hL : (valOf t.isAgg (mutCells 100000 t (headD x)).1 :: vs) = L
      have hLlen : L.length = (v :: us).length := by rw [← hL]; simp [i2]
      by_cases hi : i < L.length
      · have h1 : (L ++ List.replicate (fn.ntmps - L.length) (AVal.one .und)).getD i (.one .und) = L[i] := by
          rw [List.getD_eq_getElem?_getD, List.getElem?_append_left hi]; simp [hi]
        have h2 : a0.tmps.getD i undef = (v :: us)[i]'(by omega) := by
          show ((v :: us).toArray ++ Array.replicate _ undef).getD i undef = _
          rw [Array.getD_eq_getD_getElem?, Array.getElem?_append_left (by simp at hLlen ⊢; omega)]
          simp at hLlen
          simp [show i < us.length + 1 by omega]
        show VRel _ _ _ _ ((L ++ List.replicate (fn.ntmps - L.length) (AVal.one .und)).getD i (.one .und)) _
        rw [h1, h2]
        subst hL
        cases i with
        | zero => exact hvr
        | succ i =>
          simp only [List.length_cons] at hLlen hi
          exact (i4 i _ _ (by simp [show i < vs.length by omega]) (by simp [show i < us.length by omega])).imp fun c v r => CellRel.of_none r
      · have h1 : (L ++ List.replicate (fn.ntmps - L.length) (AVal.one .und)).getD i (.one .und) = .one .und := by
          rw [List.getD_eq_getElem?_getD, List.getElem?_append_right (by omega), List.getElem?_replicate]
          split <;> rfl
        show VRel _ _ _ _ ((L ++ List.replicate (fn.ntmps - L.length) (AVal.one .und)).getD i (.one .und)) _
        rw [h1]; exact trivial
    refine calls_of_wp hf hb (aexec_sound hE (Nat.le_refl _) c R0 hr fun e s' a' w' S' m' hk GG => ?_)
    cases hret : ((AExit.same e .ret || AExit.same e .normal) && ownOk (.own t :: ps) x c s') with
    | false => rw [hret] at hk; cases hk
    | true =>
      rw [hret] at hk
      simp only [cond_true, Option.bind_eq_some_iff] at hk
      obtain ⟨y, hy, hfin⟩ := hk
      simp only [Bool.and_eq_true, ownOk, Bool.not_eq_true', List.any_eq_false] at hret
      obtain ⟨hex, ⟨hd0, hfit⟩, hsame⟩ := hret
      have hd0' : 0 ∉ dstsOf c := fun hm => by have := hd0 0 hm; simp at this
      obtain ⟨vs', v1, v2, v3⟩ := results_sound hE GG.rel (fin_solid hy)
      obtain ⟨FR, k1, k2⟩ := finRes_sound GG.rel.mem (fun id o h => by
        simp only [delMuts, del_val hav] at h
        exact get_filter (p := fun j => !(Nat.ble (100000 + 16 * 0) j && Nat.ble j (100000 + 16 * 0 + 15))) h) hy v2 v3
      have hFR := res_none hpl k1
      have k1' : ResRel S w' rs vs' y FR := k1.any_leads (plainRs_leads hpl)
      simp only [finMuts, Option.bind_eq_some_iff, Option.some.injEq] at hfin
      obtain ⟨⟨p, n⟩, hmb, z, hz, rfl⟩ := hfin
      have hv0 := GG.rel.tmps 0
      have htmp : a'.tmps.getD 0 undef = v := by
        rw [GG.keep 0 hd0']
        show ((v :: us).toArray ++ Array.replicate _ undef).getD 0 undef = _
        rw [Array.getD_eq_getD_getElem?, Array.getElem?_append_left (by simp)]
        simp
      rw [htmp] at hv0
      obtain ⟨f1, f2, f3⟩ := fits_spec GG.rel.mem hfit hv0
      have hc0 := hv0.cells f1 GG.rel.mem
      have hdl := hown.len
      have hds : v.cells.toList = ds := by
        have h4 : v.cells.toList.length = t.size := by rw [← hc0.1]; exact f2
        have h3 := f3
        generalize v.cells.toList = us0 at h3 h4 ⊢
        rw [hdv] at h3
        cases hagg : t.isAgg with
        | true =>
          rw [hagg] at h3
          simp only [valV, if_true, Value.agg.injEq] at h3
          have := congrArg Array.toList h3
          simpa using this.symm
        | false =>
          rw [hagg] at h3
          have hs1 := size_one hagg
          rw [hs1] at hdl h4
          obtain ⟨p, rfl⟩ := List.length_eq_one_iff.1 hdl
          obtain ⟨q, rfl⟩ := List.length_eq_one_iff.1 h4
          simp [valV] at h3
          rw [h3]
      rw [hds] at hc0
      obtain ⟨hn, hownB⟩ := mut_back GG.rel.mem hmb hown (fun i id hi => by
        have h1 := sameOs_spec hsame i id hi
        have hlt : i < ds.length := by rw [← hc0.1]; exact (List.getElem?_eq_some_iff.1 h1).1
        have hvv : ds[i]? = some ds[i] := by simp
        obtain ⟨_, cc, hc, hcv⟩ := hc0.2.2 i _ _ h1 hvv
        exact ⟨cc, ds[i], hc, hvv, hcv⟩)
      have hfrm := GG.rel.frm
      have goal : a'.defers = [] ∧ ∃ v', (results fn a'.tmps).run P w' = .ok v' w' ∧ ∃ vs S' FM FR, Ending.returned v' = .returned (retV vs) ∧ Past w w' Ms ∧
          (∀ q, S q → S' q) ∧ (∀ q, S' q → S q ∨ (w.heap.size ≤ q ∧ q < w'.heap.size)) ∧
          OutRel S' w' (.own t :: ps) (v :: us) (RK.tys rs) (consD p z) FM (fun z => ResRel S' w' rs vs z FR) ∧
          (∀ q, FM q → (Ms q ∨ w.heap.size ≤ q) ∧ q < w'.heap.size ∧ ¬ S' q) ∧ (∀ q, FR q → w.heap.size ≤ q ∧ q < w'.heap.size ∧ ¬ S' q ∧ ¬ FM q) := by
        refine ⟨GG.rel.defers, _, v1, vs', S, _, FR, rfl, ⟨hfrm.os, hfrm.tape, hfrm.output, hfrm.size, hfrm.block, hfrm.fz⟩, fun q hq => hq, fun q hq => .inl hq,
          ⟨v, us, _, fun _ => False, rfl, ⟨ds, hdv, by rw [headD_consD]; exact hownB⟩, by rw [tailD_consD]; exact fin_val hav hz k1', fun _ _ h => h.elim, fun q => Iff.rfl⟩, fun q hq => ?_, fun q hq => (hFR q hq).elim⟩
        rcases hq with ⟨id, cc, _, _, hn', hc, hF⟩ | hq
        · have := GG.rel.mem.apart id cc hn' hc q hF
          exact ⟨this.2.2.symm.imp (fun h => h) fun h => h, this.2.1, fun hs => this.1 (GG.ext.sub q hs)⟩
        · exact hq.elim
      rcases Bool.or_eq_true_iff.1 hex with h | h
      · have := same_spec h; subst this; exact goal
      · have := same_spec h; subst this; exact goal
theorem fun_sound_obox [Tabs] (hE : Good P E) {f : FuncId} {fn : Func} (hf : P.funcs[f]? = some fn) {t : Ty} {ps : List PK} {rs : List RK} {gf : dens (PK.tys (.obox t :: ps)) → Option (dens (PK.mtys (.obox t :: ps) (RK.tys rs)))} (hav : allVal ps = true) (hpl : plainRs rs = true) (he : ∀ x, afun E fn (.obox t :: ps) rs x = gf x) : Sound P f ⟨.obox t :: ps, rs, gf⟩ := by
  intro w us x r S Ms hT hS hargs hMs hr
  have hr : gf x = some r := hr
  rw [← he] at hr
  obtain ⟨v, us, G, H, rfl, hob, hrest, hdis, hMs'⟩ := hargs
  unfold afun at hr
  split at hr
  · cases hr
  · rename_i c hb
    obtain ⟨i1, i2, i3, i4⟩ := init_val (ps := ps) (x := tailD x) 1 hav hrest
    obtain ⟨cm, no, _, hval⟩ := put_res (S := S) (rs := [.ob t]) (vs := [v]) (z := consD (t := t) (ts := []) (headD x) ()) (F := G) 100000 ⟨v, [], G, fun _ => False, rfl, by rw [headD_consD]; exact hob, ⟨rfl, fun _ h => h⟩, fun _ _ h => h, fun q => by simp⟩
    have hi0 : initVals (.obox t :: ps) x 0 = (.one (.op 100000 0) :: (initVals ps (tailD x) 1).1, (putRes 100000 [.ob t] (consD (t := t) (ts := []) (headD x) ())).2.1) := by
      simp only [initVals, putRes, headD_consD, Nat.mul_zero, Nat.add_zero, Nat.zero_add, i1]
    have hg0 : AHeap.get (putRes 100000 [.ob t] (consD (t := t) (ts := []) (headD x) ())).2.1 100000 = some (.box (mutCells 100001 t (headD x)).1) := by
      simp only [putRes, headD_consD]
      simp [AHeap.get]
    rw [hi0] at hr
    simp only at hr
    have hMG : ∀ q, G q → Ms q := fun q hq => (hMs' q).2 (.inl hq)
    generalize hvs : (initVals ps (tailD x) 1).1 = vs at *
    have hval0 := fun (h : HGet) (m : OMap) hh => hval h m hh 0 (false, [.op 100000 0]) v (by simp [putRes]) rfl
    generalize hgh : (putRes 100000 [.ob t] (consD (t := t) (ts := []) (headD x) ())).2.1 = gh at *
    let a0 : Act := { tmps := (v :: us).toArray ++ Array.replicate (fn.ntmps - (v :: us).toArray.size) undef, defers := [] }
    have hvr : VRel gh.get S w cm (.one (.op 100000 0)) v := by
      obtain ⟨c1, e1, h1⟩ := hval0 gh.get cm fun id o e => ⟨e, rfl⟩
      cases e1
      exact h1
    have M0 : Mem gh.get S w cm w.heap.size Ms := by
      refine ⟨fun id o e => ?_, no.dis, fun id c hn hc q hq => ?_, hS⟩
      · obtain ⟨oc, h1, h4, _⟩ := no.obj id o e
        exact ⟨oc, h1, h4 _ _ fun i o ei => ⟨ei, rfl⟩⟩
      · cases e : AHeap.get gh id with
        | none => exact absurd e hn
        | some o =>
          obtain ⟨oc, h1, _, h5⟩ := no.obj id o e
          obtain rfl : oc = c := Option.some.inj (h1.symm.trans hc)
          have hq' := hMG q (h5 q hq)
          exact ⟨(hMs q hq').1, (hMs q hq').2, .inr hq'⟩
    obtain ⟨b0, cur0, te0, G0, hv0, hb0, _, _, _⟩ := hob
    have R0 : Rel w w.heap.size Ms S cm { ρ := (.one (.op 100000 0) :: vs) ++ List.replicate (fn.ntmps - (AVal.one (.op 100000 0) :: vs).length) (.one .und), h := gh, t := 0 } a0 w := by
      refine ⟨M0, ⟨rfl, rfl, rfl, Nat.le_refl _, fun _ _ _ => rfl, fun _ _ => rfl, hT⟩, fun i => ?_, by simp [a0, i2]; omega, rfl⟩
      generalize hL : (AVal.one (.op 100000 0) :: vs) = L
      have hLlen : L.length = (v :: us).length := by rw [← hL]; simp [i2]
      by_cases hi : i < L.length
      · have h1 : (L ++ List.replicate (fn.ntmps - L.length) (AVal.one .und)).getD i (.one .und) = L[i] := by
          rw [List.getD_eq_getElem?_getD, List.getElem?_append_left hi]; simp [hi]
        have h2 : a0.tmps.getD i undef = (v :: us)[i]'(by omega) := by
          show ((v :: us).toArray ++ Array.replicate _ undef).getD i undef = _
          rw [Array.getD_eq_getD_getElem?, Array.getElem?_append_left (by simp at hLlen ⊢; omega)]
          simp at hLlen
          simp [show i < us.length + 1 by omega]
        show VRel _ _ _ _ ((L ++ List.replicate (fn.ntmps - L.length) (AVal.one .und)).getD i (.one .und)) _
        rw [h1, h2]
        subst hL
        cases i with
        | zero => exact hvr
        | succ i =>
          simp only [List.length_cons] at hLlen hi
          exact (i4 i _ _ (by simp [show i < vs.length by omega]) (by simp [show i < us.length by omega])).imp fun c v r => CellRel.of_none r
      · have h1 : (L ++ List.replicate (fn.ntmps - L.length) (AVal.one .und)).getD i (.one .und) = .one .und := by
          rw [List.getD_eq_getElem?_getD, List.getElem?_append_right (by omega), List.getElem?_replicate]
          split <;> rfl
        show VRel _ _ _ _ ((L ++ List.replicate (fn.ntmps - L.length) (AVal.one .und)).getD i (.one .und)) _
        rw [h1]; exact trivial
    refine calls_of_wp hf hb (aexec_sound hE (Nat.le_refl _) c R0 hr fun e s' a' w' S' m' hk GG => ?_)
    cases hret : ((AExit.same e .ret || AExit.same e .normal) && ownOk (.obox t :: ps) x c s') with
    | false => rw [hret] at hk; cases hk
    | true =>
      rw [hret] at hk
      simp only [cond_true, Option.bind_eq_some_iff] at hk
      obtain ⟨y, hy, hfin⟩ := hk
      simp only [Bool.and_eq_true, ownOk, Bool.not_eq_true', List.any_eq_false] at hret
      obtain ⟨hex, hd0, hsame⟩ := hret
      have hd0' : 0 ∉ dstsOf c := fun hm => by have := hd0 0 hm; simp at this
      obtain ⟨vs', v1, v2, v3⟩ := results_sound hE GG.rel (fin_solid hy)
      obtain ⟨FR, k1, k2⟩ := finRes_sound GG.rel.mem (fun id o h => by
        simp only [delMuts, del_val hav] at h
        exact get_filter (p := fun j => !(Nat.ble (100000 + 16 * 0) j && Nat.ble j (100000 + 16 * 0 + 15))) (dels_sub h)) hy v2 v3
      have hFR := res_none hpl k1
      have k1' : ResRel S w' rs vs' y FR := k1.any_leads (plainRs_leads hpl)
      simp only [finMuts, Nat.mul_zero, Nat.add_zero] at hfin
      cases hbx : s'.h.get 100000 with
      | none => rw [hbx] at hfin; cases hfin
      | some ob =>
      rw [hbx] at hfin
      cases ob with
      | arr _ _ _ => cases hfin
      | src _ _ _ => cases hfin
      | box cs =>
      simp only at hfin
      cases hcs : (Nat.beq cs.length t.size && deepIn (s'.h.del 100000) cs) with
      | false => rw [hcs] at hfin; cases hfin
      | true =>
      rw [hcs] at hfin
      simp only [cond_true, Option.bind_eq_some_iff, Option.some.injEq] at hfin
      obtain ⟨p, hp, z, hz, rfl⟩ := hfin
      simp only [Bool.and_eq_true] at hcs
      have hcl := Nat.eq_of_beq_eq_true hcs.1
      obtain ⟨dn, dobj0, dc⟩ := deepIn_spec hcs.2
      have dobj : ∀ i ∈ osIn cs, i ≠ 100000 ∧ ∃ t xs, s'.h.get i = some (.arr true t xs) := fun i hi => by
        obtain ⟨t', xs, h1⟩ := dobj0 i hi
        rw [get_del] at h1
        by_cases e1 : i = 100000
        · rw [if_pos e1] at h1; cases h1
        · rw [if_neg e1] at h1; exact ⟨e1, t', xs, h1⟩
      obtain ⟨oc, hoc, b', cur', te', q1, q2, q3, q4⟩ := GG.rel.mem.obj 100000 _ hbx
      have htv := GG.rel.tmps 0
      have htmp : a'.tmps.getD 0 undef = v := by
        rw [GG.keep 0 hd0']
        show ((v :: us).toArray ++ Array.replicate _ undef).getD 0 undef = _
        rw [Array.getD_eq_getD_getElem?, Array.getElem?_append_left (by simp)]
        simp
      rw [htmp] at htv
      have hbb : v = .pointer (some ⟨b', 0, none⟩) := by
        split at hsame
        · rename_i id hρ
          have := Nat.eq_of_beq_eq_true hsame
          subst this
          rw [hρ] at htv
          obtain ⟨_, oc2, b2, h1, h2, h3⟩ := htv
          obtain rfl : oc2 = oc := Option.some.inj (h1.symm.trans hoc)
          rw [q1] at h2
          simp only [Value.pointer.injEq, Option.some.injEq, Addr.mk.injEq] at h2
          rw [h3, h2.1]
        · cases hsame
      have hown0 : Own w' t cur'.toList p (OsBlk m' cs) := deep_own GG.rel.mem (get := s'.h.get) (fun _ _ e => e) dn (fun i hi => (dobj i hi).2) dc hp q3 hcl
      have hGb : ¬ OsBlk m' cs b' := fun ⟨i, hi, c, hc, hF⟩ => by
        obtain ⟨h1, t', xs, h2⟩ := dobj i hi
        exact GG.rel.mem.dis i 100000 c oc h1 (heap_ne h2) (heap_ne hbx) hc hoc b' hF ((q4 b').2 rfl)
      have hfrm := GG.rel.frm
      have goal : a'.defers = [] ∧ ∃ v', (results fn a'.tmps).run P w' = .ok v' w' ∧ ∃ vs S' FM FR, Ending.returned v' = .returned (retV vs) ∧ Past w w' Ms ∧
          (∀ q, S q → S' q) ∧ (∀ q, S' q → S q ∨ (w.heap.size ≤ q ∧ q < w'.heap.size)) ∧
          OutRel S' w' (.obox t :: ps) (v :: us) (RK.tys rs) (consD p z) FM (fun z => ResRel S' w' rs vs z FR) ∧
          (∀ q, FM q → (Ms q ∨ w.heap.size ≤ q) ∧ q < w'.heap.size ∧ ¬ S' q) ∧ (∀ q, FR q → w.heap.size ≤ q ∧ q < w'.heap.size ∧ ¬ S' q ∧ ¬ FM q) := by
        refine ⟨GG.rel.defers, _, v1, vs', S, (fun q => q = b' ∨ OsBlk m' cs q), FR, rfl, ⟨hfrm.os, hfrm.tape, hfrm.output, hfrm.size, hfrm.block, hfrm.fz⟩, fun q hq => hq, fun q hq => .inl hq,
          ⟨v, us, fun q => q = b' ∨ OsBlk m' cs q, fun _ => False, rfl, ⟨b', cur', te', OsBlk m' cs, hbb, q2, by rw [headD_consD]; exact hown0, hGb, fun q => Iff.rfl⟩, by rw [tailD_consD]; exact fin_val hav hz k1', fun _ _ h => h.elim, fun q => by simp⟩, fun q hq => ?_, fun q hq => (hFR q hq).elim⟩
        have : ∃ id c, s'.h.get id ≠ none ∧ m' id = some c ∧ c.F q := by
          rcases hq with rfl | ⟨id, hid, c, hc, hF⟩
          · exact ⟨100000, oc, heap_ne hbx, hoc, (q4 q).2 rfl⟩
          · obtain ⟨_, t', xs, h2⟩ := dobj id hid
            exact ⟨id, c, heap_ne h2, hc, hF⟩
        obtain ⟨id, cc, hn', hc, hF⟩ := this
        have := GG.rel.mem.apart id cc hn' hc q hF
        exact ⟨this.2.2.symm.imp (fun h => h) fun h => h, this.2.1, fun hs => this.1 (GG.ext.sub q hs)⟩
      rcases Bool.or_eq_true_iff.1 hex with h | h
      · have := same_spec h; subst this; exact goal
      · have := same_spec h; subst this; exact goal
end
end Go.Ab
