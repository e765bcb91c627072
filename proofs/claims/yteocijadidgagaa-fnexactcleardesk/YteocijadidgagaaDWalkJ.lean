/-
  slices.DeleteFunc at tickets that are not open: what it leaves.
-/
import Derived.Test.YteocijadidgagaaDWalkK
import Derived.Test.YteocijadidgagaaDWalkI
import Derived.Test.YteocijadidgagaaXDel
namespace Go.Proofs.Yteocijadidgagaa
open Go Go.RowKit Go.Ab

set_option maxHeartbeats 4000000 in
set_option maxRecDepth 100000 in
theorem idx55nil (w : World) (o : Option Addr) : Calls Try.prog 55 #[.slice o 0 0, .func (.func 39) #[] #[]] w fun e w' => e = .returned (.int .i64 (-1)) ∧ w' = w := by
  go_enter Try.func55, Try.ntmps55
  go_wp2_with fail
  refine wp_loop_rounds 1 ?_
  rw [rounds_succ]
  go_wp2_with fail
  go_ret
  exact ⟨rfl, rfl⟩

set_option maxHeartbeats 4000000 in
set_option maxRecDepth 100000 in
theorem del37nil (w : World) (o : Option Addr) : Calls Try.prog 37 #[.slice o 0 0, .func (.func 39) #[] #[]] w fun e w' => e = .returned (.slice o 0 0) ∧ w' = w := by
  have HI := Lib.hid (idx55nil w o)
  go_enter Try.func37, Try.ntmps37
  go_wp2_with fail
  refine HI.out.mono ?_
  rintro e w1 ⟨rfl, rfl⟩
  go_wp2_with fail
  go_ret
  exact ⟨rfl, rfl⟩

theorem filter_range {α : Type} (l : List α) (p : α → Bool) (q : Nat → Bool) (d : α) (hq : ∀ (k : Nat) (x : α), l[k]? = some x → q k = p x) : ∀ j, j ≤ l.length → (l.take j).filter p = ((List.range j).filter q).map fun k => l.getD k d
  | 0, _ => by simp
  | j + 1, h => by
    have ih := filter_range l p q d hq j (by omega)
    have hx : l[j]? = some (l[j]'(by omega)) := by simp [show j < l.length by omega]
    rw [List.take_add_one, hx, List.range_succ, List.filter_append, List.filter_append, List.map_append, ih]
    congr 1
    have e := hq j _ hx
    have g : l.getD j d = l[j]'(by omega) := by rw [List.getD_eq_getElem?_getD, hx]; rfl
    cases hb : q j with
    | true =>
      rw [hb] at e
      simp only [Option.toList_some, List.filter_cons, ← e, if_true, List.filter_nil, hb, List.map_cons, List.map_nil, g]
    | false =>
      rw [hb] at e
      simp [← e, hb]

theorem row_ticket {w : World} {cs : List Value} {x : TT.den} {F : Blk} (h : Own w TT cs x F) : ∃ p : Option Addr × Nat × Nat, cs = [.int .i64 x.1, .int .i64 x.2.1, .slice p.1 p.2.1 p.2.2, .int .i64 x.2.2.2.1] := by
  obtain ⟨c1, d1, G1, H1, rfl, h1, h2, _⟩ := h
  obtain ⟨c2, d2, G2, H2, rfl, h3, h4, _⟩ := h2
  obtain ⟨c3, d3, G3, H3, rfl, h5, h6, _⟩ := h4
  obtain ⟨c4, d4, G4, H4, rfl, h7, h8, _⟩ := h6
  obtain ⟨⟨rfl, _⟩, _⟩ := h1
  obtain ⟨⟨rfl, _⟩, _⟩ := h3
  obtain ⟨v, rfl, hv⟩ := h5
  obtain ⟨⟨rfl, _⟩, _⟩ := h7
  obtain ⟨rfl, _⟩ := h8
  rcases hv with ⟨⟨o, rfl⟩, _⟩ | ⟨g, cap, cur, e, Fs, rfl, _⟩
  · exact ⟨(o, 0, 0), rfl⟩
  · exact ⟨(some ⟨g, 0, none⟩, _, cap), rfl⟩

abbrev DT : DelFn := ⟨TT, 39, fun x => decide (x.2.2.2.1 = (0 : Int))⟩

theorem delOk : DelOk Try.prog 37 DT := by
  intro w v xs F hv hn
  have hFl : ∀ q, F q → q < w.heap.size := hv.lt
  rcases hv with ⟨⟨o, rfl⟩, rfl, hF⟩ | ⟨g, cap, cur, te, Fs, rfl, hg, hs, hc, hm, he, k7, k8, hFF⟩
  · refine (del37nil w o).mono fun e w2 hk => ?_
    obtain ⟨rfl, rfl⟩ := hk
    exact ⟨_, fun _ => False, rfl, Nat.le_refl _, fun _ _ _ => rfl, rfl, rfl, rfl, fun _ => rfl, .inl ⟨⟨o, rfl⟩, rfl, fun _ h => h⟩, fun _ h => h.elim⟩
  · have hms : maxLen = 9223372036854775807 := rfl
    have hs4 : cur.size = cap * 4 := hs
    have hgl := lt_of_heap hg
    have he' : ∀ (k : Nat) (u : TT.den), xs[k]? = some u → Own w TT ((cur.toList.drop (k * 4)).take 4) u (Fs k) := fun k u hk => he k u hk
    obtain ⟨sp, hsp⟩ := Classical.axiomOfChoice (r := fun (k : Nat) (p : Option Addr × Nat × Nat) => ∀ x : TT.den, xs[k]? = some x → (cur.toList.drop (k * 4)).take 4 = [.int .i64 x.1, .int .i64 x.2.1, .slice p.1 p.2.1 p.2.2, .int .i64 x.2.2.2.1]) (fun k => by
      cases hx : xs[k]? with
      | none => exact ⟨(none, 0, 0), fun x h => by cases h⟩
      | some x =>
        obtain ⟨p, hp⟩ := row_ticket (he' k x hx)
        exact ⟨p, fun y h => by cases h; exact hp⟩)
    let dflt : TT.den := ((0 : Int), (0 : Int), ([] : List Int), (0 : Int), ())
    have at_ : ∀ (k c : Nat) (u : Value), k < xs.length → c < 4 → ([.int .i64 (xs.getD k dflt).1, .int .i64 (xs.getD k dflt).2.1, .slice (sp k).1 (sp k).2.1 (sp k).2.2, .int .i64 (xs.getD k dflt).2.2.2.1] : List Value)[c]? = some u → w.cell? ⟨g, k * 4 + c, none⟩ = some u := fun k c u hk hc4 hu => by
      have hx : xs[k]? = some (xs.getD k dflt) := by rw [List.getD_eq_getElem?_getD]; simp [hk]
      refine cell_of (n := 4) hg ?_
      rw [hsp k _ hx]
      exact hu
    refine (del37 w g xs.length cap te cur (fun k => (xs.getD k dflt).1) (fun k => (xs.getD k dflt).2.1) (fun k => (sp k).1) (fun k => (sp k).2.1) (fun k => (sp k).2.2) (fun k => (xs.getD k dflt).2.2.2.1) hn hc (by omega) hg hs4 hgl
      (fun k hk => at_ k 0 _ hk (by decide) rfl) (fun k hk => at_ k 1 _ hk (by decide) rfl) (fun k hk => at_ k 2 _ hk (by decide) rfl) (fun k hk => at_ k 3 _ hk (by decide) rfl)).mono fun e w2 hk => ?_
    obtain ⟨R', rfl, kin, hR, hlow⟩ := hk
    generalize hK : ((List.range xs.length).filter fun k => decide ((xs.getD k dflt).2.2.2.1 = (0 : Int))) = K at hlow
    have hfil : xs.filter DT.keep = K.map fun k => xs.getD k dflt := by
      have := filter_range xs DT.keep (fun k => decide ((xs.getD k dflt).2.2.2.1 = (0 : Int))) dflt (fun k x hx => by rw [List.getD_eq_getElem?_getD, hx]; rfl) xs.length (Nat.le_refl _)
      rw [List.take_length, hK] at this
      exact this
    have hKl : K.length ≤ xs.length := by
      rw [← hK]
      have := List.length_filter_le (fun k => decide ((xs.getD k dflt).2.2.2.1 = (0 : Int))) (List.range xs.length)
      rwa [List.length_range] at this
    have hKm : ∀ (m k : Nat), K[m]? = some k → k < xs.length := fun m k hmk => by
      have := List.mem_of_getElem? hmk
      rw [← hK, List.mem_filter, List.mem_range] at this
      exact this.1
    have hnd : K.Nodup := by rw [← hK]; exact List.nodup_range.filter _
    refine ⟨_, fun b => b = g ∨ ∃ m, m < (xs.filter DT.keep).length ∧ ∃ k, K[m]? = some k ∧ Fs k b, rfl, kin.size, fun q h1 h2 => kin.old q h1 fun h => h2 (h ▸ (hFF g).2 (.inl rfl)), kin.os, kin.tape, kin.output, kin.fz, .inr ⟨g, cap, R', te, fun m b => ∃ k, K[m]? = some k ∧ Fs k b, ?_, kin.row, hR.trans hs, ?_, hm, fun m x hx => ?_, fun i j b hi hj h1 h2 => ?_, fun i hi h => ?_, fun b => Iff.rfl⟩, fun q hq => ?_⟩
    · rw [hfil, List.length_map]
    · rw [hfil, List.length_map]; omega
    · rw [hfil, List.getElem?_map] at hx
      cases hk : K[m]? with
      | none => rw [hk] at hx; cases hx
      | some k =>
        rw [hk] at hx
        simp only [Option.map_some, Option.some.injEq] at hx
        subst hx
        have hkl := hKm m k hk
        have hxk : xs[k]? = some (xs.getD k dflt) := by rw [List.getD_eq_getElem?_getD]; simp [hkl]
        have ho := he' k _ hxk
        have hrow : (R'.toList.drop (m * 4)).take 4 = (cur.toList.drop (k * 4)).take 4 := by
          apply List.ext_getElem?
          intro c
          rw [seg_get, seg_get]
          by_cases h4 : c < 4
          · rw [if_pos h4, if_pos h4]
            have := hlow m k hk c h4
            simpa using this
          · rw [if_neg h4, if_neg h4]
        have hsz : DT.t.size = 4 := rfl
        show Own w2 TT ((R'.toList.drop (m * TT.size)).take TT.size) _ _
        rw [show TT.size = 4 from rfl, hrow]
        have hb : ∀ b, Fs k b → w2.heap[b]? = w.heap[b]? := fun b hb => kin.old b (hFl b ((hFF b).2 (.inr ⟨k, hkl, hb⟩))) fun e => k8 k hkl (e ▸ hb)
        have := Own.mono hb ho
        have hfe : (fun b => ∃ k', K[m]? = some k' ∧ Fs k' b) = Fs k := by
          funext b
          exact propext ⟨fun ⟨k', e, h⟩ => by rw [hk] at e; cases e; exact h, fun h => ⟨k, hk, h⟩⟩
        simp only []
        rw [hfe]
        exact this
    · obtain ⟨k1, e1, f1⟩ := h1
      obtain ⟨k2, e2, f2⟩ := h2
      have := k7 k1 k2 b (hKm i k1 e1) (hKm j k2 e2) f1 f2
      subst this
      have hi' : i < K.length := (List.getElem?_eq_some_iff.1 e1).1
      exact (List.getElem?_inj hi' hnd).1 (e1.trans e2.symm)
    · obtain ⟨k, e1, f1⟩ := h
      exact k8 k (hKm i k e1) f1
    · left
      rcases hq with rfl | ⟨m, _, k, e1, f1⟩
      · exact (hFF q).2 (.inl rfl)
      · exact (hFF q).2 (.inr ⟨k, hKm m k e1, f1⟩)
end Go.Proofs.Yteocijadidgagaa
