/-
  slices.Insert at tickets, one at a time: what it leaves.
-/
import Derived.Test.YteocijadidgagaaDWalkA
import Derived.Test.YteocijadidgagaaDWalkC
import Derived.Test.YteocijadidgagaaXIns3
import Derived.Laws.Cells
namespace Go.Proofs.Yteocijadidgagaa
open Go Go.RowKit Go.Ab

abbrev TT : Ty := .pair (.int .i64) (.pair (.int .i64) (.pair (.slice (.int .i64)) (.pair (.int .i64) .unit)))
theorem ty24 : tyOk Try.prog 24 (.slice TT) = true := by kernel_rfl

theorem insOk : InsOk Try.prog 49 TT := by
  intro w v x xs y F G i hv hx hFG hi hn
  obtain ⟨te, inf, z, hu, hinf, hsz, hpos, hz, hzz, hby⟩ := slice_ty ty24
  obtain rfl : te = 49 := by rw [und24] at hu; cases hu; rfl
  obtain rfl : inf = Try.t49 := by rw [inf49] at hinf; cases hinf; rfl
  have sz : TT.size = 4 := rfl
  have hzs : z.cells.size = TT.size := by
    obtain ⟨p', hp', _, hrep, _⟩ := isZ_spec (S := fun _ => False) (w := w) (h := fun _ => none) (m := fun _ => none) TT _ _ hzz
    rw [List.append_nil] at hp'
    rw [← hp'] at hrep
    simpa using hrep.len
  have hGl : ∀ q, G q → q < w.heap.size := hx.lt
  have hFl : ∀ q, F q → q < w.heap.size := hv.lt
  -- what is inserted
  have hxr := hx
  rcases hx with ⟨_, h0, _⟩ | ⟨q, c, xc, tq, Gs, ex, hxq, hxs, hx1, hx2, hxe, hxd, hxn, hxG⟩
  · cases h0
  simp only [List.length_singleton] at ex hx1
  have hGq : G q := (hxG q).2 (.inl rfl)
  obtain ⟨Gt, hxx, hG1, hG2⟩ : ∃ Gs : Nat → Blk, ((x = .slice none 0 0 ∧ [y] = []) ∨ ∃ (ad : Addr) (cap : Nat) (news : List Value), x = .slice (some ad) [y].length cap ∧ news.length = [y].length * TT.size ∧ (∀ j u, news[j]? = some u → w.cell? (ad.add j) = some u) ∧ (∀ u ∈ news, u.oneCell' = true) ∧
      ∀ i y', [y][i]? = some y' → El (fun _ => False) w true TT ((news.drop (i * TT.size)).take TT.size) y' (Gs i)) ∧ (∀ i j q, i < [y].length → j < [y].length → Gs i q → Gs j q → i = j) ∧ ∀ i q, i < [y].length → Gs i q → G q := by
    rcases hxr.rowsX hpos with ⟨e1, e2⟩ | ⟨ad, cap, news, Gs, e1, e2, e3, e4, e5, e6, e7⟩
    · exact ⟨fun _ _ => False, .inl ⟨e1, e2⟩, fun _ _ _ _ _ h => h.elim, fun _ _ _ h => h.elim⟩
    · exact ⟨Gs, .inr ⟨ad, cap, news, e1, e2, e3, e4, e5⟩, e6, e7⟩
  have app : ∀ (hlast : xs.drop i = []), ∃ v' w' F', (Builtin.append_ #[24, 24] 24 #[v, x]).run Try.prog w = .ok v' w' ∧ w.heap.size ≤ w'.heap.size ∧ (∀ q, q < w.heap.size → ¬ F q → w'.heap[q]? = w.heap[q]?) ∧ w'.os = w.os ∧ w'.tape = w.tape ∧ w'.output = w.output ∧ (∀ a, w'.frozen? a = w.frozen? a) ∧
      ArrRel (fun _ => False) w' true TT v' (xs.take i ++ y :: xs.drop i) F' ∧ ∀ q, F' q → F q ∨ G q ∨ (w.heap.size ≤ q ∧ q < w'.heap.size) := fun hlast => by
    have hlim : lim = 4294967296 := rfl
    obtain ⟨v', w', F', k1, k2, k3, k4, k5, k6, k7, k8, k9⟩ := append_arrX (P := Try.prog) (ty := 24) (X := G) (Gs := Gt) und24 inf49 hsz hz hzs hby (S := fun _ => False) (D := true) hv hxx hG1 hG2 (fun q hq hF => hFG q hF hq) hGl (by simp only [List.length_singleton]; omega) (fun q h => h.elim)
    refine ⟨v', w', F', k1, k2, k3, k4, k5, k6, k7, ?_, k9⟩
    have et : xs.take i = xs := by
      have := List.take_append_drop i xs
      rw [hlast, List.append_nil] at this
      exact this
    rw [hlast, et]
    exact k8
  have hxl : xc.toList.length = c * 4 := by rw [Array.length_toList, hxs]; rfl
  have Yl : (xc.toList.take 4).length = 4 := by rw [List.length_take, hxl]; omega
  have Yr : Own w TT (xc.toList.take 4) y (Gs 0) := by
    have h0 : Own w TT ((xc.toList.drop (0 * TT.size)).take TT.size) y (Gs 0) := hxe 0 y rfl
    simpa [sz] using h0
  have hG0 : ∀ b, Gs 0 b → G b := fun b hb => (hxG b).2 (.inr ⟨0, by simp, hb⟩)
  have oY : ∀ u ∈ xc.toList.take 4, u.oneCell' = true := RowsX.one (t := TT) (by decide) (w := w) (zs := [y]) (Fs := fun _ => Gs 0) (by rw [Yl]; rfl) (fun k u hk => by
    cases k with
    | zero =>
      simp only [List.getElem?_cons_zero, Option.some.injEq] at hk
      subst hk
      rw [Nat.zero_mul, List.drop_zero, List.take_of_length_le (by rw [Yl]; exact Nat.le_refl 4)]
      exact Yr
    | succ k => simp at hk)
  rcases hv with ⟨⟨o, rfl⟩, rfl, hF⟩ | ⟨g, cap, cur, te, Fs, rfl, hg, hs, hc, hm, he, k7, k8, hFF⟩
  · simp only [List.length_nil, Nat.le_zero] at hi
    subst hi
    obtain ⟨v', w', F', k1, k2⟩ := app rfl
    rw [ex] at k1 ⊢
    refine (insA0 w w' o q c v' k1).mono fun e w2 hk => ?_
    obtain ⟨rfl, rfl⟩ := hk
    exact ⟨v', F', rfl, k2⟩
  · have hgF : F g := (hFF g).2 (.inl rfl)
    have hqg : q ≠ g := fun h => hFG g hgF (h ▸ hGq)
    have hms : maxLen = 9223372036854775807 := rfl
    by_cases hin : i = xs.length
    · subst hin
      obtain ⟨v', w', F', k1, k2⟩ := app (by simp)
      rw [ex] at k1 ⊢
      refine (insA w w' g xs.length cap q c v' hc (by omega) (by omega) k1).mono fun e w2 hk => ?_
      obtain ⟨rfl, rfl⟩ := hk
      exact ⟨v', F', rfl, k2⟩
    · have hlt : i < xs.length := by omega
      have hcl : cur.toList.length = cap * 4 := by rw [Array.length_toList, hs]; rfl
      have he' : ∀ k u, xs[k]? = some u → Own w TT ((cur.toList.drop (k * TT.size)).take TT.size) u (Fs k) := fun k u hk => he k u hk
      have Ar := RowsX.head (t := TT) he' i
      have Zr := RowsX.tail (t := TT) he' i
      rw [sz] at Ar Zr
      have hmul : xs.length * 4 ≤ cap * 4 := Nat.mul_le_mul_right _ hc
      have hmul2 : (xs.length - i) * 4 = xs.length * 4 - i * 4 := Nat.sub_mul _ _ _
      have Al : (cur.toList.take (i * 4)).length = i * 4 := by rw [List.length_take, hcl]; omega
      have Zl : ((cur.toList.drop (i * 4)).take ((xs.length - i) * 4)).length = (xs.length - i) * 4 := by rw [List.length_take, List.length_drop, hcl]; omega
      have oZ := RowsX.one (t := TT) (by decide) (w := w) (L := (cur.toList.drop (i * 4)).take ((xs.length - i) * 4)) (zs := xs.drop i) (by rw [Zl, List.length_drop]; rfl) Zr
      have hFs : ∀ j b, j < xs.length → Fs j b → F b := fun j b hj hb => (hFF b).2 (.inr ⟨j, hj, hb⟩)
      have rY : ∀ j u, (xc.toList.take 4).toArray.toList[j]? = some u → w.cell? ⟨q, j, none⟩ = some u := fun j u hj => by
        have := cell_of (w := w) hxq (o := 0) (n := 4) (j := j) (v := u) (by simpa using hj)
        simpa using this
      have rZ : ∀ j u, ((cur.toList.drop (i * 4)).take ((xs.length - i) * 4)).toArray.toList[j]? = some u → w.cell? ⟨g, i * 4 + j, none⟩ = some u := fun j u hj => cell_of (w := w) hg (by simpa using hj)
      have hgl := lt_of_heap hg
      have hql := lt_of_heap hxq
      rw [ex]
      by_cases hroom : xs.length + 1 ≤ cap
      · refine (insC w g xs.length i q c cap te tq cur xc (cur.toList.take (i * 4)).toArray (xc.toList.take 4).toArray ((cur.toList.drop (i * 4)).take ((xs.length - i) * 4)).toArray (by omega) (by omega) hlt hroom hqg hg hxq (by simpa using Al) (by simpa using Yl) (by simpa using Zl) hs (by simp) rY rZ (by simpa using oY) (by simpa using oZ)).mono fun e w2 hk => ?_
        obtain ⟨row, rfl, r1, r2, r3, r4, r5, r6, r7, r8, r9⟩ := hk
        simp only [] at r3
        obtain ⟨F', f1, f2⟩ := ins_arr (t := TT) (w := w) (w' := w2) (S := fun _ => False) (F := F) (G := G) Al Yl hi Ar Yr Zr k7 hFs hG0 hFG (fun b _ hb => r8 b hb) k8 (fun h => hFG g hgF (hG0 g h)) r1 r2 hroom hm r3
        exact ⟨_, F', rfl, Nat.le_of_eq r7.symm, fun q' hq' hF' => r8 q' fun h => hF' (h ▸ hgF), r4, r5, r6, r9, f1, fun q' hq' => (f2 q' hq').elim (fun h => .inl (h ▸ hgF)) fun h => h.imp (fun h => h) .inl⟩
      · have hce : cap = xs.length := by omega
        subst hce
        have hload : (loadCellsFrom ⟨g, 0, none⟩ 0 (i * 4) #[]).run Try.prog w.drew = .ok (cur.toList.take (i * 4)).toArray w.drew := by
          have := run_loadCells_list (P := Try.prog) w.drew ⟨g, 0, none⟩ (cur.toList.take (i * 4)) (fun j u hj => by
            rw [add_none, Nat.zero_add]
            have := cell_of (w := w) hg (o := 0) (n := i * 4) (j := j) (v := u) (by simpa using hj)
            simpa using this)
          rw [Al] at this
          exact this
        refine (insB w g xs.length i q c (by omega) hlt (cur.toList.take (i * 4)).toArray (xc.toList.take 4).toArray ((cur.toList.drop (i * 4)).take ((xs.length - i) * 4)).toArray (by simpa using Al) (by simpa using Yl) (by simpa using Zl) hload hgl hql rY rZ (by simpa using oY) (by simpa using oZ)).mono fun e w2 hk => ?_
        obtain ⟨cap', row, rfl, r1, r2, r3, r4, r5, r6⟩ := hk
        simp only [] at r5
        have old : ∀ b, F b ∨ G b → b < w.heap.size := fun b hb => hb.elim (hFl b) (hGl b)
        obtain ⟨F', f1, f2⟩ := ins_arr (t := TT) (w := w) (w' := w2) (S := fun _ => False) (F := F) (G := G) Al Yl hi Ar Yr Zr k7 hFs hG0 hFG (fun b hb _ => r6.block b (old b hb)) (fun j hj h => absurd (hFl _ (hFs j _ hj h)) (Nat.lt_irrefl _)) (fun h => absurd (hGl _ (hG0 _ h)) (Nat.lt_irrefl _)) r1 r2 r3 r4 r5
        exact ⟨_, F', rfl, r6.size, fun q' hq' _ => r6.block q' hq', r6.os, r6.tape, r6.output, r6.fz, f1, fun q' hq' => (f2 q' hq').elim (fun h => .inr (.inr ⟨by omega, by rw [h]; exact lt_of_heap r1⟩)) fun h => h.imp (fun h => h) .inl⟩
end Go.Proofs.Yteocijadidgagaa
