/-
  slices.Insert at parcels, one at a time: what it leaves.
-/
import Derived.Test.YtlalabdgkkfjpaaWalkA
import Derived.Test.YtlalabdgkkfjpaaWalkC
import Derived.Test.YtlalabdgkkfjpaaXIns2
import Derived.Laws.Cells
namespace Go.Proofs.Ytlalabdgkkfjpaa
open Go Go.RowKit Go.Ab

abbrev TP : Ty := .pair (.int .i64) (.pair (.int .i64) (.pair (.int .i64) (.pair (.int .i64) (.pair (.int .i64) (.pair (.int .i64) .unit)))))
theorem ty37 : tyOk Try.prog 37 (.slice TP) = true := by kernel_rfl

theorem insOk : InsOk Try.prog 142 TP := by
  refine ⟨rfl, ?_⟩
  intro w v x xs y F G i hv hx hFG hi hn
  obtain ⟨te, inf, z, hu, hinf, hsz, hpos, hz, hzz, hby⟩ := slice_ty ty37
  obtain rfl : te = 88 := by rw [und37] at hu; cases hu; rfl
  obtain rfl : inf = Try.t88 := by rw [inf88] at hinf; cases hinf; rfl
  have sz : TP.size = 6 := rfl
  have hzs : z.cells.size = TP.size := by
    obtain ⟨p', hp', _, hrep, _⟩ := isZ_spec (S := fun _ => False) (w := w) (h := fun _ => none) (m := fun _ => none) TP _ _ hzz
    rw [List.append_nil] at hp'
    rw [← hp'] at hrep
    simpa using hrep.len
  -- what is inserted
  have hxr := hx
  rcases hx with ⟨_, h0, _⟩ | ⟨q, c, xc, tq, Gs, ex, hxq, hxs, hx1, hx2, hxe, _, _, hxG⟩
  · cases h0
  simp only [List.length_singleton] at ex hx1
  have hGq : G q := (hxG q).2 (.inl rfl)
  have hrx : Rep G w (.slice TP) [x] [y] := ArrRel.rep hxr (fun _ h => h.elim) (fun _ h => h)
  have hrows := hrx.rows
  have hEl : ∀ (k : Nat) u ds, [y][k]? = some u → Rep G w TP ds u → El (fun _ => False) w true TP ds u (fun _ => False) := fun k u ds _ r => Rep.own_plain rfl r
  have app : ∀ (hlast : xs.drop i = []), ∃ v' w' F', (Builtin.append_ #[37, 37] 37 #[v, x]).run Try.prog w = .ok v' w' ∧ w.heap.size ≤ w'.heap.size ∧ (∀ q, q < w.heap.size → ¬ F q → w'.heap[q]? = w.heap[q]?) ∧ w'.os = w.os ∧ w'.tape = w.tape ∧ w'.output = w.output ∧ (∀ a, w'.frozen? a = w.frozen? a) ∧
      ArrRel (fun _ => False) w' true TP v' (xs.take i ++ y :: xs.drop i) F' ∧ ∀ q, F' q → F q ∨ (w.heap.size ≤ q ∧ q < w'.heap.size) := fun hlast => by
    have hlim : lim = 4294967296 := rfl
    obtain ⟨v', w', F', k1, k2, k3, k4, k5, k6, k7, k8, k9⟩ := append_arr (P := Try.prog) (ty := 37) (S := fun _ => False) und37 inf88 hsz hz hzs hby (D := true) hv hrows hEl (by simp only [List.length_singleton]; omega) (fun q h => h.elim)
    refine ⟨v', w', F', k1, k2, k3, k4, k5, k6, k7, ?_, k9⟩
    have et : xs.take i = xs := by
      have := List.take_append_drop i xs
      rw [hlast, List.append_nil] at this
      exact this
    rw [hlast, et]
    exact k8
  have Yr : RowsOf TP w (xc.toList.take 6) [y] := by
    have := rows_head (t := TP) rfl (w := w) (cur := xc.toList) (xs := [y]) (Fs := Gs) (fun k u hk => hxe k u hk) 1 (by simp)
    simpa [sz] using this
  have hxl : xc.toList.length = c * 6 := by rw [Array.length_toList, hxs]; rfl
  have Yl : (xc.toList.take 6).length = 6 := by rw [List.length_take, hxl]; omega
  have oY := rows_one (t := TP) (by decide) (w := w) (L := xc.toList.take 6) (zs := [y]) (by rw [Yl]; rfl) Yr
  rcases hv with ⟨⟨o, rfl⟩, rfl, hF⟩ | ⟨g, cap, cur, te, Fs, rfl, hg, hs, hc, hm, he, k7, k8, hFF⟩
  · simp only [List.length_nil, Nat.le_zero] at hi
    subst hi
    obtain ⟨v', w', F', k1, k2⟩ := app rfl
    rw [ex] at k1 ⊢
    refine (insA0 w w' o q c v' k1).mono fun e w2 hk => ?_
    obtain ⟨rfl, rfl⟩ := hk
    exact ⟨v', F', rfl, k2⟩
  · have hgF : F g := (hFF g).2 (.inl rfl)
    have hqg : q ≠ g := fun h => hFG g hgF (h ▸ hGq)
    have hms : maxLen = 9223372036854775807 := rfl
    by_cases hin : i = xs.length
    · subst hin
      obtain ⟨v', w', F', k1, k2⟩ := app (by simp)
      rw [ex] at k1 ⊢
      refine (insA w w' g xs.length cap q c v' hc (by omega) (by omega) k1).mono fun e w2 hk => ?_
      obtain ⟨rfl, rfl⟩ := hk
      exact ⟨v', F', rfl, k2⟩
    · have hlt : i < xs.length := by omega
      have hcl : cur.toList.length = cap * 6 := by rw [Array.length_toList, hs]; rfl
      have he' : ∀ k u, xs[k]? = some u → Own w TP ((cur.toList.drop (k * TP.size)).take TP.size) u (Fs k) := fun k u hk => he k u hk
      have Ar := rows_head (t := TP) rfl he' i hi
      have Zr := rows_tail (t := TP) rfl he' i hi
      rw [sz] at Ar Zr
      have hmul : xs.length * 6 ≤ cap * 6 := Nat.mul_le_mul_right _ hc
      have hmul2 : (xs.length - i) * 6 = xs.length * 6 - i * 6 := Nat.sub_mul _ _ _
      have Al : (cur.toList.take (i * 6)).length = i * 6 := by rw [List.length_take, hcl]; omega
      have Zl : ((cur.toList.drop (i * 6)).take ((xs.length - i) * 6)).length = (xs.length - i) * 6 := by rw [List.length_take, List.length_drop, hcl]; omega
      have oZ := rows_one (t := TP) (by decide) (w := w) (L := (cur.toList.drop (i * 6)).take ((xs.length - i) * 6)) (zs := xs.drop i) (by rw [Zl, List.length_drop]; rfl) Zr
      have hrow : ∀ w', RowsOf TP w' (cur.toList.take (i * 6) ++ xc.toList.take 6 ++ (cur.toList.drop (i * 6)).take ((xs.length - i) * 6)) (xs.take i ++ y :: xs.drop i) := fun w' => by
        have h1 := RowsOf.append (t := TP) (w := w) (A := xc.toList.take 6) (N := (cur.toList.drop (i * 6)).take ((xs.length - i) * 6)) (xs := [y]) (ys := xs.drop i) (by rw [Yl]; rfl) Yr Zr
        have h2 := RowsOf.append (t := TP) (w := w) (A := cur.toList.take (i * 6)) (xs := xs.take i) (by rw [Al, List.length_take, Nat.min_eq_left hi]; rfl) Ar h1
        rw [List.append_assoc]
        exact h2.world
      have hnl : (xs.take i ++ y :: xs.drop i).length = xs.length + 1 := by simp only [List.length_append, List.length_cons, List.length_take, List.length_drop]; omega
      have rY : ∀ j u, (xc.toList.take 6).toArray.toList[j]? = some u → w.cell? ⟨q, j, none⟩ = some u := fun j u hj => by
        have := cell_of (w := w) hxq (o := 0) (n := 6) (j := j) (v := u) (by simpa using hj)
        simpa using this
      have rZ : ∀ j u, ((cur.toList.drop (i * 6)).take ((xs.length - i) * 6)).toArray.toList[j]? = some u → w.cell? ⟨g, i * 6 + j, none⟩ = some u := fun j u hj => cell_of (w := w) hg (by simpa using hj)
      have hgl := lt_of_heap hg
      have hql := lt_of_heap hxq
      rw [ex]
      by_cases hroom : xs.length + 1 ≤ cap
      · refine (insC w g xs.length i q c cap te tq cur xc (cur.toList.take (i * 6)).toArray (xc.toList.take 6).toArray ((cur.toList.drop (i * 6)).take ((xs.length - i) * 6)).toArray (by omega) (by omega) hlt hroom hqg hg hxq (by simpa using Al) (by simpa using Yl) (by simpa using Zl) hs (by simp) rY rZ (by simpa using oY) (by simpa using oZ)).mono fun e w2 hk => ?_
        obtain ⟨row, rfl, r1, r2, r3, r4, r5, r6, r7, r8, r9⟩ := hk
        simp only [] at r3
        refine ⟨_, fun b => b = g, rfl, Nat.le_of_eq r7.symm, fun q' hq' hF' => r8 q' fun h => hF' (h ▸ hgF), r4, r5, r6, r9, ?_, fun q' hq' => .inl (hq' ▸ hgF)⟩
        exact RowsOf.arr (t := TP) r1 r2 hnl hroom hm r3 (hrow w2)
      · have hce : cap = xs.length := by omega
        subst hce
        have hload : (loadCellsFrom ⟨g, 0, none⟩ 0 (i * 6) #[]).run Try.prog w.drew = .ok (cur.toList.take (i * 6)).toArray w.drew := by
          have := run_loadCells_list (P := Try.prog) w.drew ⟨g, 0, none⟩ (cur.toList.take (i * 6)) (fun j u hj => by
            rw [add_none, Nat.zero_add]
            have := cell_of (w := w) hg (o := 0) (n := i * 6) (j := j) (v := u) (by simpa using hj)
            simpa using this)
          rw [Al] at this
          exact this
        refine (insB w g xs.length i q c (by omega) hlt (cur.toList.take (i * 6)).toArray (xc.toList.take 6).toArray ((cur.toList.drop (i * 6)).take ((xs.length - i) * 6)).toArray (by simpa using Al) (by simpa using Yl) (by simpa using Zl) hload hgl hql rY rZ (by simpa using oY) (by simpa using oZ)).mono fun e w2 hk => ?_
        obtain ⟨cap', row, rfl, r1, r2, r3, r4, r5, r6⟩ := hk
        simp only [] at r5
        refine ⟨_, fun b => b = w.heap.size, rfl, r6.size, fun q' hq' _ => r6.block q' hq', r6.os, r6.tape, r6.output, r6.fz, ?_, fun q' hq' => .inr ⟨by omega, by rw [hq']; exact lt_of_heap r1⟩⟩
        exact RowsOf.arr (t := TP) r1 r2 hnl r3 r4 r5 (hrow w2)
end Go.Proofs.Ytlalabdgkkfjpaa
