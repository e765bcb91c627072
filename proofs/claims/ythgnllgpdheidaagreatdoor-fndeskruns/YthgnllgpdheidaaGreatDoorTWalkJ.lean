/-
  slices.DeleteFunc at tickets that are not open: its walk.
-/
import Derived.Test.YthgnllgpdheidaaGreatDoorChecked
import Derived.Test.YthgnllgpdheidaaGreatDoorXCopy
import Derived.Test.YthgnllgpdheidaaGreatDoorXOps
import Derived.WalkKit
import Derived.WalkSpells
import Derived.Lib.OwnBridge
import Derived.Lib.Hide
import Derived.Deep.LoopGhost
import Derived.KernelRfl
import Derived.Test.YthgnllgpdheidaaGreatDoorTWalkI
import Derived.Test.YthgnllgpdheidaaGreatDoorXDel
namespace Go.Proofs.YthgnllgpdheidaaGreatDoor
open Go Go.RowKit Go.Ab

theorem inf49' : Tryz.prog.info? 44 = some Tryz.t44 := by kernel_rfl
set_option maxHeartbeats 4000000 in
set_option maxRecDepth 100000 in
theorem del39 (w : World) (a b c : Value) (st : Int) :
    Calls Tryz.prog 59 #[.agg #[a, b, c, .int .i64 st]] w fun e w' => e = .returned (.bool (decide (st ≠ 0))) ∧ Grow w w' := by
  go_enter Tryz.func59, Tryz.ntmps59
  go_wp2_with fail
  go_ret
  exact ⟨by congr 2; cases h : decide (st = 0) <;> simp_all, Grow.alloc w _ 44⟩

set_option maxHeartbeats 4000000 in
set_option maxRecDepth 100000 in
theorem idx55 (w : World) (g n cap : Nat) (A B C : Nat → Value) (st : Nat → Int) (hn : n ≤ 999999) (hcap : n ≤ cap) (hg : g < w.heap.size)
    (h0 : ∀ j, j < n → w.cell? ⟨g, j * 4, none⟩ = some (A j)) (h1 : ∀ j, j < n → w.cell? ⟨g, j * 4 + 1, none⟩ = some (B j)) (h2 : ∀ j, j < n → w.cell? ⟨g, j * 4 + 2, none⟩ = some (C j)) (h3 : ∀ j, j < n → w.cell? ⟨g, j * 4 + 3, none⟩ = some (.int .i64 (st j))) :
    Calls Tryz.prog 65 #[.slice (some ⟨g, 0, none⟩) n cap, .func (.func 59) #[] #[]] w fun e w' => Grow w w' ∧ ((e = .returned (.int .i64 (-1)) ∧ ∀ j, j < n → st j = 0) ∨ ∃ i : Nat, i < n ∧ e = .returned (.int .i64 i) ∧ st i ≠ 0 ∧ ∀ j, j < i → st j = 0) := by
  have H0 := Lib.hid h0; have H1 := Lib.hid h1; have H2 := Lib.hid h2; have H3 := Lib.hid h3
  clear h0 h1 h2 h3
  go_enter Tryz.func65, Tryz.ntmps65
  go_wp2_with fail
  go_loopg [5, 8] n (fun gg _ s8 wr => ∃ (i : Nat), s8 = .int .i64 i ∧ i ≤ n ∧ n - i ≤ gg ∧ Grow w wr ∧ Hid (∀ j, j < i → st j = 0))
  case atStart => exact ⟨0, rfl, Nat.zero_le n, Nat.le_refl _, Grow.refl w, Lib.hid fun j h => absurd h (Nat.not_lt_zero j)⟩
  case round =>
    obtain ⟨i, rfl, hin, hgg, hG, hz⟩ := hrel
    have HG := Lib.hid hG
    clear hG
    by_cases hlt : i < n
    · have hltz : (i : Int) < (n : Int) := by omega
      have c0 := (World.cell?_of_block (HG.out.block g hg)).trans (H0.out i hlt)
      have c1 := (World.cell?_of_block (HG.out.block g hg)).trans (H1.out i hlt)
      have c2 := (World.cell?_of_block (HG.out.block g hg)).trans (H2.out i hlt)
      have c3 := (World.cell?_of_block (HG.out.block g hg)).trans (H3.out i hlt)
      have HC := Lib.hid (del39 wr (A i) (B i) (C i) (st i))
      generalize hv : st i = v at c3 HC
      have HV := Lib.hid hv
      clear hv
      generalize A i = x0 at *
      generalize B i = x1 at *
      generalize C i = x2 at *
      by_cases hs : v = 0
      · subst hs
        go_wp2_with fail
        refine HC.out.mono ?_
        rintro e w' ⟨rfl, hG2⟩
        rw [show decide ((0 : Int) ≠ 0) = false from rfl]
        have HG2 := Lib.hid hG2
        clear hG2 HC
        go_wp2_with fail
        go_roundg (n - (i + 1))
        case measure => omega
        case rel => exact ⟨i + 1, by go_num, by omega, Nat.le_refl _, HG.out.trans HG2.out, Lib.hid fun j hj => by
          rcases Nat.lt_or_eq_of_le (Nat.le_of_lt_succ hj) with h | h
          · exact hz.out j h
          · subst h; exact HV.out⟩
      · go_wp2_with fail
        refine HC.out.mono ?_
        rintro e w' ⟨rfl, hG2⟩
        rw [show decide (v ≠ 0) = true from decide_eq_true hs]
        have HG2 := Lib.hid hG2
        clear hG2 HC
        go_wp2_with fail
        go_ret
        exact ⟨HG.out.trans HG2.out, .inr ⟨i, hlt, rfl, by rw [HV.out]; exact hs, hz.out⟩⟩
    · obtain rfl : i = n := by omega
      have hltz : ¬ (i : Int) < (i : Int) := by omega
      go_wp2_with fail
      go_ret
      exact ⟨HG.out, .inl ⟨rfl, hz.out⟩⟩

/-- a world in which one row, and new blocks, are all that differ -/
structure Kin (w : World) (g : Nat) (te : TypeId) (R : Array Value) (w' : World) : Prop where
  row : w'.heap[g]? = some (.cells R te (0, 0))
  old : ∀ q, q < w.heap.size → q ≠ g → w'.heap[q]? = w.heap[q]?
  size : w.heap.size ≤ w'.heap.size
  os : w'.os = w.os
  tape : w'.tape = w.tape
  output : w'.output = w.output
  fz : ∀ a : Addr, a.block < w.heap.size → w'.frozen? a = w.frozen? a

theorem Kin.grow {w w' w2 : World} {g : Nat} {te : TypeId} {R : Array Value} (h : Kin w g te R w') (k : Grow w' w2) : Kin w g te R w2 := by
  have hg : g < w'.heap.size := (Array.getElem?_eq_some_iff.1 h.row).1
  exact ⟨(k.block g hg).trans h.row, fun q h1 h2 => (k.block q (Nat.lt_of_lt_of_le h1 h.size)).trans (h.old q h1 h2), Nat.le_trans h.size k.size, k.os.trans h.os, k.tape.trans h.tape, k.output.trans h.output, fun a ha => (k.fz a (Nat.lt_of_lt_of_le ha h.size)).trans (h.fz a ha)⟩

theorem setCell_row {w : World} {b : Nat} {row : Array Value} {te : TypeId} {f : Nat × Nat} (h : w.heap[b]? = some (.cells row te f)) (off : Nat) (v : Value) : (w.setCell ⟨b, off, none⟩ v).heap[b]? = some (.cells (row.setIfInBounds off v) te f) := by
  have hb : b < w.heap.size := (Array.getElem?_eq_some_iff.1 h).1
  have hv : w.heap[b] = .cells row te f := (Array.getElem?_eq_some_iff.1 h).2
  simp [World.setCell, hb, Array.getElem_modify, hv]

theorem Kin.set {w w' : World} {g : Nat} {te : TypeId} {R : Array Value} (h : Kin w g te R w') (off : Nat) (v : Value) : Kin w g te (R.setIfInBounds off v) (w'.setCell ⟨g, off, none⟩ v) := by
  have e := setCell_row h.row off v
  have hs : (w'.setCell ⟨g, off, none⟩ v).heap.size = w'.heap.size := by simp [World.setCell, h.row]
  refine ⟨e, fun q h1 h2 => ?_, by rw [hs]; exact h.size, by simp [World.setCell, h.row, h.os], by simp [World.setCell, h.row, h.tape], by simp [World.setCell, h.row, h.output], fun a ha0 => ?_⟩
  · rw [show (w'.setCell ⟨g, off, none⟩ v).heap[q]? = w'.heap[q]? from Below.heap_setCell w' ⟨g, off, none⟩ v q h2]
    exact h.old q h1 h2
  · rw [← h.fz a ha0]
    by_cases ha : a.block = g
    · obtain ⟨b, o, sp⟩ := a
      simp only at ha
      subst ha
      simp [World.frozen?, e, h.row]
    · exact World.frozen?_of_block (Below.heap_setCell w' ⟨g, off, none⟩ v a.block ha)

theorem Kin.cell {w w' : World} {g : Nat} {te : TypeId} {R : Array Value} (h : Kin w g te R w') {j : Nat} {v : Value} (hj : R[j]? = some v) : w'.cell? ⟨g, j, none⟩ = some v := by
  rw [cell_of_row w' g j R te (0, 0) h.row]
  exact hj
theorem Kin.free {w w' : World} {g : Nat} {te : TypeId} {R : Array Value} (h : Kin w g te R w') (j : Nat) : w'.frozen? ⟨g, j, none⟩ = false := by
  simp [World.frozen?, h.row]

/-- what has been kept of the first j rows -/
structure Kept (st : Nat → Int) (cur R : Array Value) (i j : Nat) : Prop where
  len : ((List.range j).filter fun k => decide (st k = 0)).length = i
  low : ∀ m k, ((List.range j).filter fun k => decide (st k = 0))[m]? = some k → ∀ c, c < 4 → R[m * 4 + c]? = cur[k * 4 + c]?
  high : ∀ m, j * 4 ≤ m → R[m]? = cur[m]?
  size : R.size = cur.size

theorem Kept.skip {st : Nat → Int} {cur R : Array Value} {i j : Nat} (h : Kept st cur R i j) (hs : st j ≠ 0) : Kept st cur R i (j + 1) := by
  have e : ((List.range (j + 1)).filter fun k => decide (st k = 0)) = (List.range j).filter fun k => decide (st k = 0) := by
    rw [List.range_succ, List.filter_append]
    simp [hs]
  exact ⟨by rw [e]; exact h.len, by rw [e]; exact h.low, fun m hm => h.high m (by omega), h.size⟩

theorem Kept.keep {st : Nat → Int} {cur R : Array Value} {i j : Nat} (h : Kept st cur R i j) (hs : st j = 0) (hij : i ≤ j) (hj : j * 4 + 4 ≤ cur.size) {x0 x1 x2 x3 : Value} (e0 : cur[j * 4]? = some x0) (e1 : cur[j * 4 + 1]? = some x1) (e2 : cur[j * 4 + 2]? = some x2) (e3 : cur[j * 4 + 3]? = some x3) :
    Kept st cur ((((R.setIfInBounds (i * 4) x0).setIfInBounds (i * 4 + 1) x1).setIfInBounds (i * 4 + 2) x2).setIfInBounds (i * 4 + 3) x3) (i + 1) (j + 1) := by
  have e : ((List.range (j + 1)).filter fun k => decide (st k = 0)) = ((List.range j).filter fun k => decide (st k = 0)) ++ [j] := by
    rw [List.range_succ, List.filter_append]
    simp [hs]
  have hsz := h.size
  have get : ∀ m, ((((R.setIfInBounds (i * 4) x0).setIfInBounds (i * 4 + 1) x1).setIfInBounds (i * 4 + 2) x2).setIfInBounds (i * 4 + 3) x3)[m]? = if m = i * 4 then some x0 else if m = i * 4 + 1 then some x1 else if m = i * 4 + 2 then some x2 else if m = i * 4 + 3 then some x3 else R[m]? := fun m => by
    simp only [Array.getElem?_setIfInBounds, Array.size_setIfInBounds]
    have b3 : i * 4 + 3 < R.size := by omega
    have b2 : i * 4 + 2 < R.size := by omega
    have b1 : i * 4 + 1 < R.size := by omega
    have b0 : i * 4 < R.size := by omega
    simp only [b0, b1, b2, b3, if_true]
    by_cases h0 : m = i * 4
    · subst h0; simp
    · by_cases h1 : m = i * 4 + 1
      · subst h1; simp
      · by_cases h2 : m = i * 4 + 2
        · subst h2; simp
        · by_cases h3 : m = i * 4 + 3
          · subst h3; simp
          · have g0 : ¬ i * 4 = m := fun h => h0 h.symm
            have g1 : ¬ i * 4 + 1 = m := fun h => h1 h.symm
            have g2 : ¬ i * 4 + 2 = m := fun h => h2 h.symm
            have g3 : ¬ i * 4 + 3 = m := fun h => h3 h.symm
            simp only [h0, h1, h2, h3, g0, g1, g2, g3, if_false]
  refine ⟨by rw [e, List.length_append, h.len]; rfl, fun m k hk c hc => ?_, fun m hm => ?_, by simp [h.size]⟩
  · rw [e] at hk
    rw [get]
    by_cases hm : m < i
    · rw [List.getElem?_append_left (by rw [h.len]; exact hm)] at hk
      have n0 : ¬ m * 4 + c = i * 4 := by omega
      have n1 : ¬ m * 4 + c = i * 4 + 1 := by omega
      have n2 : ¬ m * 4 + c = i * 4 + 2 := by omega
      have n3 : ¬ m * 4 + c = i * 4 + 3 := by omega
      rw [if_neg n0, if_neg n1, if_neg n2, if_neg n3]
      exact h.low m k hk c hc
    · rw [List.getElem?_append_right (by rw [h.len]; omega), h.len] at hk
      have hm2 : m = i := by
        rcases Nat.lt_or_eq_of_le (Nat.le_of_not_lt hm) with h | h
        · rw [show m - i = (m - i - 1) + 1 by omega, List.getElem?_cons_succ] at hk
          simp at hk
        · exact h.symm
      subst hm2
      rw [Nat.sub_self, List.getElem?_cons_zero] at hk
      cases hk
      match c, hc with
      | 0, _ => rw [Nat.add_zero, if_pos rfl, Nat.add_zero]; exact e0.symm
      | 1, _ => rw [if_neg (by omega), if_pos rfl]; exact e1.symm
      | 2, _ => rw [if_neg (by omega), if_neg (by omega), if_pos rfl]; exact e2.symm
      | 3, _ => rw [if_neg (by omega), if_neg (by omega), if_neg (by omega), if_pos rfl]; exact e3.symm
  · rw [get, if_neg (by omega), if_neg (by omega), if_neg (by omega), if_neg (by omega)]
    exact h.high m (by omega)

theorem Kept.start {st : Nat → Int} {cur : Array Value} {k : Nat} (hz : ∀ j, j < k → st j = 0) (hk : st k ≠ 0) : Kept st cur cur k (k + 1) := by
  have e0 : ((List.range k).filter fun k => decide (st k = 0)) = List.range k := List.filter_eq_self.2 fun j hj => by simpa using hz j (List.mem_range.1 hj)
  have h0 : Kept st cur cur k k := ⟨by rw [e0]; simp, fun m j hm c _ => by
    rw [e0] at hm
    have := (List.getElem?_eq_some_iff.1 hm).2
    simp only [List.getElem_range] at this
    rw [this], fun _ _ => rfl, rfl⟩
  exact h0.skip hk

theorem und24' : Tryz.prog.underlying 23 = some (.slice 44) := by kernel_rfl
theorem Kin.start {w : World} {g : Nat} {te : TypeId} {R : Array Value} (h : w.heap[g]? = some (.cells R te (0, 0))) : Kin w g te R w := ⟨h, fun _ _ _ => rfl, Nat.le_refl _, rfl, rfl, rfl, fun _ _ => rfl⟩
theorem cur_of {w : World} {g te : Nat} {cur : Array Value} (h : w.heap[g]? = some (.cells cur te (0, 0))) {j : Nat} {v : Value} (e : w.cell? ⟨g, j, none⟩ = some v) : cur[j]? = some v := by
  rw [cell_of_row w g j cur te (0, 0) h] at e
  exact e

theorem Kin.sets {w : World} {g : Nat} {te : TypeId} : ∀ (L : List Value) (o : Nat) {w' : World} {R : Array Value}, Kin w g te R w' → ∃ R', Kin w g te R' (w'.setCells g o L) ∧ R'.size = R.size ∧ ∀ m, m < o → R'[m]? = R[m]?
  | [], _, _, R, h => ⟨R, h, rfl, fun _ _ => rfl⟩
  | v :: L, o, _, R, h => by
    obtain ⟨R', a, b, c⟩ := Kin.sets L (o + 1) (h.set o v)
    exact ⟨R', a, by rw [b]; simp, fun m hm => (c m (by omega)).trans (by rw [Array.getElem?_setIfInBounds_ne (by omega)])⟩

abbrev z49 : Value := .agg #[.int .i64 0, .int .i64 0, .slice none 0 0, .int .i64 0]
theorem clear24 {w : World} {g i n cap te : Nat} {R : Array Value} (hg : w.heap[g]? = some (.cells R te (0, 0))) (hi : i < n) (hn : n * 4 ≤ R.size) (ty : TypeId) :
    (Builtin.clear_ #[23] ty #[.slice (some ⟨g, i * 4, none⟩) (n - i) (cap - i)]).run Tryz.prog w = .ok (.tuple #[]) (w.setCells g (i * 4) (Builtin.zeroCells z49.cells (n - i)).toList) := by
  have hlen : (Builtin.zeroCells z49.cells (n - i)).toList.length = (n - i) * 4 := by rw [Array.length_toList, size_zeroCells]; rfl
  have hst := run_storeCells_cells (P := Tryz.prog) g (i * 4) (Builtin.zeroCells z49.cells (n - i)).toList 0 w (fun j hj => by
    rw [hlen] at hj
    rw [cell_of_row w g _ R te (0, 0) hg]
    have : i * 4 + j < R.size := by omega
    simp [this]) (fun j hj => by simp [World.frozen?, hg]) (fun v hv => by
    simp only [Builtin.zeroCells, Array.toList_map, List.mem_map] at hv
    obtain ⟨m, _, rfl⟩ := hv
    have hz : z49.cells = #[.int .i64 0, .int .i64 0, .slice none 0 0, .int .i64 0] := rfl
    rw [hz]
    have : m % 4 < 4 := Nat.mod_lt _ (by decide)
    show (#[Value.int .i64 0, .int .i64 0, .slice none 0 0, .int .i64 0][m % 4]!).oneCell' = true
    match m % 4, this with
    | 0, _ => rfl
    | 1, _ => rfl
    | 2, _ => rfl
    | 3, _ => rfl)
  simp only [Nat.add_zero] at hst
  obtain ⟨d, hd⟩ : ∃ d, n - i = d + 1 := ⟨n - i - 1, by omega⟩
  rw [hd] at hst ⊢
  simp [Builtin.clear_, run_underlying und24', hst]

set_option maxHeartbeats 4000000 in
set_option maxRecDepth 100000 in
theorem del37 (w : World) (g n cap te : Nat) (cur : Array Value) (a b : Nat → Int) (so : Nat → Option Addr) (sl sc : Nat → Nat) (st : Nat → Int) (hn : n ≤ 999999) (hcap : n ≤ cap) (hm : cap ≤ 9223372036854775807) (hg : w.heap[g]? = some (.cells cur te (0, 0))) (hs : cur.size = cap * 4) (hgl : g < w.heap.size)
    (h0 : ∀ j, j < n → w.cell? ⟨g, j * 4, none⟩ = some (.int .i64 (a j))) (h1 : ∀ j, j < n → w.cell? ⟨g, j * 4 + 1, none⟩ = some (.int .i64 (b j))) (h2 : ∀ j, j < n → w.cell? ⟨g, j * 4 + 2, none⟩ = some (.slice (so j) (sl j) (sc j))) (h3 : ∀ j, j < n → w.cell? ⟨g, j * 4 + 3, none⟩ = some (.int .i64 (st j))) :
    Calls Tryz.prog 58 #[.slice (some ⟨g, 0, none⟩) n cap, .func (.func 59) #[] #[]] w fun e w' =>
      ∃ (R' : Array Value), e = .returned (.slice (some ⟨g, 0, none⟩) ((List.range n).filter fun k => decide (st k = 0)).length cap) ∧ Kin w g te R' w' ∧ R'.size = cur.size ∧ ∀ m k, ((List.range n).filter fun k => decide (st k = 0))[m]? = some k → ∀ c, c < 4 → R'[m * 4 + c]? = cur[k * 4 + c]? := by
  have HI := Lib.hid (idx55 w g n cap (fun j => .int .i64 (a j)) (fun j => .int .i64 (b j)) (fun j => .slice (so j) (sl j) (sc j)) st hn hcap hgl h0 h1 h2 h3)
  have H0 := Lib.hid h0; have H1 := Lib.hid h1; have H2 := Lib.hid h2; have H3 := Lib.hid h3; have HG := Lib.hid hg
  clear h0 h1 h2 h3 hg
  go_enter Tryz.func58, Tryz.ntmps58
  go_wp2_with fail
  refine HI.out.mono ?_
  rintro e w1 ⟨hG1, hk⟩
  have HG1 := Lib.hid hG1
  clear hG1 HI
  rcases hk with ⟨rfl, hz⟩ | ⟨k, hk, rfl, hst, hz⟩
  · have HZ := Lib.hid hz
    clear hz
    go_wp2_with fail
    go_ret
    have e0 : ((List.range n).filter fun k => decide (st k = 0)) = List.range n := List.filter_eq_self.2 fun j hj => by simpa using HZ.out j (List.mem_range.1 hj)
    refine ⟨cur, by rw [e0, List.length_range]; rfl, (Kin.start HG.out).grow HG1.out, rfl, fun m k hm c _ => ?_⟩
    rw [e0] at hm
    have := (List.getElem?_eq_some_iff.1 hm).2
    simp only [List.getElem_range] at this
    rw [this]
  · have HZ := Lib.hid hz
    clear hz
    have hne : ((k : Int) == -1) = false := beq_eq_false_iff_ne.2 (by omega)
    have s1 : IntKind.i64.wrap ((k : Int) + 1) = (k : Int) + 1 := by rw [IntKind.wrap_i64]; omega
    go_wp2_with fail
    go_loopg [5, 6, 7] n (fun gg s5 s6 _ wr => ∃ (i j : Nat), s5 = .int .i64 i ∧ s6 = .int .i64 j ∧ i < j ∧ j ≤ n ∧ n - j ≤ gg ∧ ∃ R : Array Value, Hid (Kin w g te R wr) ∧ Hid (Kept st cur R i j))
    case atStart => exact ⟨k, k + 1, rfl, by go_num, by omega, by omega, by omega, cur, Lib.hid ((Kin.start HG.out).grow HG1.out), Lib.hid (Kept.start HZ.out hst)⟩
    case round =>
      obtain ⟨i, j, rfl, rfl, hij, hjn, hgg, R, HR, HK⟩ := hrel
      clear s1 hne
      by_cases hlt : j < n
      · have hltz : (j : Int) < (n : Int) := by omega
        have hjs : j * 4 + 4 ≤ cur.size := by omega
        have q0 := cur_of HG.out (H0.out j hlt)
        have q1 := cur_of HG.out (H1.out j hlt)
        have q2 := cur_of HG.out (H2.out j hlt)
        have q3 := cur_of HG.out (H3.out j hlt)
        have c0 : wr.cell? ⟨g, j * 4, none⟩ = some (.int .i64 (a j)) := HR.out.cell ((HK.out.high _ (by omega)).trans q0)
        have c1 : wr.cell? ⟨g, j * 4 + 1, none⟩ = some (.int .i64 (b j)) := HR.out.cell ((HK.out.high _ (by omega)).trans q1)
        have c2 : wr.cell? ⟨g, j * 4 + 2, none⟩ = some (.slice (so j) (sl j) (sc j)) := HR.out.cell ((HK.out.high _ (by omega)).trans q2)
        have c3 : wr.cell? ⟨g, j * 4 + 3, none⟩ = some (.int .i64 (st j)) := HR.out.cell ((HK.out.high _ (by omega)).trans q3)
        generalize a j = xa at *
        generalize b j = xb at *
        generalize so j = xo at *
        generalize sl j = xl at *
        generalize sc j = xc at *
        have Q0 := Lib.hid q0; have Q1 := Lib.hid q1; have Q2 := Lib.hid q2; have Q3 := Lib.hid q3
        clear q0 q1 q2 q3
        have HD := Lib.hid fun W => del39 W (.int .i64 xa) (.int .i64 xb) (.slice xo xl xc) (st j)
        generalize hv : st j = v at c3 HD Q3
        have HV := Lib.hid hv
        clear hv
        go_wp2_with fail
        refine (HD.out _).mono ?_
        rintro e w2 ⟨rfl, hG2⟩
        have K2 := Lib.hid ((HR.out.grow (Grow.alloc wr _ 44)).grow hG2)
        have hB : w2.heap[wr.heap.size]? = some (.cells #[.int .i64 xa, .int .i64 xb, .slice xo xl xc, .int .i64 v] 44 (0, 0)) := (hG2.block _ (by simp)).trans (heap_alloc_new wr _)
        have d0 : w2.cell? ⟨wr.heap.size, 0, none⟩ = some (.int .i64 xa) := (cell_of_row w2 _ 0 _ 44 (0, 0) hB).trans rfl
        have d1 : w2.cell? ⟨wr.heap.size, 1, none⟩ = some (.int .i64 xb) := (cell_of_row w2 _ 1 _ 44 (0, 0) hB).trans rfl
        have d2 : w2.cell? ⟨wr.heap.size, 2, none⟩ = some (.slice xo xl xc) := (cell_of_row w2 _ 2 _ 44 (0, 0) hB).trans rfl
        have d3 : w2.cell? ⟨wr.heap.size, 3, none⟩ = some (.int .i64 v) := (cell_of_row w2 _ 3 _ 44 (0, 0) hB).trans rfl
        clear hG2 hB c0 c1 c2 c3 HD
        by_cases hs0 : v = 0
        · subst hs0
          rw [show decide ((0 : Int) ≠ 0) = false from rfl]
          have hRs := HK.out.size
          have e0 : w2.cell? ⟨g, i * 4, none⟩ = some (R[i * 4]'(by omega)) := K2.out.cell (by simp)
          have e1 : w2.cell? ⟨g, i * 4 + 1, none⟩ = some (R[i * 4 + 1]'(by omega)) := K2.out.cell (by simp)
          have e2 : w2.cell? ⟨g, i * 4 + 2, none⟩ = some (R[i * 4 + 2]'(by omega)) := K2.out.cell (by simp)
          have e3 : w2.cell? ⟨g, i * 4 + 3, none⟩ = some (R[i * 4 + 3]'(by omega)) := K2.out.cell (by simp)
          generalize R[i * 4]'(by omega) = r0 at e0
          generalize R[i * 4 + 1]'(by omega) = r1 at e1
          generalize R[i * 4 + 2]'(by omega) = r2 at e2
          generalize R[i * 4 + 3]'(by omega) = r3 at e3
          have f0 := K2.out.free (i * 4); have f1 := K2.out.free (i * 4 + 1); have f2 := K2.out.free (i * 4 + 2); have f3 := K2.out.free (i * 4 + 3)
          clear hRs
          go_wp2_with fail
          go_roundg (n - (j + 1))
          case measure => omega
          case rel => exact ⟨i + 1, j + 1, by go_num, by go_num, by omega, by omega, Nat.le_refl _, _, Lib.hid ((((K2.out.set (i * 4) (.int .i64 xa)).set (i * 4 + 1) (.int .i64 xb)).set (i * 4 + 2) (.slice xo xl xc)).set (i * 4 + 3) (.int .i64 0)), Lib.hid (HK.out.keep HV.out (by omega) hjs Q0.out Q1.out Q2.out Q3.out)⟩
        · rw [show decide (v ≠ 0) = true from decide_eq_true hs0]
          go_wp2_with fail
          go_roundg (n - (j + 1))
          case measure => omega
          case rel => exact ⟨i, j + 1, rfl, by go_num, by omega, by omega, Nat.le_refl _, R, K2, Lib.hid (HK.out.skip (by rw [HV.out]; exact hs0))⟩
      · obtain rfl : j = n := by omega
        have hltz : ¬ (j : Int) < (j : Int) := by omega
        have hij2 : i ≤ j := by omega
        have hcl := clear24 (cap := cap) HR.out.row hij (by have := HK.out.size; omega)
        obtain ⟨R2, k1, k2, k3⟩ := HR.out.sets (Builtin.zeroCells z49.cells (j - i)).toList (i * 4)
        generalize wr.setCells g (i * 4) (Builtin.zeroCells z49.cells (j - i)).toList = wz at *
        have Z1 := Lib.hid k1; have Z2 := Lib.hid k2; have Z3 := Lib.hid k3
        clear k1 k2 k3
        go_wp2_with (first | (simp only [hcl, Result.andThen_ok]) | fail)
        go_ret
        refine ⟨by rw [HK.out.len]; rfl, R2, Z1.out, Z2.out.trans (HK.out.size.trans hs), fun m k hm c hc => ?_⟩
        have hmi : m < i := by rw [← HK.out.len]; exact (List.getElem?_eq_some_iff.1 hm).1
        rw [Z3.out _ (by omega)]
        exact HK.out.low m k hm c hc
end Go.Proofs.YthgnllgpdheidaaGreatDoor

/-!
  slices.DeleteFunc at tickets that are not open: what it leaves.
-/
namespace Go.Proofs.YthgnllgpdheidaaGreatDoor
open Go Go.RowKit Go.Ab

set_option maxHeartbeats 4000000 in
set_option maxRecDepth 100000 in
theorem idx55nil (w : World) (o : Option Addr) : Calls Tryz.prog 65 #[.slice o 0 0, .func (.func 59) #[] #[]] w fun e w' => e = .returned (.int .i64 (-1)) ∧ w' = w := by
  go_enter Tryz.func65, Tryz.ntmps65
  go_wp2_with fail
  refine wp_loop_rounds 1 ?_
  rw [rounds_succ]
  go_wp2_with fail
  go_ret
  exact ⟨rfl, rfl⟩

set_option maxHeartbeats 4000000 in
set_option maxRecDepth 100000 in
theorem del37nil (w : World) (o : Option Addr) : Calls Tryz.prog 58 #[.slice o 0 0, .func (.func 59) #[] #[]] w fun e w' => e = .returned (.slice o 0 0) ∧ w' = w := by
  have HI := Lib.hid (idx55nil w o)
  go_enter Tryz.func58, Tryz.ntmps58
  go_wp2_with fail
  refine HI.out.mono ?_
  rintro e w1 ⟨rfl, rfl⟩
  go_wp2_with fail
  go_ret
  exact ⟨rfl, rfl⟩

theorem filter_range {α : Type} (l : List α) (p : α → Bool) (q : Nat → Bool) (d : α) (hq : ∀ (k : Nat) (x : α), l[k]? = some x → q k = p x) : ∀ j, j ≤ l.length → (l.take j).filter p = ((List.range j).filter q).map fun k => l.getD k d
  | 0, _ => by simp
  | j + 1, h => by
    have ih := filter_range l p q d hq j (by omega)
    have hx : l[j]? = some (l[j]'(by omega)) := by simp [show j < l.length by omega]
    rw [List.take_add_one, hx, List.range_succ, List.filter_append, List.filter_append, List.map_append, ih]
    congr 1
    have e := hq j _ hx
    have g : l.getD j d = l[j]'(by omega) := by rw [List.getD_eq_getElem?_getD, hx]; rfl
    cases hb : q j with
    | true =>
      rw [hb] at e
      simp only [Option.toList_some, List.filter_cons, ← e, if_true, List.filter_nil, hb, List.map_cons, List.map_nil, g]
    | false =>
      rw [hb] at e
      simp [← e, hb]

theorem row_ticket {w : World} {cs : List Value} {x : TT.den} {F : Blk} (h : Own w TT cs x F) : ∃ p : Option Addr × Nat × Nat, cs = [.int .i64 x.1, .int .i64 x.2.1, .slice p.1 p.2.1 p.2.2, .int .i64 x.2.2.2.1] := by
  obtain ⟨c1, d1, G1, H1, rfl, h1, h2, _⟩ := h
  obtain ⟨c2, d2, G2, H2, rfl, h3, h4, _⟩ := h2
  obtain ⟨c3, d3, G3, H3, rfl, h5, h6, _⟩ := h4
  obtain ⟨c4, d4, G4, H4, rfl, h7, h8, _⟩ := h6
  obtain ⟨⟨rfl, _⟩, _⟩ := h1
  obtain ⟨⟨rfl, _⟩, _⟩ := h3
  obtain ⟨v, rfl, hv⟩ := h5
  obtain ⟨⟨rfl, _⟩, _⟩ := h7
  obtain ⟨rfl, _⟩ := h8
  rcases hv with ⟨⟨o, rfl⟩, _⟩ | ⟨g, cap, cur, e, Fs, rfl, _⟩
  · exact ⟨(o, 0, 0), rfl⟩
  · exact ⟨(some ⟨g, 0, none⟩, _, cap), rfl⟩

abbrev DT : DelFn := ⟨TT, 59, fun x => decide (x.2.2.2.1 = (0 : Int))⟩

theorem delOk : DelOk Tryz.prog 58 DT := by
  intro w v xs F hv hn
  have hFl : ∀ q, F q → q < w.heap.size := hv.lt
  rcases hv with ⟨⟨o, rfl⟩, rfl, hF⟩ | ⟨g, cap, cur, te, Fs, rfl, hg, hs, hc, hm, he, k7, k8, hFF⟩
  · refine (del37nil w o).mono fun e w2 hk => ?_
    obtain ⟨rfl, rfl⟩ := hk
    exact ⟨_, fun _ => False, rfl, Nat.le_refl _, fun _ _ _ => rfl, rfl, rfl, rfl, fun _ _ => rfl, .inl ⟨⟨o, rfl⟩, rfl, fun _ h => h⟩, fun _ h => h.elim⟩
  · have hms : maxLen = 9223372036854775807 := rfl
    have hs4 : cur.size = cap * 4 := hs
    have hgl := lt_of_heap hg
    have he' : ∀ (k : Nat) (u : TT.den), xs[k]? = some u → Own w TT ((cur.toList.drop (k * 4)).take 4) u (Fs k) := fun k u hk => he k u hk
    obtain ⟨sp, hsp⟩ := Classical.axiomOfChoice (r := fun (k : Nat) (p : Option Addr × Nat × Nat) => ∀ x : TT.den, xs[k]? = some x → (cur.toList.drop (k * 4)).take 4 = [.int .i64 x.1, .int .i64 x.2.1, .slice p.1 p.2.1 p.2.2, .int .i64 x.2.2.2.1]) (fun k => by
      cases hx : xs[k]? with
      | none => exact ⟨(none, 0, 0), fun x h => by cases h⟩
      | some x =>
        obtain ⟨p, hp⟩ := row_ticket (he' k x hx)
        exact ⟨p, fun y h => by cases h; exact hp⟩)
    let dflt : TT.den := ((0 : Int), (0 : Int), ([] : List Int), (0 : Int), ())
    have at_ : ∀ (k c : Nat) (u : Value), k < xs.length → c < 4 → ([.int .i64 (xs.getD k dflt).1, .int .i64 (xs.getD k dflt).2.1, .slice (sp k).1 (sp k).2.1 (sp k).2.2, .int .i64 (xs.getD k dflt).2.2.2.1] : List Value)[c]? = some u → w.cell? ⟨g, k * 4 + c, none⟩ = some u := fun k c u hk hc4 hu => by
      have hx : xs[k]? = some (xs.getD k dflt) := by rw [List.getD_eq_getElem?_getD]; simp [hk]
      refine cell_of (n := 4) hg ?_
      rw [hsp k _ hx]
      exact hu
    refine (del37 w g xs.length cap te cur (fun k => (xs.getD k dflt).1) (fun k => (xs.getD k dflt).2.1) (fun k => (sp k).1) (fun k => (sp k).2.1) (fun k => (sp k).2.2) (fun k => (xs.getD k dflt).2.2.2.1) hn hc (by omega) hg hs4 hgl
      (fun k hk => at_ k 0 _ hk (by decide) rfl) (fun k hk => at_ k 1 _ hk (by decide) rfl) (fun k hk => at_ k 2 _ hk (by decide) rfl) (fun k hk => at_ k 3 _ hk (by decide) rfl)).mono fun e w2 hk => ?_
    obtain ⟨R', rfl, kin, hR, hlow⟩ := hk
    generalize hK : ((List.range xs.length).filter fun k => decide ((xs.getD k dflt).2.2.2.1 = (0 : Int))) = K at hlow
    have hfil : xs.filter DT.keep = K.map fun k => xs.getD k dflt := by
      have := filter_range xs DT.keep (fun k => decide ((xs.getD k dflt).2.2.2.1 = (0 : Int))) dflt (fun k x hx => by rw [List.getD_eq_getElem?_getD, hx]; rfl) xs.length (Nat.le_refl _)
      rw [List.take_length, hK] at this
      exact this
    have hKl : K.length ≤ xs.length := by
      rw [← hK]
      have := List.length_filter_le (fun k => decide ((xs.getD k dflt).2.2.2.1 = (0 : Int))) (List.range xs.length)
      rwa [List.length_range] at this
    have hKm : ∀ (m k : Nat), K[m]? = some k → k < xs.length := fun m k hmk => by
      have := List.mem_of_getElem? hmk
      rw [← hK, List.mem_filter, List.mem_range] at this
      exact this.1
    have hnd : K.Nodup := by rw [← hK]; exact List.nodup_range.filter _
    refine ⟨_, fun b => b = g ∨ ∃ m, m < (xs.filter DT.keep).length ∧ ∃ k, K[m]? = some k ∧ Fs k b, rfl, kin.size, fun q h1 h2 => kin.old q h1 fun h => h2 (h ▸ (hFF g).2 (.inl rfl)), kin.os, kin.tape, kin.output, kin.fz, .inr ⟨g, cap, R', te, fun m b => ∃ k, K[m]? = some k ∧ Fs k b, ?_, kin.row, hR.trans hs, ?_, hm, fun m x hx => ?_, fun i j b hi hj h1 h2 => ?_, fun i hi h => ?_, fun b => Iff.rfl⟩, fun q hq => ?_⟩
    · rw [hfil, List.length_map]
    · rw [hfil, List.length_map]; omega
    · rw [hfil, List.getElem?_map] at hx
      cases hk : K[m]? with
      | none => rw [hk] at hx; cases hx
      | some k =>
        rw [hk] at hx
        simp only [Option.map_some, Option.some.injEq] at hx
        subst hx
        have hkl := hKm m k hk
        have hxk : xs[k]? = some (xs.getD k dflt) := by rw [List.getD_eq_getElem?_getD]; simp [hkl]
        have ho := he' k _ hxk
        have hrow : (R'.toList.drop (m * 4)).take 4 = (cur.toList.drop (k * 4)).take 4 := by
          apply List.ext_getElem?
          intro c
          rw [seg_get, seg_get]
          by_cases h4 : c < 4
          · rw [if_pos h4, if_pos h4]
            have := hlow m k hk c h4
            simpa using this
          · rw [if_neg h4, if_neg h4]
        have hsz : DT.t.size = 4 := rfl
        show Own w2 TT ((R'.toList.drop (m * TT.size)).take TT.size) _ _
        rw [show TT.size = 4 from rfl, hrow]
        have hb : ∀ b, Fs k b → w2.heap[b]? = w.heap[b]? := fun b hb => kin.old b (hFl b ((hFF b).2 (.inr ⟨k, hkl, hb⟩))) fun e => k8 k hkl (e ▸ hb)
        have := Own.mono hb ho
        have hfe : (fun b => ∃ k', K[m]? = some k' ∧ Fs k' b) = Fs k := by
          funext b
          exact propext ⟨fun ⟨k', e, h⟩ => by rw [hk] at e; cases e; exact h, fun h => ⟨k, hk, h⟩⟩
        simp only []
        rw [hfe]
        exact this
    · obtain ⟨k1, e1, f1⟩ := h1
      obtain ⟨k2, e2, f2⟩ := h2
      have := k7 k1 k2 b (hKm i k1 e1) (hKm j k2 e2) f1 f2
      subst this
      have hi' : i < K.length := (List.getElem?_eq_some_iff.1 e1).1
      exact (List.getElem?_inj hi' hnd).1 (e1.trans e2.symm)
    · obtain ⟨k, e1, f1⟩ := h
      exact k8 k (hKm i k e1) f1
    · left
      rcases hq with rfl | ⟨m, _, k, e1, f1⟩
      · exact (hFF q).2 (.inl rfl)
      · exact (hFF q).2 (.inr ⟨k, hKm m k e1, f1⟩)
end Go.Proofs.YthgnllgpdheidaaGreatDoor
