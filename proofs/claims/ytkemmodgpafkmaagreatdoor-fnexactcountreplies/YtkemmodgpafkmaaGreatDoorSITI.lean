
import Derived.Test.YtkemmodgpafkmaaGreatDoorChecked
import Derived.Test.YtkemmodgpafkmaaGreatDoorSB5
import Derived.Test.YtkemmodgpafkmaaGreatDoorXIns3
import Derived.WalkKit
import Derived.WalkSpells
import Derived.Lib.Hide
import Derived.KernelRfl
import Derived.Test.YtkemmodgpafkmaaGreatDoorXOps
import Derived.Lib.OwnBridge
import Derived.Deep.AppendSrc
import Derived.Deep.RegionLaw
import Derived.Laws.Cells
namespace Go.Proofs.YtkemmodgpafkmaaGreatDoor.IL
open Go Go.RowKit Go.Ab
set_option maxHeartbeats 4000000 in
set_option maxRecDepth 100000 in
theorem insA (w w2 : World) (g n cap q c : Nat) (v2 : Value) (hn : n ≤ cap) (hc : cap ≤ 9223372036854775807) (hn6 : n ≤ 1000000) (hrun : (Builtin.append_ #[44, 44] 44 #[.slice (some ⟨g, 0, none⟩) n cap, .slice (some ⟨q, 0, none⟩) 1 c]).run Tryz.prog w = .ok v2 w2) :
    Calls Tryz.prog 212 #[.slice (some ⟨g, 0, none⟩) n cap, .int .i64 n, .slice (some ⟨q, 0, none⟩) 1 c] w fun e w' => e = .returned v2 ∧ w' = w2 := by
  have HR := Lib.hid hrun
  clear hrun
  go_enter Tryz.func212, Tryz.ntmps212
  go_wp2_with (at_builtin; refine wpList_app_run rfl _ _ 44 rfl rfl rfl HR.out ?_)
  all_goals go_ret
  all_goals exact ⟨rfl, rfl⟩
set_option maxHeartbeats 4000000 in
set_option maxRecDepth 100000 in
theorem insA0 (w w2 : World) (o : Option Addr) (q c : Nat) (v2 : Value) (hrun : (Builtin.append_ #[44, 44] 44 #[.slice o 0 0, .slice (some ⟨q, 0, none⟩) 1 c]).run Tryz.prog w = .ok v2 w2) :
    Calls Tryz.prog 212 #[.slice o 0 0, .int .i64 0, .slice (some ⟨q, 0, none⟩) 1 c] w fun e w' => e = .returned v2 ∧ w' = w2 := by
  have HR := Lib.hid hrun
  clear hrun
  go_enter Tryz.func212, Tryz.ntmps212
  go_wp2_with (at_builtin; refine wpList_app_run rfl _ _ 44 rfl rfl rfl HR.out ?_)
  all_goals go_ret
  all_goals exact ⟨rfl, rfl⟩
end Go.Proofs.YtkemmodgpafkmaaGreatDoor.IL
namespace Go.Proofs.YtkemmodgpafkmaaGreatDoor.IL
open Go Go.RowKit Go.Ab
theorem und24 : Tryz.prog.underlying 44 = some (.slice 106) := by kernel_rfl
theorem inf49 : Tryz.prog.info? 106 = some Tryz.t106 := by kernel_rfl
theorem by49 : Tryz.t106.bytes = 24 := by kernel_rfl
theorem sz49 : Tryz.t106.size = 3 := by kernel_rfl
def InsPost (w : World) (n : Nat) (L : List Value) (e : Ending) (w' : World) : Prop :=
  ∃ (cap : Nat) (row : Array Value), e = .returned (.slice (some ⟨w.heap.size, 0, none⟩) (n + 1) cap) ∧ w'.heap[w.heap.size]? = some (.cells row 106 (0, 0)) ∧ row.size = cap * 3 ∧ n + 1 ≤ cap ∧ cap ≤ maxLen ∧ row.toList.take ((n + 1) * 3) = L ∧ Grow w w'
set_option maxHeartbeats 4000000 in
set_option maxRecDepth 100000 in
theorem insB (w : World) (g n i q c : Nat) (hc : n ≤ 1000000) (hi : i < n) (A Y Z : Array Value) (hA : A.size = i * 3) (hY : Y.size = 3) (hZ : Z.size = (n - i) * 3)
    (hload : (loadCellsFrom ⟨g, 0, none⟩ 0 (i * 3) #[]).run Tryz.prog w.drew = .ok A w.drew) (hgl : g < w.heap.size) (hql : q < w.heap.size)
    (rY : ∀ j v, Y.toList[j]? = some v → w.cell? ⟨q, j, none⟩ = some v) (rZ : ∀ j v, Z.toList[j]? = some v → w.cell? ⟨g, i * 3 + j, none⟩ = some v) (oY : ∀ u ∈ Y.toList, u.oneCell' = true) (oZ : ∀ u ∈ Z.toList, u.oneCell' = true) :
    Calls Tryz.prog 212 #[.slice (some ⟨g, 0, none⟩) n n, .int .i64 i, .slice (some ⟨q, 0, none⟩) 1 c] w (InsPost w n (A.toList ++ Y.toList ++ Z.toList)) := by
  have HA := Lib.hid hA; have HY := Lib.hid hY; have HZ := Lib.hid hZ
  have RY := Lib.hid rY; have RZ := Lib.hid rZ; have OY := Lib.hid oY; have OZ := Lib.hid oZ
  clear hA hY hZ rY rZ oY oZ
  go_enter Tryz.func212, Tryz.ntmps212
  go_wp2_with (first | (simp only [hload, Result.andThen_ok]) | fail)
  · exfalso
    rw [by49] at *
    omega
  · exfalso
    rw [by49] at *
    omega
  · exfalso
    rename_i hbad _
    rw [by49] at *
    have := growslice_fits (need := i + (n + 1 - i)) (old := n) (bytes := 24) (by omega) (by omega)
    omega
  · exfalso
    rename_i hcap
    have := grownCap_ge w (i + (n + 1 - i)) n 106
    unfold grownCap at this
    omega
  · rename_i hcap
    have hge := grownCap_ge w (i + (n + 1 - i)) n 106
    have hle := grownCap_le_maxLen w (i + (n + 1 - i)) n 106 (by unfold maxLen; omega)
    unfold grownCap at hge hle
    generalize (Question.appendCap (i + (n + 1 - i)) n 106).cut (w.tape w.drawn (Question.appendCap (i + (n + 1 - i)) n 106)) = C at *
    rw [show i + (n + 1 - i) = n + 1 by omega] at *
    generalize hR : (A ++ (Builtin.zeroCells #[Value.int IntKind.i64 0, Value.int IntKind.i64 0, Value.int IntKind.i64 0] (n + 1 - i) ++ Builtin.zeroCells #[Value.int IntKind.i64 0, Value.int IntKind.i64 0, Value.int IntKind.i64 0] (C - (n + 1)))) = R
    have hRs : R.size = C * 3 := by
      rw [← hR]
      simp only [Array.size_append, size_zeroCells, HA.out]
      simp
      omega
    have hRt : R.toList.take (i * 3) = A.toList := by
      rw [← hR, Array.toList_append, ← HA.out, ← Array.length_toList]
      exact List.take_left
    clear hR
    have hW : (w.alloc (.cells R 106)).drew.heap[w.heap.size]? = some (.cells R 106 (0, 0)) := heap_alloc_new w _
    have hW2 : ∀ q, q < w.heap.size → (w.alloc (.cells R 106)).drew.heap[q]? = w.heap[q]? := fun q hq => (Grow.alloc w R 106).block q hq
    rw [copy_run (inf := Tryz.t106) (n := 1) (news := Y.toList) und24 inf49 hW (by show Nat.min 1 (n + 1 - i) = 1; exact Nat.min_eq_left (by omega)) (by rw [sz49, Array.length_toList, HY.out])
      (fun j v hj => by rw [add_none, Nat.zero_add]; exact (World.cell?_of_block (hW2 q hql)).trans (RY.out j v hj)) OY.out (by rw [Array.length_toList, HY.out, hRs]; omega)]
    simp only [Result.andThen_ok]
    generalize hR2 : (List.take (i * 3) R.toList ++ Y.toList ++ List.drop (i * 3 + Y.toList.length) R.toList).toArray = R2
    have hR2s : R2.size = C * 3 := by
      rw [← hR2]
      simp only [List.size_toArray, List.length_append, List.length_take, List.length_drop, Array.length_toList, hRs, HY.out]
      omega
    have hR2t : R2.toList.take (i * 3 + 3) = A.toList ++ Y.toList := by
      rw [← hR2, hRt]
      have hl : (A.toList ++ Y.toList).length = i * 3 + 3 := by simp [HA.out, HY.out]
      rw [← hl]
      exact List.take_left
    clear hR2
    have hW3 : ((w.alloc (.cells R 106)).drew.setRow w.heap.size R2).heap[w.heap.size]? = some (.cells R2 106 (0, 0)) := setRow_heap _ _ _ _ _ _ hW
    have hW4 : ∀ q, q < w.heap.size → ((w.alloc (.cells R 106)).drew.setRow w.heap.size R2).heap[q]? = w.heap[q]? := fun q hq => (setRow_other _ _ _ _ (by omega)).trans (hW2 q hq)
    have hG : Grow w ((w.alloc (.cells R 106)).drew.setRow w.heap.size R2) := ⟨rfl, rfl, rfl, by rw [size_setRow]; simp, hW4, fun a ha => (frozen_setRow hW a).trans ((Grow.alloc w R 106).fz a ha)⟩
    generalize ((w.alloc (.cells R 106)).drew.setRow w.heap.size R2) = W2 at *
    clear hW hW2 hRt hRs
    have H3 := Lib.hid hW3; have H4 := Lib.hid hW4; have HG := Lib.hid hG; have HR := Lib.hid hR2s; have HT := Lib.hid hR2t
    clear hW3 hW4 hG hR2s hR2t
    go_wp2_with fail
    have s1 : IntKind.i64.wrap ((i : Int) + 1) = (i : Int) + 1 := by rw [IntKind.wrap_i64]; omega
    have s2 : 0 ≤ (i : Int) + 1 := by omega
    have s3 : ((i : Int) + 1).toNat = i + 1 := by omega
    have s4 : i ≤ n := by omega
    have s5 : ¬ (C = i + 1) := by omega
    have s6 : ¬ (n = i) := by omega
    have s7 : (i : Int) + 1 ≤ (n : Int) + 1 := by omega
    have s8 : n ≤ n := Nat.le_refl n
    have hrun := copy_run (P := Tryz.prog) (ty := 3) (dl := n - i) (dc := C - (i + 1)) (sl := n - i) (sc := n - i) (off := (i + 1) * 3) (ad := ⟨g, i * 3, none⟩) (inf := Tryz.t106) (n := n - i) (news := Z.toList) und24 inf49 (w := W2.drew) H3.out (Nat.min_self _) (by rw [sz49, Array.length_toList, HZ.out])
      (fun j v hj => by rw [add_none]; exact (World.cell?_of_block (H4.out g hgl)).trans (RZ.out j v hj)) OZ.out (by rw [Array.length_toList, HZ.out, HR.out]; omega)
    have HRun := Lib.hid hrun
    clear hrun
    go_region_law (refine step_copy_rows (dv := .slice (some ⟨w.heap.size, (i + 1) * 3, none⟩) (n - i) (C - (i + 1))) (sv := .slice (some ⟨g, i * 3, none⟩) (n - i) (n - i)) rfl (.tmp 50) (.tmp 53) 44 rfl (by simp [Act.eval, Act.put, s5]) (by simp [Act.eval, Act.put, s6]) HRun.out ?_)
    go_wp2_with fail
    go_ret
    refine ⟨C, _, rfl, setRow_heap W2.drew _ _ _ _ _ H3.out, ?_, hge, hle, ?_, ?_⟩
    · simp only [List.size_toArray, List.length_append, List.length_take, List.length_drop, Array.length_toList, HR.out, HZ.out]
      omega
    · have ht : List.take ((i + 1) * 3) R2.toList = A.toList ++ Y.toList := by rw [← HT.out]; congr 1; omega
      have hl : (A.toList ++ Y.toList ++ Z.toList).length = (n + 1) * 3 := by simp only [List.length_append, Array.length_toList, HA.out, HY.out, HZ.out]; omega
      rw [ht, ← hl]
      rw [← List.append_assoc (A.toList ++ Y.toList)]
      exact List.take_left
    · have hh : W2.drew.heap[w.heap.size]? = some (.cells R2 106 (0, 0)) := H3.out
      exact ⟨HG.out.os, HG.out.tape, HG.out.output, by rw [size_setRow]; exact HG.out.size, fun q hq => (setRow_other _ _ _ _ (by omega)).trans (HG.out.block q hq), fun a ha => (frozen_setRow hh a).trans (HG.out.fz a ha)⟩
end Go.Proofs.YtkemmodgpafkmaaGreatDoor.IL
namespace Go.Proofs.YtkemmodgpafkmaaGreatDoor.IL
open Go Go.RowKit Go.Ab
def InsPostC (w : World) (g n cap : Nat) (te : TypeId) (L : List Value) (e : Ending) (w' : World) : Prop :=
  ∃ (row : Array Value), e = .returned (.slice (some ⟨g, 0, none⟩) (n + 1) cap) ∧ w'.heap[g]? = some (.cells row te (0, 0)) ∧ row.size = cap * 3 ∧ row.toList.take ((n + 1) * 3) = L ∧
    w'.os = w.os ∧ w'.tape = w.tape ∧ w'.output = w.output ∧ w'.heap.size = w.heap.size ∧ (∀ q, q ≠ g → w'.heap[q]? = w.heap[q]?) ∧ ∀ a, w'.frozen? a = w.frozen? a
set_option maxHeartbeats 4000000 in
set_option maxRecDepth 100000 in
theorem insC (w : World) (g n i q c cap : Nat) (te tq : TypeId) (cur xc A Y Z : Array Value) (hc : cap ≤ 9223372036854775807) (hn6 : n ≤ 1000000) (hi : i < n) (hn : n + 1 ≤ cap) (hq : q ≠ g) (hg : w.heap[g]? = some (.cells cur te (0, 0))) (hx : w.heap[q]? = some (.cells xc tq (0, 0)))
    (hA : A.size = i * 3) (hY : Y.size = 3) (hZ : Z.size = (n - i) * 3) (hcur : cur.size = cap * 3) (tA : cur.toList.take (i * 3) = A.toList)
    (rY : ∀ j v, Y.toList[j]? = some v → w.cell? ⟨q, j, none⟩ = some v) (rZ : ∀ j v, Z.toList[j]? = some v → w.cell? ⟨g, i * 3 + j, none⟩ = some v) (oY : ∀ u ∈ Y.toList, u.oneCell' = true) (oZ : ∀ u ∈ Z.toList, u.oneCell' = true) :
    Calls Tryz.prog 212 #[.slice (some ⟨g, 0, none⟩) n cap, .int .i64 i, .slice (some ⟨q, 0, none⟩) 1 c] w (InsPostC w g n cap te (A.toList ++ Y.toList ++ Z.toList)) := by
  have HA := Lib.hid hA; have HY := Lib.hid hY; have HZ := Lib.hid hZ; have HC := Lib.hid hcur; have TA := Lib.hid tA
  have RY := Lib.hid rY; have RZ := Lib.hid rZ; have OY := Lib.hid oY; have OZ := Lib.hid oZ; have HG := Lib.hid hg; have HX := Lib.hid hx
  clear hA hY hZ rY rZ oY oZ hcur tA hg hx
  have n1 : n ≤ cap := by omega
  have n2 : ¬ (cap < n + 1) := by omega
  have hov : (callFunc 274 #[.slice (some ⟨q, 0, none⟩) 1 c, .slice (some ⟨g, (i + 1) * 3, none⟩) (n - i) (cap - (i + 1))]).run Tryz.prog w = .ok (.value (.bool false)) w := by
    rw [run_callFunc_extern Tryz.func274 (by kernel_rfl) (by kernel_rfl) (by kernel_rfl) (e := Extern.SlicesOverlaps.overlaps #[44, 44] #[4]) (by kernel_rfl), overlaps_run und24 inf49 HX.out HG.out hq]
    rfl
  go_enter Tryz.func212, Tryz.ntmps212
  go_wp2_with (first | (simp only [hov]) | fail)
  have s1 : IntKind.i64.wrap ((i : Int) + 1) = (i : Int) + 1 := by rw [IntKind.wrap_i64]; omega
  have s2 : 0 ≤ (i : Int) + 1 := by omega
  have s3 : ((i : Int) + 1).toNat = i + 1 := by omega
  have s4 : i ≤ n := by omega
  have s5 : ¬ (cap = i + 1) := by omega
  have s6 : ¬ (cap = i) := by omega
  have s7 : (i : Int) + 1 ≤ (n : Int) + 1 := by omega
  have s8 : (i : Int) ≤ (n : Int) + 1 := by omega
  have hrun := copy_run (P := Tryz.prog) (ty := 3) (dl := n - i) (dc := cap - (i + 1)) (sl := n + 1 - i) (sc := cap - i) (off := (i + 1) * 3) (ad := ⟨g, i * 3, none⟩) (inf := Tryz.t106) (n := n - i) (news := Z.toList) und24 inf49 (w := w.drew) HG.out (Nat.min_eq_right (by omega)) (by rw [sz49, Array.length_toList, HZ.out])
    (fun j v hj => by rw [add_none]; exact RZ.out j v hj) OZ.out (by rw [Array.length_toList, HZ.out, HC.out]; omega)
  have HRun := Lib.hid hrun
  clear hrun hov
  go_region_law (refine step_copy_rows (dv := .slice (some ⟨g, (i + 1) * 3, none⟩) (n - i) (cap - (i + 1))) (sv := .slice (some ⟨g, i * 3, none⟩) (n + 1 - i) (cap - i)) rfl (.tmp 73) (.tmp 76) 44 rfl (by simp [Act.eval, Act.put]) (by simp [Act.eval, Act.put]) HRun.out ?_)
  clear HRun
  generalize hR1 : (List.take ((i + 1) * 3) cur.toList ++ (Z.toList ++ List.drop ((i + 1) * 3 + Z.size) cur.toList)).toArray = R1
  have hR1s : R1.size = cap * 3 := by
    rw [← hR1]
    simp only [List.size_toArray, List.length_append, List.length_take, List.length_drop, Array.length_toList, HC.out, HZ.out]
    omega
  have hR1a : R1.toList.take (i * 3) = A.toList := by
    rw [← hR1, ← TA.out]
    show List.take (i * 3) (List.take ((i + 1) * 3) cur.toList ++ (Z.toList ++ List.drop ((i + 1) * 3 + Z.size) cur.toList)) = _
    rw [List.take_append_of_le_length (by simp only [List.length_take, Array.length_toList, HC.out]; omega), List.take_take]
    congr 1
    omega
  have hR1z : (R1.toList.drop (i * 3 + 3)).take ((n - i) * 3) = Z.toList := by
    rw [← hR1]
    have hl : (List.take ((i + 1) * 3) cur.toList).length = i * 3 + 3 := by simp only [List.length_take, Array.length_toList, HC.out]; omega
    have hz : Z.toList.length = (n - i) * 3 := by rw [Array.length_toList, HZ.out]
    show ((List.take ((i + 1) * 3) cur.toList ++ (Z.toList ++ List.drop ((i + 1) * 3 + Z.size) cur.toList)).drop (i * 3 + 3)).take ((n - i) * 3) = _
    rw [← hl, List.drop_left, ← hz]
    exact List.take_left
  clear hR1
  have hW1 : (w.drew.setRow g R1).heap[g]? = some (.cells R1 te (0, 0)) := setRow_heap _ _ _ _ _ _ HG.out
  have hW2 : ∀ q, q ≠ g → (w.drew.setRow g R1).heap[q]? = w.heap[q]? := fun q hq => setRow_other w.drew _ _ _ hq
  have hf : ∀ a, (w.drew.setRow g R1).frozen? a = w.frozen? a := fun a => frozen_setRow (w := w.drew) HG.out a
  have ho : (w.drew.setRow g R1).os = w.os ∧ (w.drew.setRow g R1).tape = w.tape ∧ (w.drew.setRow g R1).output = w.output ∧ (w.drew.setRow g R1).heap.size = w.heap.size := ⟨rfl, rfl, rfl, by rw [size_setRow]; rfl⟩
  generalize (w.drew.setRow g R1) = W1 at *
  have K1 := Lib.hid hW1; have K2 := Lib.hid hW2; have K3 := Lib.hid hf; have K4 := Lib.hid ho; have K5 := Lib.hid hR1s; have K6 := Lib.hid hR1a; have K7 := Lib.hid hR1z
  clear hW1 hW2 hf ho hR1s hR1a hR1z s1 s2 s3
  have t1 : i ≤ n + 1 := by omega
  go_wp2_with fail
  rw [copy_run (inf := Tryz.t106) (n := 1) (news := Y.toList) und24 inf49 K1.out (by show Nat.min 1 (n + 1 - i) = 1; exact Nat.min_eq_left (by omega)) (by rw [sz49, Array.length_toList, HY.out])
    (fun j v hj => by rw [add_none, Nat.zero_add]; exact (World.cell?_of_block (K2.out q hq)).trans (RY.out j v hj)) OY.out (by rw [Array.length_toList, HY.out, K5.out]; omega)]
  simp only [Result.andThen_ok]
  generalize hR2 : (List.take (i * 3) R1.toList ++ Y.toList ++ List.drop (i * 3 + Y.toList.length) R1.toList).toArray = R2
  have HR2 := Lib.hid hR2
  clear hR2
  go_wp2_with fail
  go_ret
  refine ⟨R2, rfl, setRow_heap _ _ _ _ _ _ K1.out, ?_, ?_, K4.out.1, K4.out.2.1, K4.out.2.2.1, by rw [size_setRow]; exact K4.out.2.2.2, fun q hq => (setRow_other _ _ _ _ hq).trans (K2.out q hq), fun a => (frozen_setRow K1.out a).trans (K3.out a)⟩
  · rw [← HR2.out]
    simp only [List.size_toArray, List.length_append, List.length_take, List.length_drop, Array.length_toList, K5.out, HY.out]
    omega
  · rw [← HR2.out, K6.out]
    have hl : (A.toList ++ Y.toList).length = i * 3 + 3 := by simp only [List.length_append, Array.length_toList, HA.out, HY.out]
    show List.take ((n + 1) * 3) (A.toList ++ Y.toList ++ List.drop (i * 3 + Y.toList.length) R1.toList) = _
    have h2 : i * 3 + Y.toList.length = i * 3 + 3 := by rw [Array.length_toList, HY.out]
    rw [h2, ← K7.out, show (n + 1) * 3 = (A.toList ++ Y.toList).length + (n - i) * 3 by rw [hl]; omega, List.take_length_add_append]
end Go.Proofs.YtkemmodgpafkmaaGreatDoor.IL
namespace Go.Proofs.YtkemmodgpafkmaaGreatDoor.IL
open Go Go.RowKit Go.Ab
abbrev TT : Ty := .pair (.int .i64) (.pair (.int .i64) (.pair (.int .i64) .unit))
theorem ty24 : tyOk Tryz.prog 44 (.slice TT) = true := by kernel_rfl
theorem insOk : InsOk Tryz.prog 212 TT := by
  intro w v x xs y F G i hv hx hFG hi hn
  obtain ⟨te, inf, z, hu, hinf, hsz, hpos, hz, hzz, hby⟩ := slice_ty ty24
  obtain rfl : te = 106 := by rw [und24] at hu; cases hu; rfl
  obtain rfl : inf = Tryz.t106 := by rw [inf49] at hinf; cases hinf; rfl
  have sz : TT.size = 3 := rfl
  have hzs : z.cells.size = TT.size := by
    obtain ⟨p', hp', _, hrep, _⟩ := isZ_spec (S := fun _ => False) (w := w) (h := fun _ => none) (m := fun _ => none) TT _ _ hzz
    rw [List.append_nil] at hp'
    rw [← hp'] at hrep
    simpa using hrep.len
  have hGl : ∀ q, G q → q < w.heap.size := hx.lt
  have hFl : ∀ q, F q → q < w.heap.size := hv.lt
  have hxr := hx
  rcases hx with ⟨_, h0, _⟩ | ⟨q, c, xc, tq, Gs, ex, hxq, hxs, hx1, hx2, hxe, hxd, hxn, hxG⟩
  · cases h0
  simp only [List.length_singleton] at ex hx1
  have hGq : G q := (hxG q).2 (.inl rfl)
  obtain ⟨Gt, hxx, hG1, hG2⟩ : ∃ Gs : Nat → Blk, ((x = .slice none 0 0 ∧ [y] = []) ∨ ∃ (ad : Addr) (cap : Nat) (news : List Value), x = .slice (some ad) [y].length cap ∧ news.length = [y].length * TT.size ∧ (∀ j u, news[j]? = some u → w.cell? (ad.add j) = some u) ∧ (∀ u ∈ news, u.oneCell' = true) ∧
      ∀ i y', [y][i]? = some y' → El (fun _ => False) w true TT ((news.drop (i * TT.size)).take TT.size) y' (Gs i)) ∧ (∀ i j q, i < [y].length → j < [y].length → Gs i q → Gs j q → i = j) ∧ ∀ i q, i < [y].length → Gs i q → G q := by
    rcases hxr.rowsX hpos with ⟨e1, e2⟩ | ⟨ad, cap, news, Gs, e1, e2, e3, e4, e5, e6, e7⟩
    · exact ⟨fun _ _ => False, .inl ⟨e1, e2⟩, fun _ _ _ _ _ h => h.elim, fun _ _ _ h => h.elim⟩
    · exact ⟨Gs, .inr ⟨ad, cap, news, e1, e2, e3, e4, e5⟩, e6, e7⟩
  have app : ∀ (hlast : xs.drop i = []), ∃ v' w' F', (Builtin.append_ #[44, 44] 44 #[v, x]).run Tryz.prog w = .ok v' w' ∧ w.heap.size ≤ w'.heap.size ∧ (∀ q, q < w.heap.size → ¬ F q → w'.heap[q]? = w.heap[q]?) ∧ w'.os = w.os ∧ w'.tape = w.tape ∧ w'.output = w.output ∧ (∀ a : Addr, a.block < w.heap.size → w'.frozen? a = w.frozen? a) ∧
      ArrRel (fun _ => False) w' true TT v' (xs.take i ++ y :: xs.drop i) F' ∧ ∀ q, F' q → F q ∨ G q ∨ (w.heap.size ≤ q ∧ q < w'.heap.size) := fun hlast => by
    have hlim : lim = 4294967296 := rfl
    obtain ⟨v', w', F', k1, k2, k3, k4, k5, k6, k7, k8, k9⟩ := append_arrX (P := Tryz.prog) (ty := 44) (X := G) (Gs := Gt) und24 inf49 hsz hz hzs hby (S := fun _ => False) (D := true) hv hxx hG1 hG2 (fun q hq hF => hFG q hF hq) hGl (by simp only [List.length_singleton]; omega) (fun q h => h.elim)
    refine ⟨v', w', F', k1, k2, k3, k4, k5, k6, (fun a _ => k7 a), ?_, k9⟩
    have et : xs.take i = xs := by
      have := List.take_append_drop i xs
      rw [hlast, List.append_nil] at this
      exact this
    rw [hlast, et]
    exact k8
  have hxl : xc.toList.length = c * 3 := by rw [Array.length_toList, hxs]; rfl
  have Yl : (xc.toList.take 3).length = 3 := by rw [List.length_take, hxl]; omega
  have Yr : Own w TT (xc.toList.take 3) y (Gs 0) := by
    have h0 : Own w TT ((xc.toList.drop (0 * TT.size)).take TT.size) y (Gs 0) := hxe 0 y rfl
    simpa [sz] using h0
  have hG0 : ∀ b, Gs 0 b → G b := fun b hb => (hxG b).2 (.inr ⟨0, by simp, hb⟩)
  have oY : ∀ u ∈ xc.toList.take 3, u.oneCell' = true := RowsX.one (t := TT) (by decide) (w := w) (zs := [y]) (Fs := fun _ => Gs 0) (by rw [Yl]; rfl) (fun k u hk => by
    cases k with
    | zero =>
      simp only [List.getElem?_cons_zero, Option.some.injEq] at hk
      subst hk
      rw [Nat.zero_mul, List.drop_zero, List.take_of_length_le (by rw [Yl]; exact Nat.le_refl 3)]
      exact Yr
    | succ k => simp at hk)
  rcases hv with ⟨⟨o, rfl⟩, rfl, hF⟩ | ⟨g, cap, cur, te, Fs, rfl, hg, hs, hc, hm, he, k7, k8, hFF⟩
  · simp only [List.length_nil, Nat.le_zero] at hi
    subst hi
    obtain ⟨v', w', F', k1, k2⟩ := app rfl
    rw [ex] at k1 ⊢
    refine (insA0 w w' o q c v' k1).mono fun e w2 hk => ?_
    obtain ⟨rfl, rfl⟩ := hk
    exact ⟨v', F', rfl, k2⟩
  · have hgF : F g := (hFF g).2 (.inl rfl)
    have hqg : q ≠ g := fun h => hFG g hgF (h ▸ hGq)
    have hms : maxLen = 9223372036854775807 := rfl
    by_cases hin : i = xs.length
    · subst hin
      obtain ⟨v', w', F', k1, k2⟩ := app (by simp)
      rw [ex] at k1 ⊢
      refine (insA w w' g xs.length cap q c v' hc (by omega) (by omega) k1).mono fun e w2 hk => ?_
      obtain ⟨rfl, rfl⟩ := hk
      exact ⟨v', F', rfl, k2⟩
    · have hlt : i < xs.length := by omega
      have hcl : cur.toList.length = cap * 3 := by rw [Array.length_toList, hs]; rfl
      have he' : ∀ k u, xs[k]? = some u → Own w TT ((cur.toList.drop (k * TT.size)).take TT.size) u (Fs k) := fun k u hk => he k u hk
      have Ar := RowsX.head (t := TT) he' i
      have Zr := RowsX.tail (t := TT) he' i
      rw [sz] at Ar Zr
      have hmul : xs.length * 3 ≤ cap * 3 := Nat.mul_le_mul_right _ hc
      have hmul2 : (xs.length - i) * 3 = xs.length * 3 - i * 3 := Nat.sub_mul _ _ _
      have Al : (cur.toList.take (i * 3)).length = i * 3 := by rw [List.length_take, hcl]; omega
      have Zl : ((cur.toList.drop (i * 3)).take ((xs.length - i) * 3)).length = (xs.length - i) * 3 := by rw [List.length_take, List.length_drop, hcl]; omega
      have oZ := RowsX.one (t := TT) (by decide) (w := w) (L := (cur.toList.drop (i * 3)).take ((xs.length - i) * 3)) (zs := xs.drop i) (by rw [Zl, List.length_drop]; rfl) Zr
      have hFs : ∀ j b, j < xs.length → Fs j b → F b := fun j b hj hb => (hFF b).2 (.inr ⟨j, hj, hb⟩)
      have rY : ∀ j u, (xc.toList.take 3).toArray.toList[j]? = some u → w.cell? ⟨q, j, none⟩ = some u := fun j u hj => by
        have := cell_of (w := w) hxq (o := 0) (n := 3) (j := j) (v := u) (by simpa using hj)
        simpa using this
      have rZ : ∀ j u, ((cur.toList.drop (i * 3)).take ((xs.length - i) * 3)).toArray.toList[j]? = some u → w.cell? ⟨g, i * 3 + j, none⟩ = some u := fun j u hj => cell_of (w := w) hg (by simpa using hj)
      have hgl := lt_of_heap hg
      have hql := lt_of_heap hxq
      rw [ex]
      by_cases hroom : xs.length + 1 ≤ cap
      · refine (insC w g xs.length i q c cap te tq cur xc (cur.toList.take (i * 3)).toArray (xc.toList.take 3).toArray ((cur.toList.drop (i * 3)).take ((xs.length - i) * 3)).toArray (by omega) (by omega) hlt hroom hqg hg hxq (by simpa using Al) (by simpa using Yl) (by simpa using Zl) hs (by simp) rY rZ (by simpa using oY) (by simpa using oZ)).mono fun e w2 hk => ?_
        obtain ⟨row, rfl, r1, r2, r3, r4, r5, r6, r7, r8, r9⟩ := hk
        simp only [] at r3
        obtain ⟨F', f1, f2⟩ := ins_arr (t := TT) (w := w) (w' := w2) (S := fun _ => False) (F := F) (G := G) Al Yl hi Ar Yr Zr k7 hFs hG0 hFG (fun b _ hb => r8 b hb) k8 (fun h => hFG g hgF (hG0 g h)) r1 r2 hroom hm r3
        exact ⟨_, F', rfl, Nat.le_of_eq r7.symm, fun q' hq' hF' => r8 q' fun h => hF' (h ▸ hgF), r4, r5, r6, (fun a _ => r9 a), f1, fun q' hq' => (f2 q' hq').elim (fun h => .inl (h ▸ hgF)) fun h => h.imp (fun h => h) .inl⟩
      · have hce : cap = xs.length := by omega
        subst hce
        have hload : (loadCellsFrom ⟨g, 0, none⟩ 0 (i * 3) #[]).run Tryz.prog w.drew = .ok (cur.toList.take (i * 3)).toArray w.drew := by
          have := run_loadCells_list (P := Tryz.prog) w.drew ⟨g, 0, none⟩ (cur.toList.take (i * 3)) (fun j u hj => by
            rw [add_none, Nat.zero_add]
            have := cell_of (w := w) hg (o := 0) (n := i * 3) (j := j) (v := u) (by simpa using hj)
            simpa using this)
          rw [Al] at this
          exact this
        refine (insB w g xs.length i q c (by omega) hlt (cur.toList.take (i * 3)).toArray (xc.toList.take 3).toArray ((cur.toList.drop (i * 3)).take ((xs.length - i) * 3)).toArray (by simpa using Al) (by simpa using Yl) (by simpa using Zl) hload hgl hql rY rZ (by simpa using oY) (by simpa using oZ)).mono fun e w2 hk => ?_
        obtain ⟨cap', row, rfl, r1, r2, r3, r4, r5, r6⟩ := hk
        simp only [] at r5
        have old : ∀ b, F b ∨ G b → b < w.heap.size := fun b hb => hb.elim (hFl b) (hGl b)
        obtain ⟨F', f1, f2⟩ := ins_arr (t := TT) (w := w) (w' := w2) (S := fun _ => False) (F := F) (G := G) Al Yl hi Ar Yr Zr k7 hFs hG0 hFG (fun b hb _ => r6.block b (old b hb)) (fun j hj h => absurd (hFl _ (hFs j _ hj h)) (Nat.lt_irrefl _)) (fun h => absurd (hGl _ (hG0 _ h)) (Nat.lt_irrefl _)) r1 r2 r3 r4 r5
        exact ⟨_, F', rfl, r6.size, fun q' hq' _ => r6.block q' hq', r6.os, r6.tape, r6.output, r6.fz, f1, fun q' hq' => (f2 q' hq').elim (fun h => .inr (.inr ⟨by omega, by rw [h]; exact lt_of_heap r1⟩)) fun h => h.imp (fun h => h) .inl⟩
end Go.Proofs.YtkemmodgpafkmaaGreatDoor.IL
namespace Go.Proofs.YtkemmodgpafkmaaGreatDoor.IP
open Go Go.RowKit Go.Ab
set_option maxHeartbeats 4000000 in
set_option maxRecDepth 100000 in
theorem insA (w w2 : World) (g n cap q c : Nat) (v2 : Value) (hn : n ≤ cap) (hc : cap ≤ 9223372036854775807) (hn6 : n ≤ 1000000) (hrun : (Builtin.append_ #[36, 36] 36 #[.slice (some ⟨g, 0, none⟩) n cap, .slice (some ⟨q, 0, none⟩) 1 c]).run Tryz.prog w = .ok v2 w2) :
    Calls Tryz.prog 197 #[.slice (some ⟨g, 0, none⟩) n cap, .int .i64 n, .slice (some ⟨q, 0, none⟩) 1 c] w fun e w' => e = .returned v2 ∧ w' = w2 := by
  have HR := Lib.hid hrun
  clear hrun
  go_enter Tryz.func197, Tryz.ntmps197
  go_wp2_with (at_builtin; refine wpList_app_run rfl _ _ 36 rfl rfl rfl HR.out ?_)
  all_goals go_ret
  all_goals exact ⟨rfl, rfl⟩
set_option maxHeartbeats 4000000 in
set_option maxRecDepth 100000 in
theorem insA0 (w w2 : World) (o : Option Addr) (q c : Nat) (v2 : Value) (hrun : (Builtin.append_ #[36, 36] 36 #[.slice o 0 0, .slice (some ⟨q, 0, none⟩) 1 c]).run Tryz.prog w = .ok v2 w2) :
    Calls Tryz.prog 197 #[.slice o 0 0, .int .i64 0, .slice (some ⟨q, 0, none⟩) 1 c] w fun e w' => e = .returned v2 ∧ w' = w2 := by
  have HR := Lib.hid hrun
  clear hrun
  go_enter Tryz.func197, Tryz.ntmps197
  go_wp2_with (at_builtin; refine wpList_app_run rfl _ _ 36 rfl rfl rfl HR.out ?_)
  all_goals go_ret
  all_goals exact ⟨rfl, rfl⟩
end Go.Proofs.YtkemmodgpafkmaaGreatDoor.IP
namespace Go.Proofs.YtkemmodgpafkmaaGreatDoor.IP
open Go Go.RowKit Go.Ab
theorem und24 : Tryz.prog.underlying 36 = some (.slice 108) := by kernel_rfl
theorem inf49 : Tryz.prog.info? 108 = some Tryz.t108 := by kernel_rfl
theorem by49 : Tryz.t108.bytes = 40 := by kernel_rfl
theorem sz49 : Tryz.t108.size = 2 := by kernel_rfl
def InsPost (w : World) (n : Nat) (L : List Value) (e : Ending) (w' : World) : Prop :=
  ∃ (cap : Nat) (row : Array Value), e = .returned (.slice (some ⟨w.heap.size, 0, none⟩) (n + 1) cap) ∧ w'.heap[w.heap.size]? = some (.cells row 108 (0, 0)) ∧ row.size = cap * 2 ∧ n + 1 ≤ cap ∧ cap ≤ maxLen ∧ row.toList.take ((n + 1) * 2) = L ∧ Grow w w'
set_option maxHeartbeats 4000000 in
set_option maxRecDepth 100000 in
theorem insB (w : World) (g n i q c : Nat) (hc : n ≤ 1000000) (hi : i < n) (A Y Z : Array Value) (hA : A.size = i * 2) (hY : Y.size = 2) (hZ : Z.size = (n - i) * 2)
    (hload : (loadCellsFrom ⟨g, 0, none⟩ 0 (i * 2) #[]).run Tryz.prog w.drew = .ok A w.drew) (hgl : g < w.heap.size) (hql : q < w.heap.size)
    (rY : ∀ j v, Y.toList[j]? = some v → w.cell? ⟨q, j, none⟩ = some v) (rZ : ∀ j v, Z.toList[j]? = some v → w.cell? ⟨g, i * 2 + j, none⟩ = some v) (oY : ∀ u ∈ Y.toList, u.oneCell' = true) (oZ : ∀ u ∈ Z.toList, u.oneCell' = true) :
    Calls Tryz.prog 197 #[.slice (some ⟨g, 0, none⟩) n n, .int .i64 i, .slice (some ⟨q, 0, none⟩) 1 c] w (InsPost w n (A.toList ++ Y.toList ++ Z.toList)) := by
  have HA := Lib.hid hA; have HY := Lib.hid hY; have HZ := Lib.hid hZ
  have RY := Lib.hid rY; have RZ := Lib.hid rZ; have OY := Lib.hid oY; have OZ := Lib.hid oZ
  clear hA hY hZ rY rZ oY oZ
  go_enter Tryz.func197, Tryz.ntmps197
  go_wp2_with (first | (simp only [hload, Result.andThen_ok]) | fail)
  · exfalso
    rw [by49] at *
    omega
  · exfalso
    rw [by49] at *
    omega
  · exfalso
    rename_i hbad _
    rw [by49] at *
    have := growslice_fits (need := i + (n + 1 - i)) (old := n) (bytes := 40) (by omega) (by omega)
    omega
  · exfalso
    rename_i hcap
    have := grownCap_ge w (i + (n + 1 - i)) n 108
    unfold grownCap at this
    omega
  · rename_i hcap
    have hge := grownCap_ge w (i + (n + 1 - i)) n 108
    have hle := grownCap_le_maxLen w (i + (n + 1 - i)) n 108 (by unfold maxLen; omega)
    unfold grownCap at hge hle
    generalize (Question.appendCap (i + (n + 1 - i)) n 108).cut (w.tape w.drawn (Question.appendCap (i + (n + 1 - i)) n 108)) = C at *
    rw [show i + (n + 1 - i) = n + 1 by omega] at *
    generalize hR : (A ++ (Builtin.zeroCells #[Value.string { data := #[] }, Value.slice none 0 0] (n + 1 - i) ++ Builtin.zeroCells #[Value.string { data := #[] }, Value.slice none 0 0] (C - (n + 1)))) = R
    have hRs : R.size = C * 2 := by
      rw [← hR]
      simp only [Array.size_append, size_zeroCells, HA.out]
      simp
      omega
    have hRt : R.toList.take (i * 2) = A.toList := by
      rw [← hR, Array.toList_append, ← HA.out, ← Array.length_toList]
      exact List.take_left
    clear hR
    have hW : (w.alloc (.cells R 108)).drew.heap[w.heap.size]? = some (.cells R 108 (0, 0)) := heap_alloc_new w _
    have hW2 : ∀ q, q < w.heap.size → (w.alloc (.cells R 108)).drew.heap[q]? = w.heap[q]? := fun q hq => (Grow.alloc w R 108).block q hq
    rw [copy_run (inf := Tryz.t108) (n := 1) (news := Y.toList) und24 inf49 hW (by show Nat.min 1 (n + 1 - i) = 1; exact Nat.min_eq_left (by omega)) (by rw [sz49, Array.length_toList, HY.out])
      (fun j v hj => by rw [add_none, Nat.zero_add]; exact (World.cell?_of_block (hW2 q hql)).trans (RY.out j v hj)) OY.out (by rw [Array.length_toList, HY.out, hRs]; omega)]
    simp only [Result.andThen_ok]
    generalize hR2 : (List.take (i * 2) R.toList ++ Y.toList ++ List.drop (i * 2 + Y.toList.length) R.toList).toArray = R2
    have hR2s : R2.size = C * 2 := by
      rw [← hR2]
      simp only [List.size_toArray, List.length_append, List.length_take, List.length_drop, Array.length_toList, hRs, HY.out]
      omega
    have hR2t : R2.toList.take (i * 2 + 2) = A.toList ++ Y.toList := by
      rw [← hR2, hRt]
      have hl : (A.toList ++ Y.toList).length = i * 2 + 2 := by simp [HA.out, HY.out]
      rw [← hl]
      exact List.take_left
    clear hR2
    have hW3 : ((w.alloc (.cells R 108)).drew.setRow w.heap.size R2).heap[w.heap.size]? = some (.cells R2 108 (0, 0)) := setRow_heap _ _ _ _ _ _ hW
    have hW4 : ∀ q, q < w.heap.size → ((w.alloc (.cells R 108)).drew.setRow w.heap.size R2).heap[q]? = w.heap[q]? := fun q hq => (setRow_other _ _ _ _ (by omega)).trans (hW2 q hq)
    have hG : Grow w ((w.alloc (.cells R 108)).drew.setRow w.heap.size R2) := ⟨rfl, rfl, rfl, by rw [size_setRow]; simp, hW4, fun a ha => (frozen_setRow hW a).trans ((Grow.alloc w R 108).fz a ha)⟩
    generalize ((w.alloc (.cells R 108)).drew.setRow w.heap.size R2) = W2 at *
    clear hW hW2 hRt hRs
    have H3 := Lib.hid hW3; have H4 := Lib.hid hW4; have HG := Lib.hid hG; have HR := Lib.hid hR2s; have HT := Lib.hid hR2t
    clear hW3 hW4 hG hR2s hR2t
    go_wp2_with fail
    have s1 : IntKind.i64.wrap ((i : Int) + 1) = (i : Int) + 1 := by rw [IntKind.wrap_i64]; omega
    have s2 : 0 ≤ (i : Int) + 1 := by omega
    have s3 : ((i : Int) + 1).toNat = i + 1 := by omega
    have s4 : i ≤ n := by omega
    have s5 : ¬ (C = i + 1) := by omega
    have s6 : ¬ (n = i) := by omega
    have s7 : (i : Int) + 1 ≤ (n : Int) + 1 := by omega
    have s8 : n ≤ n := Nat.le_refl n
    have hrun := copy_run (P := Tryz.prog) (ty := 3) (dl := n - i) (dc := C - (i + 1)) (sl := n - i) (sc := n - i) (off := (i + 1) * 2) (ad := ⟨g, i * 2, none⟩) (inf := Tryz.t108) (n := n - i) (news := Z.toList) und24 inf49 (w := W2.drew) H3.out (Nat.min_self _) (by rw [sz49, Array.length_toList, HZ.out])
      (fun j v hj => by rw [add_none]; exact (World.cell?_of_block (H4.out g hgl)).trans (RZ.out j v hj)) OZ.out (by rw [Array.length_toList, HZ.out, HR.out]; omega)
    have HRun := Lib.hid hrun
    clear hrun
    go_region_law (refine step_copy_rows (dv := .slice (some ⟨w.heap.size, (i + 1) * 2, none⟩) (n - i) (C - (i + 1))) (sv := .slice (some ⟨g, i * 2, none⟩) (n - i) (n - i)) rfl (.tmp 50) (.tmp 53) 36 rfl (by simp [Act.eval, Act.put, s5]) (by simp [Act.eval, Act.put, s6]) HRun.out ?_)
    go_wp2_with fail
    go_ret
    refine ⟨C, _, rfl, setRow_heap W2.drew _ _ _ _ _ H3.out, ?_, hge, hle, ?_, ?_⟩
    · simp only [List.size_toArray, List.length_append, List.length_take, List.length_drop, Array.length_toList, HR.out, HZ.out]
      omega
    · have ht : List.take ((i + 1) * 2) R2.toList = A.toList ++ Y.toList := by rw [← HT.out]; congr 1; omega
      have hl : (A.toList ++ Y.toList ++ Z.toList).length = (n + 1) * 2 := by simp only [List.length_append, Array.length_toList, HA.out, HY.out, HZ.out]; omega
      rw [ht, ← hl]
      rw [← List.append_assoc (A.toList ++ Y.toList)]
      exact List.take_left
    · have hh : W2.drew.heap[w.heap.size]? = some (.cells R2 108 (0, 0)) := H3.out
      exact ⟨HG.out.os, HG.out.tape, HG.out.output, by rw [size_setRow]; exact HG.out.size, fun q hq => (setRow_other _ _ _ _ (by omega)).trans (HG.out.block q hq), fun a ha => (frozen_setRow hh a).trans (HG.out.fz a ha)⟩
end Go.Proofs.YtkemmodgpafkmaaGreatDoor.IP
namespace Go.Proofs.YtkemmodgpafkmaaGreatDoor.IP
open Go Go.RowKit Go.Ab
def InsPostC (w : World) (g n cap : Nat) (te : TypeId) (L : List Value) (e : Ending) (w' : World) : Prop :=
  ∃ (row : Array Value), e = .returned (.slice (some ⟨g, 0, none⟩) (n + 1) cap) ∧ w'.heap[g]? = some (.cells row te (0, 0)) ∧ row.size = cap * 2 ∧ row.toList.take ((n + 1) * 2) = L ∧
    w'.os = w.os ∧ w'.tape = w.tape ∧ w'.output = w.output ∧ w'.heap.size = w.heap.size ∧ (∀ q, q ≠ g → w'.heap[q]? = w.heap[q]?) ∧ ∀ a, w'.frozen? a = w.frozen? a
set_option maxHeartbeats 4000000 in
set_option maxRecDepth 100000 in
theorem insC (w : World) (g n i q c cap : Nat) (te tq : TypeId) (cur xc A Y Z : Array Value) (hc : cap ≤ 9223372036854775807) (hn6 : n ≤ 1000000) (hi : i < n) (hn : n + 1 ≤ cap) (hq : q ≠ g) (hg : w.heap[g]? = some (.cells cur te (0, 0))) (hx : w.heap[q]? = some (.cells xc tq (0, 0)))
    (hA : A.size = i * 2) (hY : Y.size = 2) (hZ : Z.size = (n - i) * 2) (hcur : cur.size = cap * 2) (tA : cur.toList.take (i * 2) = A.toList)
    (rY : ∀ j v, Y.toList[j]? = some v → w.cell? ⟨q, j, none⟩ = some v) (rZ : ∀ j v, Z.toList[j]? = some v → w.cell? ⟨g, i * 2 + j, none⟩ = some v) (oY : ∀ u ∈ Y.toList, u.oneCell' = true) (oZ : ∀ u ∈ Z.toList, u.oneCell' = true) :
    Calls Tryz.prog 197 #[.slice (some ⟨g, 0, none⟩) n cap, .int .i64 i, .slice (some ⟨q, 0, none⟩) 1 c] w (InsPostC w g n cap te (A.toList ++ Y.toList ++ Z.toList)) := by
  have HA := Lib.hid hA; have HY := Lib.hid hY; have HZ := Lib.hid hZ; have HC := Lib.hid hcur; have TA := Lib.hid tA
  have RY := Lib.hid rY; have RZ := Lib.hid rZ; have OY := Lib.hid oY; have OZ := Lib.hid oZ; have HG := Lib.hid hg; have HX := Lib.hid hx
  clear hA hY hZ rY rZ oY oZ hcur tA hg hx
  have n1 : n ≤ cap := by omega
  have n2 : ¬ (cap < n + 1) := by omega
  have hov : (callFunc 258 #[.slice (some ⟨q, 0, none⟩) 1 c, .slice (some ⟨g, (i + 1) * 2, none⟩) (n - i) (cap - (i + 1))]).run Tryz.prog w = .ok (.value (.bool false)) w := by
    rw [run_callFunc_extern Tryz.func258 (by kernel_rfl) (by kernel_rfl) (by kernel_rfl) (e := Extern.SlicesOverlaps.overlaps #[36, 36] #[4]) (by kernel_rfl), overlaps_run und24 inf49 HX.out HG.out hq]
    rfl
  go_enter Tryz.func197, Tryz.ntmps197
  go_wp2_with (first | (simp only [hov]) | fail)
  have s1 : IntKind.i64.wrap ((i : Int) + 1) = (i : Int) + 1 := by rw [IntKind.wrap_i64]; omega
  have s2 : 0 ≤ (i : Int) + 1 := by omega
  have s3 : ((i : Int) + 1).toNat = i + 1 := by omega
  have s4 : i ≤ n := by omega
  have s5 : ¬ (cap = i + 1) := by omega
  have s6 : ¬ (cap = i) := by omega
  have s7 : (i : Int) + 1 ≤ (n : Int) + 1 := by omega
  have s8 : (i : Int) ≤ (n : Int) + 1 := by omega
  have hrun := copy_run (P := Tryz.prog) (ty := 3) (dl := n - i) (dc := cap - (i + 1)) (sl := n + 1 - i) (sc := cap - i) (off := (i + 1) * 2) (ad := ⟨g, i * 2, none⟩) (inf := Tryz.t108) (n := n - i) (news := Z.toList) und24 inf49 (w := w.drew) HG.out (Nat.min_eq_right (by omega)) (by rw [sz49, Array.length_toList, HZ.out])
    (fun j v hj => by rw [add_none]; exact RZ.out j v hj) OZ.out (by rw [Array.length_toList, HZ.out, HC.out]; omega)
  have HRun := Lib.hid hrun
  clear hrun hov
  go_region_law (refine step_copy_rows (dv := .slice (some ⟨g, (i + 1) * 2, none⟩) (n - i) (cap - (i + 1))) (sv := .slice (some ⟨g, i * 2, none⟩) (n + 1 - i) (cap - i)) rfl (.tmp 73) (.tmp 76) 36 rfl (by simp [Act.eval, Act.put]) (by simp [Act.eval, Act.put]) HRun.out ?_)
  clear HRun
  generalize hR1 : (List.take ((i + 1) * 2) cur.toList ++ (Z.toList ++ List.drop ((i + 1) * 2 + Z.size) cur.toList)).toArray = R1
  have hR1s : R1.size = cap * 2 := by
    rw [← hR1]
    simp only [List.size_toArray, List.length_append, List.length_take, List.length_drop, Array.length_toList, HC.out, HZ.out]
    omega
  have hR1a : R1.toList.take (i * 2) = A.toList := by
    rw [← hR1, ← TA.out]
    show List.take (i * 2) (List.take ((i + 1) * 2) cur.toList ++ (Z.toList ++ List.drop ((i + 1) * 2 + Z.size) cur.toList)) = _
    rw [List.take_append_of_le_length (by simp only [List.length_take, Array.length_toList, HC.out]; omega), List.take_take]
    congr 1
    omega
  have hR1z : (R1.toList.drop (i * 2 + 2)).take ((n - i) * 2) = Z.toList := by
    rw [← hR1]
    have hl : (List.take ((i + 1) * 2) cur.toList).length = i * 2 + 2 := by simp only [List.length_take, Array.length_toList, HC.out]; omega
    have hz : Z.toList.length = (n - i) * 2 := by rw [Array.length_toList, HZ.out]
    show ((List.take ((i + 1) * 2) cur.toList ++ (Z.toList ++ List.drop ((i + 1) * 2 + Z.size) cur.toList)).drop (i * 2 + 2)).take ((n - i) * 2) = _
    rw [← hl, List.drop_left, ← hz]
    exact List.take_left
  clear hR1
  have hW1 : (w.drew.setRow g R1).heap[g]? = some (.cells R1 te (0, 0)) := setRow_heap _ _ _ _ _ _ HG.out
  have hW2 : ∀ q, q ≠ g → (w.drew.setRow g R1).heap[q]? = w.heap[q]? := fun q hq => setRow_other w.drew _ _ _ hq
  have hf : ∀ a, (w.drew.setRow g R1).frozen? a = w.frozen? a := fun a => frozen_setRow (w := w.drew) HG.out a
  have ho : (w.drew.setRow g R1).os = w.os ∧ (w.drew.setRow g R1).tape = w.tape ∧ (w.drew.setRow g R1).output = w.output ∧ (w.drew.setRow g R1).heap.size = w.heap.size := ⟨rfl, rfl, rfl, by rw [size_setRow]; rfl⟩
  generalize (w.drew.setRow g R1) = W1 at *
  have K1 := Lib.hid hW1; have K2 := Lib.hid hW2; have K3 := Lib.hid hf; have K4 := Lib.hid ho; have K5 := Lib.hid hR1s; have K6 := Lib.hid hR1a; have K7 := Lib.hid hR1z
  clear hW1 hW2 hf ho hR1s hR1a hR1z s1 s2 s3
  have t1 : i ≤ n + 1 := by omega
  go_wp2_with fail
  rw [copy_run (inf := Tryz.t108) (n := 1) (news := Y.toList) und24 inf49 K1.out (by show Nat.min 1 (n + 1 - i) = 1; exact Nat.min_eq_left (by omega)) (by rw [sz49, Array.length_toList, HY.out])
    (fun j v hj => by rw [add_none, Nat.zero_add]; exact (World.cell?_of_block (K2.out q hq)).trans (RY.out j v hj)) OY.out (by rw [Array.length_toList, HY.out, K5.out]; omega)]
  simp only [Result.andThen_ok]
  generalize hR2 : (List.take (i * 2) R1.toList ++ Y.toList ++ List.drop (i * 2 + Y.toList.length) R1.toList).toArray = R2
  have HR2 := Lib.hid hR2
  clear hR2
  go_wp2_with fail
  go_ret
  refine ⟨R2, rfl, setRow_heap _ _ _ _ _ _ K1.out, ?_, ?_, K4.out.1, K4.out.2.1, K4.out.2.2.1, by rw [size_setRow]; exact K4.out.2.2.2, fun q hq => (setRow_other _ _ _ _ hq).trans (K2.out q hq), fun a => (frozen_setRow K1.out a).trans (K3.out a)⟩
  · rw [← HR2.out]
    simp only [List.size_toArray, List.length_append, List.length_take, List.length_drop, Array.length_toList, K5.out, HY.out]
    omega
  · rw [← HR2.out, K6.out]
    have hl : (A.toList ++ Y.toList).length = i * 2 + 2 := by simp only [List.length_append, Array.length_toList, HA.out, HY.out]
    show List.take ((n + 1) * 2) (A.toList ++ Y.toList ++ List.drop (i * 2 + Y.toList.length) R1.toList) = _
    have h2 : i * 2 + Y.toList.length = i * 2 + 2 := by rw [Array.length_toList, HY.out]
    rw [h2, ← K7.out, show (n + 1) * 2 = (A.toList ++ Y.toList).length + (n - i) * 2 by rw [hl]; omega, List.take_length_add_append]
end Go.Proofs.YtkemmodgpafkmaaGreatDoor.IP
namespace Go.Proofs.YtkemmodgpafkmaaGreatDoor.IP
open Go Go.RowKit Go.Ab
abbrev TT : Ty := .pair .str (.pair (.slice (.int .i64)) .unit)
theorem ty24 : tyOk Tryz.prog 36 (.slice TT) = true := by kernel_rfl
theorem insOk : InsOk Tryz.prog 197 TT := by
  intro w v x xs y F G i hv hx hFG hi hn
  obtain ⟨te, inf, z, hu, hinf, hsz, hpos, hz, hzz, hby⟩ := slice_ty ty24
  obtain rfl : te = 108 := by rw [und24] at hu; cases hu; rfl
  obtain rfl : inf = Tryz.t108 := by rw [inf49] at hinf; cases hinf; rfl
  have sz : TT.size = 2 := rfl
  have hzs : z.cells.size = TT.size := by
    obtain ⟨p', hp', _, hrep, _⟩ := isZ_spec (S := fun _ => False) (w := w) (h := fun _ => none) (m := fun _ => none) TT _ _ hzz
    rw [List.append_nil] at hp'
    rw [← hp'] at hrep
    simpa using hrep.len
  have hGl : ∀ q, G q → q < w.heap.size := hx.lt
  have hFl : ∀ q, F q → q < w.heap.size := hv.lt
  have hxr := hx
  rcases hx with ⟨_, h0, _⟩ | ⟨q, c, xc, tq, Gs, ex, hxq, hxs, hx1, hx2, hxe, hxd, hxn, hxG⟩
  · cases h0
  simp only [List.length_singleton] at ex hx1
  have hGq : G q := (hxG q).2 (.inl rfl)
  obtain ⟨Gt, hxx, hG1, hG2⟩ : ∃ Gs : Nat → Blk, ((x = .slice none 0 0 ∧ [y] = []) ∨ ∃ (ad : Addr) (cap : Nat) (news : List Value), x = .slice (some ad) [y].length cap ∧ news.length = [y].length * TT.size ∧ (∀ j u, news[j]? = some u → w.cell? (ad.add j) = some u) ∧ (∀ u ∈ news, u.oneCell' = true) ∧
      ∀ i y', [y][i]? = some y' → El (fun _ => False) w true TT ((news.drop (i * TT.size)).take TT.size) y' (Gs i)) ∧ (∀ i j q, i < [y].length → j < [y].length → Gs i q → Gs j q → i = j) ∧ ∀ i q, i < [y].length → Gs i q → G q := by
    rcases hxr.rowsX hpos with ⟨e1, e2⟩ | ⟨ad, cap, news, Gs, e1, e2, e3, e4, e5, e6, e7⟩
    · exact ⟨fun _ _ => False, .inl ⟨e1, e2⟩, fun _ _ _ _ _ h => h.elim, fun _ _ _ h => h.elim⟩
    · exact ⟨Gs, .inr ⟨ad, cap, news, e1, e2, e3, e4, e5⟩, e6, e7⟩
  have app : ∀ (hlast : xs.drop i = []), ∃ v' w' F', (Builtin.append_ #[36, 36] 36 #[v, x]).run Tryz.prog w = .ok v' w' ∧ w.heap.size ≤ w'.heap.size ∧ (∀ q, q < w.heap.size → ¬ F q → w'.heap[q]? = w.heap[q]?) ∧ w'.os = w.os ∧ w'.tape = w.tape ∧ w'.output = w.output ∧ (∀ a : Addr, a.block < w.heap.size → w'.frozen? a = w.frozen? a) ∧
      ArrRel (fun _ => False) w' true TT v' (xs.take i ++ y :: xs.drop i) F' ∧ ∀ q, F' q → F q ∨ G q ∨ (w.heap.size ≤ q ∧ q < w'.heap.size) := fun hlast => by
    have hlim : lim = 4294967296 := rfl
    obtain ⟨v', w', F', k1, k2, k3, k4, k5, k6, k7, k8, k9⟩ := append_arrX (P := Tryz.prog) (ty := 36) (X := G) (Gs := Gt) und24 inf49 hsz hz hzs hby (S := fun _ => False) (D := true) hv hxx hG1 hG2 (fun q hq hF => hFG q hF hq) hGl (by simp only [List.length_singleton]; omega) (fun q h => h.elim)
    refine ⟨v', w', F', k1, k2, k3, k4, k5, k6, (fun a _ => k7 a), ?_, k9⟩
    have et : xs.take i = xs := by
      have := List.take_append_drop i xs
      rw [hlast, List.append_nil] at this
      exact this
    rw [hlast, et]
    exact k8
  have hxl : xc.toList.length = c * 2 := by rw [Array.length_toList, hxs]; rfl
  have Yl : (xc.toList.take 2).length = 2 := by rw [List.length_take, hxl]; omega
  have Yr : Own w TT (xc.toList.take 2) y (Gs 0) := by
    have h0 : Own w TT ((xc.toList.drop (0 * TT.size)).take TT.size) y (Gs 0) := hxe 0 y rfl
    simpa [sz] using h0
  have hG0 : ∀ b, Gs 0 b → G b := fun b hb => (hxG b).2 (.inr ⟨0, by simp, hb⟩)
  have oY : ∀ u ∈ xc.toList.take 2, u.oneCell' = true := RowsX.one (t := TT) (by decide) (w := w) (zs := [y]) (Fs := fun _ => Gs 0) (by rw [Yl]; rfl) (fun k u hk => by
    cases k with
    | zero =>
      simp only [List.getElem?_cons_zero, Option.some.injEq] at hk
      subst hk
      rw [Nat.zero_mul, List.drop_zero, List.take_of_length_le (by rw [Yl]; exact Nat.le_refl 2)]
      exact Yr
    | succ k => simp at hk)
  rcases hv with ⟨⟨o, rfl⟩, rfl, hF⟩ | ⟨g, cap, cur, te, Fs, rfl, hg, hs, hc, hm, he, k7, k8, hFF⟩
  · simp only [List.length_nil, Nat.le_zero] at hi
    subst hi
    obtain ⟨v', w', F', k1, k2⟩ := app rfl
    rw [ex] at k1 ⊢
    refine (insA0 w w' o q c v' k1).mono fun e w2 hk => ?_
    obtain ⟨rfl, rfl⟩ := hk
    exact ⟨v', F', rfl, k2⟩
  · have hgF : F g := (hFF g).2 (.inl rfl)
    have hqg : q ≠ g := fun h => hFG g hgF (h ▸ hGq)
    have hms : maxLen = 9223372036854775807 := rfl
    by_cases hin : i = xs.length
    · subst hin
      obtain ⟨v', w', F', k1, k2⟩ := app (by simp)
      rw [ex] at k1 ⊢
      refine (insA w w' g xs.length cap q c v' hc (by omega) (by omega) k1).mono fun e w2 hk => ?_
      obtain ⟨rfl, rfl⟩ := hk
      exact ⟨v', F', rfl, k2⟩
    · have hlt : i < xs.length := by omega
      have hcl : cur.toList.length = cap * 2 := by rw [Array.length_toList, hs]; rfl
      have he' : ∀ k u, xs[k]? = some u → Own w TT ((cur.toList.drop (k * TT.size)).take TT.size) u (Fs k) := fun k u hk => he k u hk
      have Ar := RowsX.head (t := TT) he' i
      have Zr := RowsX.tail (t := TT) he' i
      rw [sz] at Ar Zr
      have hmul : xs.length * 2 ≤ cap * 2 := Nat.mul_le_mul_right _ hc
      have hmul2 : (xs.length - i) * 2 = xs.length * 2 - i * 2 := Nat.sub_mul _ _ _
      have Al : (cur.toList.take (i * 2)).length = i * 2 := by rw [List.length_take, hcl]; omega
      have Zl : ((cur.toList.drop (i * 2)).take ((xs.length - i) * 2)).length = (xs.length - i) * 2 := by rw [List.length_take, List.length_drop, hcl]; omega
      have oZ := RowsX.one (t := TT) (by decide) (w := w) (L := (cur.toList.drop (i * 2)).take ((xs.length - i) * 2)) (zs := xs.drop i) (by rw [Zl, List.length_drop]; rfl) Zr
      have hFs : ∀ j b, j < xs.length → Fs j b → F b := fun j b hj hb => (hFF b).2 (.inr ⟨j, hj, hb⟩)
      have rY : ∀ j u, (xc.toList.take 2).toArray.toList[j]? = some u → w.cell? ⟨q, j, none⟩ = some u := fun j u hj => by
        have := cell_of (w := w) hxq (o := 0) (n := 2) (j := j) (v := u) (by simpa using hj)
        simpa using this
      have rZ : ∀ j u, ((cur.toList.drop (i * 2)).take ((xs.length - i) * 2)).toArray.toList[j]? = some u → w.cell? ⟨g, i * 2 + j, none⟩ = some u := fun j u hj => cell_of (w := w) hg (by simpa using hj)
      have hgl := lt_of_heap hg
      have hql := lt_of_heap hxq
      rw [ex]
      by_cases hroom : xs.length + 1 ≤ cap
      · refine (insC w g xs.length i q c cap te tq cur xc (cur.toList.take (i * 2)).toArray (xc.toList.take 2).toArray ((cur.toList.drop (i * 2)).take ((xs.length - i) * 2)).toArray (by omega) (by omega) hlt hroom hqg hg hxq (by simpa using Al) (by simpa using Yl) (by simpa using Zl) hs (by simp) rY rZ (by simpa using oY) (by simpa using oZ)).mono fun e w2 hk => ?_
        obtain ⟨row, rfl, r1, r2, r3, r4, r5, r6, r7, r8, r9⟩ := hk
        simp only [] at r3
        obtain ⟨F', f1, f2⟩ := ins_arr (t := TT) (w := w) (w' := w2) (S := fun _ => False) (F := F) (G := G) Al Yl hi Ar Yr Zr k7 hFs hG0 hFG (fun b _ hb => r8 b hb) k8 (fun h => hFG g hgF (hG0 g h)) r1 r2 hroom hm r3
        exact ⟨_, F', rfl, Nat.le_of_eq r7.symm, fun q' hq' hF' => r8 q' fun h => hF' (h ▸ hgF), r4, r5, r6, (fun a _ => r9 a), f1, fun q' hq' => (f2 q' hq').elim (fun h => .inl (h ▸ hgF)) fun h => h.imp (fun h => h) .inl⟩
      · have hce : cap = xs.length := by omega
        subst hce
        have hload : (loadCellsFrom ⟨g, 0, none⟩ 0 (i * 2) #[]).run Tryz.prog w.drew = .ok (cur.toList.take (i * 2)).toArray w.drew := by
          have := run_loadCells_list (P := Tryz.prog) w.drew ⟨g, 0, none⟩ (cur.toList.take (i * 2)) (fun j u hj => by
            rw [add_none, Nat.zero_add]
            have := cell_of (w := w) hg (o := 0) (n := i * 2) (j := j) (v := u) (by simpa using hj)
            simpa using this)
          rw [Al] at this
          exact this
        refine (insB w g xs.length i q c (by omega) hlt (cur.toList.take (i * 2)).toArray (xc.toList.take 2).toArray ((cur.toList.drop (i * 2)).take ((xs.length - i) * 2)).toArray (by simpa using Al) (by simpa using Yl) (by simpa using Zl) hload hgl hql rY rZ (by simpa using oY) (by simpa using oZ)).mono fun e w2 hk => ?_
        obtain ⟨cap', row, rfl, r1, r2, r3, r4, r5, r6⟩ := hk
        simp only [] at r5
        have old : ∀ b, F b ∨ G b → b < w.heap.size := fun b hb => hb.elim (hFl b) (hGl b)
        obtain ⟨F', f1, f2⟩ := ins_arr (t := TT) (w := w) (w' := w2) (S := fun _ => False) (F := F) (G := G) Al Yl hi Ar Yr Zr k7 hFs hG0 hFG (fun b hb _ => r6.block b (old b hb)) (fun j hj h => absurd (hFl _ (hFs j _ hj h)) (Nat.lt_irrefl _)) (fun h => absurd (hGl _ (hG0 _ h)) (Nat.lt_irrefl _)) r1 r2 r3 r4 r5
        exact ⟨_, F', rfl, r6.size, fun q' hq' _ => r6.block q' hq', r6.os, r6.tape, r6.output, r6.fz, f1, fun q' hq' => (f2 q' hq').elim (fun h => .inr (.inr ⟨by omega, by rw [h]; exact lt_of_heap r1⟩)) fun h => h.imp (fun h => h) .inl⟩
end Go.Proofs.YtkemmodgpafkmaaGreatDoor.IP
namespace Go.Proofs.YtkemmodgpafkmaaGreatDoor.IT
open Go Go.RowKit Go.Ab
set_option maxHeartbeats 4000000 in
set_option maxRecDepth 100000 in
theorem insA (w w2 : World) (g n cap q c : Nat) (v2 : Value) (hn : n ≤ cap) (hc : cap ≤ 9223372036854775807) (hn6 : n ≤ 1000000) (hrun : (Builtin.append_ #[31, 31] 31 #[.slice (some ⟨g, 0, none⟩) n cap, .slice (some ⟨q, 0, none⟩) 1 c]).run Tryz.prog w = .ok v2 w2) :
    Calls Tryz.prog 270 #[.slice (some ⟨g, 0, none⟩) n cap, .int .i64 n, .slice (some ⟨q, 0, none⟩) 1 c] w fun e w' => e = .returned v2 ∧ w' = w2 := by
  have HR := Lib.hid hrun
  clear hrun
  go_enter Tryz.func270, Tryz.ntmps270
  go_wp2_with (at_builtin; refine wpList_app_run rfl _ _ 31 rfl rfl rfl HR.out ?_)
  all_goals go_ret
  all_goals exact ⟨rfl, rfl⟩
set_option maxHeartbeats 4000000 in
set_option maxRecDepth 100000 in
theorem insA0 (w w2 : World) (o : Option Addr) (q c : Nat) (v2 : Value) (hrun : (Builtin.append_ #[31, 31] 31 #[.slice o 0 0, .slice (some ⟨q, 0, none⟩) 1 c]).run Tryz.prog w = .ok v2 w2) :
    Calls Tryz.prog 270 #[.slice o 0 0, .int .i64 0, .slice (some ⟨q, 0, none⟩) 1 c] w fun e w' => e = .returned v2 ∧ w' = w2 := by
  have HR := Lib.hid hrun
  clear hrun
  go_enter Tryz.func270, Tryz.ntmps270
  go_wp2_with (at_builtin; refine wpList_app_run rfl _ _ 31 rfl rfl rfl HR.out ?_)
  all_goals go_ret
  all_goals exact ⟨rfl, rfl⟩
end Go.Proofs.YtkemmodgpafkmaaGreatDoor.IT
namespace Go.Proofs.YtkemmodgpafkmaaGreatDoor.IT
open Go Go.RowKit Go.Ab
theorem und24 : Tryz.prog.underlying 31 = some (.slice 88) := by kernel_rfl
theorem inf49 : Tryz.prog.info? 88 = some Tryz.t88 := by kernel_rfl
theorem by49 : Tryz.t88.bytes = 48 := by kernel_rfl
theorem sz49 : Tryz.t88.size = 4 := by kernel_rfl
def InsPost (w : World) (n : Nat) (L : List Value) (e : Ending) (w' : World) : Prop :=
  ∃ (cap : Nat) (row : Array Value), e = .returned (.slice (some ⟨w.heap.size, 0, none⟩) (n + 1) cap) ∧ w'.heap[w.heap.size]? = some (.cells row 88 (0, 0)) ∧ row.size = cap * 4 ∧ n + 1 ≤ cap ∧ cap ≤ maxLen ∧ row.toList.take ((n + 1) * 4) = L ∧ Grow w w'
set_option maxHeartbeats 4000000 in
set_option maxRecDepth 100000 in
theorem insB (w : World) (g n i q c : Nat) (hc : n ≤ 1000000) (hi : i < n) (A Y Z : Array Value) (hA : A.size = i * 4) (hY : Y.size = 4) (hZ : Z.size = (n - i) * 4)
    (hload : (loadCellsFrom ⟨g, 0, none⟩ 0 (i * 4) #[]).run Tryz.prog w.drew = .ok A w.drew) (hgl : g < w.heap.size) (hql : q < w.heap.size)
    (rY : ∀ j v, Y.toList[j]? = some v → w.cell? ⟨q, j, none⟩ = some v) (rZ : ∀ j v, Z.toList[j]? = some v → w.cell? ⟨g, i * 4 + j, none⟩ = some v) (oY : ∀ u ∈ Y.toList, u.oneCell' = true) (oZ : ∀ u ∈ Z.toList, u.oneCell' = true) :
    Calls Tryz.prog 270 #[.slice (some ⟨g, 0, none⟩) n n, .int .i64 i, .slice (some ⟨q, 0, none⟩) 1 c] w (InsPost w n (A.toList ++ Y.toList ++ Z.toList)) := by
  have HA := Lib.hid hA; have HY := Lib.hid hY; have HZ := Lib.hid hZ
  have RY := Lib.hid rY; have RZ := Lib.hid rZ; have OY := Lib.hid oY; have OZ := Lib.hid oZ
  clear hA hY hZ rY rZ oY oZ
  go_enter Tryz.func270, Tryz.ntmps270
  go_wp2_with (first | (simp only [hload, Result.andThen_ok]) | fail)
  · exfalso
    rw [by49] at *
    omega
  · exfalso
    rw [by49] at *
    omega
  · exfalso
    rename_i hbad _
    rw [by49] at *
    have := growslice_fits (need := i + (n + 1 - i)) (old := n) (bytes := 48) (by omega) (by omega)
    omega
  · exfalso
    rename_i hcap
    have := grownCap_ge w (i + (n + 1 - i)) n 88
    unfold grownCap at this
    omega
  · rename_i hcap
    have hge := grownCap_ge w (i + (n + 1 - i)) n 88
    have hle := grownCap_le_maxLen w (i + (n + 1 - i)) n 88 (by unfold maxLen; omega)
    unfold grownCap at hge hle
    generalize (Question.appendCap (i + (n + 1 - i)) n 88).cut (w.tape w.drawn (Question.appendCap (i + (n + 1 - i)) n 88)) = C at *
    rw [show i + (n + 1 - i) = n + 1 by omega] at *
    generalize hR : (A ++ (Builtin.zeroCells #[Value.int IntKind.i64 0, Value.int IntKind.i64 0, Value.slice none 0 0, Value.int IntKind.i64 0] (n + 1 - i) ++ Builtin.zeroCells #[Value.int IntKind.i64 0, Value.int IntKind.i64 0, Value.slice none 0 0, Value.int IntKind.i64 0] (C - (n + 1)))) = R
    have hRs : R.size = C * 4 := by
      rw [← hR]
      simp only [Array.size_append, size_zeroCells, HA.out]
      simp
      omega
    have hRt : R.toList.take (i * 4) = A.toList := by
      rw [← hR, Array.toList_append, ← HA.out, ← Array.length_toList]
      exact List.take_left
    clear hR
    have hW : (w.alloc (.cells R 88)).drew.heap[w.heap.size]? = some (.cells R 88 (0, 0)) := heap_alloc_new w _
    have hW2 : ∀ q, q < w.heap.size → (w.alloc (.cells R 88)).drew.heap[q]? = w.heap[q]? := fun q hq => (Grow.alloc w R 88).block q hq
    rw [copy_run (inf := Tryz.t88) (n := 1) (news := Y.toList) und24 inf49 hW (by show Nat.min 1 (n + 1 - i) = 1; exact Nat.min_eq_left (by omega)) (by rw [sz49, Array.length_toList, HY.out])
      (fun j v hj => by rw [add_none, Nat.zero_add]; exact (World.cell?_of_block (hW2 q hql)).trans (RY.out j v hj)) OY.out (by rw [Array.length_toList, HY.out, hRs]; omega)]
    simp only [Result.andThen_ok]
    generalize hR2 : (List.take (i * 4) R.toList ++ Y.toList ++ List.drop (i * 4 + Y.toList.length) R.toList).toArray = R2
    have hR2s : R2.size = C * 4 := by
      rw [← hR2]
      simp only [List.size_toArray, List.length_append, List.length_take, List.length_drop, Array.length_toList, hRs, HY.out]
      omega
    have hR2t : R2.toList.take (i * 4 + 4) = A.toList ++ Y.toList := by
      rw [← hR2, hRt]
      have hl : (A.toList ++ Y.toList).length = i * 4 + 4 := by simp [HA.out, HY.out]
      rw [← hl]
      exact List.take_left
    clear hR2
    have hW3 : ((w.alloc (.cells R 88)).drew.setRow w.heap.size R2).heap[w.heap.size]? = some (.cells R2 88 (0, 0)) := setRow_heap _ _ _ _ _ _ hW
    have hW4 : ∀ q, q < w.heap.size → ((w.alloc (.cells R 88)).drew.setRow w.heap.size R2).heap[q]? = w.heap[q]? := fun q hq => (setRow_other _ _ _ _ (by omega)).trans (hW2 q hq)
    have hG : Grow w ((w.alloc (.cells R 88)).drew.setRow w.heap.size R2) := ⟨rfl, rfl, rfl, by rw [size_setRow]; simp, hW4, fun a ha => (frozen_setRow hW a).trans ((Grow.alloc w R 88).fz a ha)⟩
    generalize ((w.alloc (.cells R 88)).drew.setRow w.heap.size R2) = W2 at *
    clear hW hW2 hRt hRs
    have H3 := Lib.hid hW3; have H4 := Lib.hid hW4; have HG := Lib.hid hG; have HR := Lib.hid hR2s; have HT := Lib.hid hR2t
    clear hW3 hW4 hG hR2s hR2t
    go_wp2_with fail
    have s1 : IntKind.i64.wrap ((i : Int) + 1) = (i : Int) + 1 := by rw [IntKind.wrap_i64]; omega
    have s2 : 0 ≤ (i : Int) + 1 := by omega
    have s3 : ((i : Int) + 1).toNat = i + 1 := by omega
    have s4 : i ≤ n := by omega
    have s5 : ¬ (C = i + 1) := by omega
    have s6 : ¬ (n = i) := by omega
    have s7 : (i : Int) + 1 ≤ (n : Int) + 1 := by omega
    have s8 : n ≤ n := Nat.le_refl n
    have hrun := copy_run (P := Tryz.prog) (ty := 3) (dl := n - i) (dc := C - (i + 1)) (sl := n - i) (sc := n - i) (off := (i + 1) * 4) (ad := ⟨g, i * 4, none⟩) (inf := Tryz.t88) (n := n - i) (news := Z.toList) und24 inf49 (w := W2.drew) H3.out (Nat.min_self _) (by rw [sz49, Array.length_toList, HZ.out])
      (fun j v hj => by rw [add_none]; exact (World.cell?_of_block (H4.out g hgl)).trans (RZ.out j v hj)) OZ.out (by rw [Array.length_toList, HZ.out, HR.out]; omega)
    have HRun := Lib.hid hrun
    clear hrun
    go_region_law (refine step_copy_rows (dv := .slice (some ⟨w.heap.size, (i + 1) * 4, none⟩) (n - i) (C - (i + 1))) (sv := .slice (some ⟨g, i * 4, none⟩) (n - i) (n - i)) rfl (.tmp 50) (.tmp 53) 31 rfl (by simp [Act.eval, Act.put, s5]) (by simp [Act.eval, Act.put, s6]) HRun.out ?_)
    go_wp2_with fail
    go_ret
    refine ⟨C, _, rfl, setRow_heap W2.drew _ _ _ _ _ H3.out, ?_, hge, hle, ?_, ?_⟩
    · simp only [List.size_toArray, List.length_append, List.length_take, List.length_drop, Array.length_toList, HR.out, HZ.out]
      omega
    · have ht : List.take ((i + 1) * 4) R2.toList = A.toList ++ Y.toList := by rw [← HT.out]; congr 1; omega
      have hl : (A.toList ++ Y.toList ++ Z.toList).length = (n + 1) * 4 := by simp only [List.length_append, Array.length_toList, HA.out, HY.out, HZ.out]; omega
      rw [ht, ← hl]
      rw [← List.append_assoc (A.toList ++ Y.toList)]
      exact List.take_left
    · have hh : W2.drew.heap[w.heap.size]? = some (.cells R2 88 (0, 0)) := H3.out
      exact ⟨HG.out.os, HG.out.tape, HG.out.output, by rw [size_setRow]; exact HG.out.size, fun q hq => (setRow_other _ _ _ _ (by omega)).trans (HG.out.block q hq), fun a ha => (frozen_setRow hh a).trans (HG.out.fz a ha)⟩
end Go.Proofs.YtkemmodgpafkmaaGreatDoor.IT
namespace Go.Proofs.YtkemmodgpafkmaaGreatDoor.IT
open Go Go.RowKit Go.Ab
def InsPostC (w : World) (g n cap : Nat) (te : TypeId) (L : List Value) (e : Ending) (w' : World) : Prop :=
  ∃ (row : Array Value), e = .returned (.slice (some ⟨g, 0, none⟩) (n + 1) cap) ∧ w'.heap[g]? = some (.cells row te (0, 0)) ∧ row.size = cap * 4 ∧ row.toList.take ((n + 1) * 4) = L ∧
    w'.os = w.os ∧ w'.tape = w.tape ∧ w'.output = w.output ∧ w'.heap.size = w.heap.size ∧ (∀ q, q ≠ g → w'.heap[q]? = w.heap[q]?) ∧ ∀ a, w'.frozen? a = w.frozen? a
set_option maxHeartbeats 4000000 in
set_option maxRecDepth 100000 in
theorem insC (w : World) (g n i q c cap : Nat) (te tq : TypeId) (cur xc A Y Z : Array Value) (hc : cap ≤ 9223372036854775807) (hn6 : n ≤ 1000000) (hi : i < n) (hn : n + 1 ≤ cap) (hq : q ≠ g) (hg : w.heap[g]? = some (.cells cur te (0, 0))) (hx : w.heap[q]? = some (.cells xc tq (0, 0)))
    (hA : A.size = i * 4) (hY : Y.size = 4) (hZ : Z.size = (n - i) * 4) (hcur : cur.size = cap * 4) (tA : cur.toList.take (i * 4) = A.toList)
    (rY : ∀ j v, Y.toList[j]? = some v → w.cell? ⟨q, j, none⟩ = some v) (rZ : ∀ j v, Z.toList[j]? = some v → w.cell? ⟨g, i * 4 + j, none⟩ = some v) (oY : ∀ u ∈ Y.toList, u.oneCell' = true) (oZ : ∀ u ∈ Z.toList, u.oneCell' = true) :
    Calls Tryz.prog 270 #[.slice (some ⟨g, 0, none⟩) n cap, .int .i64 i, .slice (some ⟨q, 0, none⟩) 1 c] w (InsPostC w g n cap te (A.toList ++ Y.toList ++ Z.toList)) := by
  have HA := Lib.hid hA; have HY := Lib.hid hY; have HZ := Lib.hid hZ; have HC := Lib.hid hcur; have TA := Lib.hid tA
  have RY := Lib.hid rY; have RZ := Lib.hid rZ; have OY := Lib.hid oY; have OZ := Lib.hid oZ; have HG := Lib.hid hg; have HX := Lib.hid hx
  clear hA hY hZ rY rZ oY oZ hcur tA hg hx
  have n1 : n ≤ cap := by omega
  have n2 : ¬ (cap < n + 1) := by omega
  have hov : (callFunc 309 #[.slice (some ⟨q, 0, none⟩) 1 c, .slice (some ⟨g, (i + 1) * 4, none⟩) (n - i) (cap - (i + 1))]).run Tryz.prog w = .ok (.value (.bool false)) w := by
    rw [run_callFunc_extern Tryz.func309 (by kernel_rfl) (by kernel_rfl) (by kernel_rfl) (e := Extern.SlicesOverlaps.overlaps #[31, 31] #[4]) (by kernel_rfl), overlaps_run und24 inf49 HX.out HG.out hq]
    rfl
  go_enter Tryz.func270, Tryz.ntmps270
  go_wp2_with (first | (simp only [hov]) | fail)
  have s1 : IntKind.i64.wrap ((i : Int) + 1) = (i : Int) + 1 := by rw [IntKind.wrap_i64]; omega
  have s2 : 0 ≤ (i : Int) + 1 := by omega
  have s3 : ((i : Int) + 1).toNat = i + 1 := by omega
  have s4 : i ≤ n := by omega
  have s5 : ¬ (cap = i + 1) := by omega
  have s6 : ¬ (cap = i) := by omega
  have s7 : (i : Int) + 1 ≤ (n : Int) + 1 := by omega
  have s8 : (i : Int) ≤ (n : Int) + 1 := by omega
  have hrun := copy_run (P := Tryz.prog) (ty := 3) (dl := n - i) (dc := cap - (i + 1)) (sl := n + 1 - i) (sc := cap - i) (off := (i + 1) * 4) (ad := ⟨g, i * 4, none⟩) (inf := Tryz.t88) (n := n - i) (news := Z.toList) und24 inf49 (w := w.drew) HG.out (Nat.min_eq_right (by omega)) (by rw [sz49, Array.length_toList, HZ.out])
    (fun j v hj => by rw [add_none]; exact RZ.out j v hj) OZ.out (by rw [Array.length_toList, HZ.out, HC.out]; omega)
  have HRun := Lib.hid hrun
  clear hrun hov
  go_region_law (refine step_copy_rows (dv := .slice (some ⟨g, (i + 1) * 4, none⟩) (n - i) (cap - (i + 1))) (sv := .slice (some ⟨g, i * 4, none⟩) (n + 1 - i) (cap - i)) rfl (.tmp 73) (.tmp 76) 31 rfl (by simp [Act.eval, Act.put]) (by simp [Act.eval, Act.put]) HRun.out ?_)
  clear HRun
  generalize hR1 : (List.take ((i + 1) * 4) cur.toList ++ (Z.toList ++ List.drop ((i + 1) * 4 + Z.size) cur.toList)).toArray = R1
  have hR1s : R1.size = cap * 4 := by
    rw [← hR1]
    simp only [List.size_toArray, List.length_append, List.length_take, List.length_drop, Array.length_toList, HC.out, HZ.out]
    omega
  have hR1a : R1.toList.take (i * 4) = A.toList := by
    rw [← hR1, ← TA.out]
    show List.take (i * 4) (List.take ((i + 1) * 4) cur.toList ++ (Z.toList ++ List.drop ((i + 1) * 4 + Z.size) cur.toList)) = _
    rw [List.take_append_of_le_length (by simp only [List.length_take, Array.length_toList, HC.out]; omega), List.take_take]
    congr 1
    omega
  have hR1z : (R1.toList.drop (i * 4 + 4)).take ((n - i) * 4) = Z.toList := by
    rw [← hR1]
    have hl : (List.take ((i + 1) * 4) cur.toList).length = i * 4 + 4 := by simp only [List.length_take, Array.length_toList, HC.out]; omega
    have hz : Z.toList.length = (n - i) * 4 := by rw [Array.length_toList, HZ.out]
    show ((List.take ((i + 1) * 4) cur.toList ++ (Z.toList ++ List.drop ((i + 1) * 4 + Z.size) cur.toList)).drop (i * 4 + 4)).take ((n - i) * 4) = _
    rw [← hl, List.drop_left, ← hz]
    exact List.take_left
  clear hR1
  have hW1 : (w.drew.setRow g R1).heap[g]? = some (.cells R1 te (0, 0)) := setRow_heap _ _ _ _ _ _ HG.out
  have hW2 : ∀ q, q ≠ g → (w.drew.setRow g R1).heap[q]? = w.heap[q]? := fun q hq => setRow_other w.drew _ _ _ hq
  have hf : ∀ a, (w.drew.setRow g R1).frozen? a = w.frozen? a := fun a => frozen_setRow (w := w.drew) HG.out a
  have ho : (w.drew.setRow g R1).os = w.os ∧ (w.drew.setRow g R1).tape = w.tape ∧ (w.drew.setRow g R1).output = w.output ∧ (w.drew.setRow g R1).heap.size = w.heap.size := ⟨rfl, rfl, rfl, by rw [size_setRow]; rfl⟩
  generalize (w.drew.setRow g R1) = W1 at *
  have K1 := Lib.hid hW1; have K2 := Lib.hid hW2; have K3 := Lib.hid hf; have K4 := Lib.hid ho; have K5 := Lib.hid hR1s; have K6 := Lib.hid hR1a; have K7 := Lib.hid hR1z
  clear hW1 hW2 hf ho hR1s hR1a hR1z s1 s2 s3
  have t1 : i ≤ n + 1 := by omega
  go_wp2_with fail
  rw [copy_run (inf := Tryz.t88) (n := 1) (news := Y.toList) und24 inf49 K1.out (by show Nat.min 1 (n + 1 - i) = 1; exact Nat.min_eq_left (by omega)) (by rw [sz49, Array.length_toList, HY.out])
    (fun j v hj => by rw [add_none, Nat.zero_add]; exact (World.cell?_of_block (K2.out q hq)).trans (RY.out j v hj)) OY.out (by rw [Array.length_toList, HY.out, K5.out]; omega)]
  simp only [Result.andThen_ok]
  generalize hR2 : (List.take (i * 4) R1.toList ++ Y.toList ++ List.drop (i * 4 + Y.toList.length) R1.toList).toArray = R2
  have HR2 := Lib.hid hR2
  clear hR2
  go_wp2_with fail
  go_ret
  refine ⟨R2, rfl, setRow_heap _ _ _ _ _ _ K1.out, ?_, ?_, K4.out.1, K4.out.2.1, K4.out.2.2.1, by rw [size_setRow]; exact K4.out.2.2.2, fun q hq => (setRow_other _ _ _ _ hq).trans (K2.out q hq), fun a => (frozen_setRow K1.out a).trans (K3.out a)⟩
  · rw [← HR2.out]
    simp only [List.size_toArray, List.length_append, List.length_take, List.length_drop, Array.length_toList, K5.out, HY.out]
    omega
  · rw [← HR2.out, K6.out]
    have hl : (A.toList ++ Y.toList).length = i * 4 + 4 := by simp only [List.length_append, Array.length_toList, HA.out, HY.out]
    show List.take ((n + 1) * 4) (A.toList ++ Y.toList ++ List.drop (i * 4 + Y.toList.length) R1.toList) = _
    have h2 : i * 4 + Y.toList.length = i * 4 + 4 := by rw [Array.length_toList, HY.out]
    rw [h2, ← K7.out, show (n + 1) * 4 = (A.toList ++ Y.toList).length + (n - i) * 4 by rw [hl]; omega, List.take_length_add_append]
end Go.Proofs.YtkemmodgpafkmaaGreatDoor.IT
namespace Go.Proofs.YtkemmodgpafkmaaGreatDoor.IT
open Go Go.RowKit Go.Ab
abbrev TT : Ty := .pair (.int .i64) (.pair (.int .i64) (.pair (.slice (.int .i64)) (.pair (.int .i64) .unit)))
theorem ty24 : tyOk Tryz.prog 31 (.slice TT) = true := by kernel_rfl
theorem insOk : InsOk Tryz.prog 270 TT := by
  intro w v x xs y F G i hv hx hFG hi hn
  obtain ⟨te, inf, z, hu, hinf, hsz, hpos, hz, hzz, hby⟩ := slice_ty ty24
  obtain rfl : te = 88 := by rw [und24] at hu; cases hu; rfl
  obtain rfl : inf = Tryz.t88 := by rw [inf49] at hinf; cases hinf; rfl
  have sz : TT.size = 4 := rfl
  have hzs : z.cells.size = TT.size := by
    obtain ⟨p', hp', _, hrep, _⟩ := isZ_spec (S := fun _ => False) (w := w) (h := fun _ => none) (m := fun _ => none) TT _ _ hzz
    rw [List.append_nil] at hp'
    rw [← hp'] at hrep
    simpa using hrep.len
  have hGl : ∀ q, G q → q < w.heap.size := hx.lt
  have hFl : ∀ q, F q → q < w.heap.size := hv.lt
  have hxr := hx
  rcases hx with ⟨_, h0, _⟩ | ⟨q, c, xc, tq, Gs, ex, hxq, hxs, hx1, hx2, hxe, hxd, hxn, hxG⟩
  · cases h0
  simp only [List.length_singleton] at ex hx1
  have hGq : G q := (hxG q).2 (.inl rfl)
  obtain ⟨Gt, hxx, hG1, hG2⟩ : ∃ Gs : Nat → Blk, ((x = .slice none 0 0 ∧ [y] = []) ∨ ∃ (ad : Addr) (cap : Nat) (news : List Value), x = .slice (some ad) [y].length cap ∧ news.length = [y].length * TT.size ∧ (∀ j u, news[j]? = some u → w.cell? (ad.add j) = some u) ∧ (∀ u ∈ news, u.oneCell' = true) ∧
      ∀ i y', [y][i]? = some y' → El (fun _ => False) w true TT ((news.drop (i * TT.size)).take TT.size) y' (Gs i)) ∧ (∀ i j q, i < [y].length → j < [y].length → Gs i q → Gs j q → i = j) ∧ ∀ i q, i < [y].length → Gs i q → G q := by
    rcases hxr.rowsX hpos with ⟨e1, e2⟩ | ⟨ad, cap, news, Gs, e1, e2, e3, e4, e5, e6, e7⟩
    · exact ⟨fun _ _ => False, .inl ⟨e1, e2⟩, fun _ _ _ _ _ h => h.elim, fun _ _ _ h => h.elim⟩
    · exact ⟨Gs, .inr ⟨ad, cap, news, e1, e2, e3, e4, e5⟩, e6, e7⟩
  have app : ∀ (hlast : xs.drop i = []), ∃ v' w' F', (Builtin.append_ #[31, 31] 31 #[v, x]).run Tryz.prog w = .ok v' w' ∧ w.heap.size ≤ w'.heap.size ∧ (∀ q, q < w.heap.size → ¬ F q → w'.heap[q]? = w.heap[q]?) ∧ w'.os = w.os ∧ w'.tape = w.tape ∧ w'.output = w.output ∧ (∀ a : Addr, a.block < w.heap.size → w'.frozen? a = w.frozen? a) ∧
      ArrRel (fun _ => False) w' true TT v' (xs.take i ++ y :: xs.drop i) F' ∧ ∀ q, F' q → F q ∨ G q ∨ (w.heap.size ≤ q ∧ q < w'.heap.size) := fun hlast => by
    have hlim : lim = 4294967296 := rfl
    obtain ⟨v', w', F', k1, k2, k3, k4, k5, k6, k7, k8, k9⟩ := append_arrX (P := Tryz.prog) (ty := 31) (X := G) (Gs := Gt) und24 inf49 hsz hz hzs hby (S := fun _ => False) (D := true) hv hxx hG1 hG2 (fun q hq hF => hFG q hF hq) hGl (by simp only [List.length_singleton]; omega) (fun q h => h.elim)
    refine ⟨v', w', F', k1, k2, k3, k4, k5, k6, (fun a _ => k7 a), ?_, k9⟩
    have et : xs.take i = xs := by
      have := List.take_append_drop i xs
      rw [hlast, List.append_nil] at this
      exact this
    rw [hlast, et]
    exact k8
  have hxl : xc.toList.length = c * 4 := by rw [Array.length_toList, hxs]; rfl
  have Yl : (xc.toList.take 4).length = 4 := by rw [List.length_take, hxl]; omega
  have Yr : Own w TT (xc.toList.take 4) y (Gs 0) := by
    have h0 : Own w TT ((xc.toList.drop (0 * TT.size)).take TT.size) y (Gs 0) := hxe 0 y rfl
    simpa [sz] using h0
  have hG0 : ∀ b, Gs 0 b → G b := fun b hb => (hxG b).2 (.inr ⟨0, by simp, hb⟩)
  have oY : ∀ u ∈ xc.toList.take 4, u.oneCell' = true := RowsX.one (t := TT) (by decide) (w := w) (zs := [y]) (Fs := fun _ => Gs 0) (by rw [Yl]; rfl) (fun k u hk => by
    cases k with
    | zero =>
      simp only [List.getElem?_cons_zero, Option.some.injEq] at hk
      subst hk
      rw [Nat.zero_mul, List.drop_zero, List.take_of_length_le (by rw [Yl]; exact Nat.le_refl 4)]
      exact Yr
    | succ k => simp at hk)
  rcases hv with ⟨⟨o, rfl⟩, rfl, hF⟩ | ⟨g, cap, cur, te, Fs, rfl, hg, hs, hc, hm, he, k7, k8, hFF⟩
  · simp only [List.length_nil, Nat.le_zero] at hi
    subst hi
    obtain ⟨v', w', F', k1, k2⟩ := app rfl
    rw [ex] at k1 ⊢
    refine (insA0 w w' o q c v' k1).mono fun e w2 hk => ?_
    obtain ⟨rfl, rfl⟩ := hk
    exact ⟨v', F', rfl, k2⟩
  · have hgF : F g := (hFF g).2 (.inl rfl)
    have hqg : q ≠ g := fun h => hFG g hgF (h ▸ hGq)
    have hms : maxLen = 9223372036854775807 := rfl
    by_cases hin : i = xs.length
    · subst hin
      obtain ⟨v', w', F', k1, k2⟩ := app (by simp)
      rw [ex] at k1 ⊢
      refine (insA w w' g xs.length cap q c v' hc (by omega) (by omega) k1).mono fun e w2 hk => ?_
      obtain ⟨rfl, rfl⟩ := hk
      exact ⟨v', F', rfl, k2⟩
    · have hlt : i < xs.length := by omega
      have hcl : cur.toList.length = cap * 4 := by rw [Array.length_toList, hs]; rfl
      have he' : ∀ k u, xs[k]? = some u → Own w TT ((cur.toList.drop (k * TT.size)).take TT.size) u (Fs k) := fun k u hk => he k u hk
      have Ar := RowsX.head (t := TT) he' i
      have Zr := RowsX.tail (t := TT) he' i
      rw [sz] at Ar Zr
      have hmul : xs.length * 4 ≤ cap * 4 := Nat.mul_le_mul_right _ hc
      have hmul2 : (xs.length - i) * 4 = xs.length * 4 - i * 4 := Nat.sub_mul _ _ _
      have Al : (cur.toList.take (i * 4)).length = i * 4 := by rw [List.length_take, hcl]; omega
      have Zl : ((cur.toList.drop (i * 4)).take ((xs.length - i) * 4)).length = (xs.length - i) * 4 := by rw [List.length_take, List.length_drop, hcl]; omega
      have oZ := RowsX.one (t := TT) (by decide) (w := w) (L := (cur.toList.drop (i * 4)).take ((xs.length - i) * 4)) (zs := xs.drop i) (by rw [Zl, List.length_drop]; rfl) Zr
      have hFs : ∀ j b, j < xs.length → Fs j b → F b := fun j b hj hb => (hFF b).2 (.inr ⟨j, hj, hb⟩)
      have rY : ∀ j u, (xc.toList.take 4).toArray.toList[j]? = some u → w.cell? ⟨q, j, none⟩ = some u := fun j u hj => by
        have := cell_of (w := w) hxq (o := 0) (n := 4) (j := j) (v := u) (by simpa using hj)
        simpa using this
      have rZ : ∀ j u, ((cur.toList.drop (i * 4)).take ((xs.length - i) * 4)).toArray.toList[j]? = some u → w.cell? ⟨g, i * 4 + j, none⟩ = some u := fun j u hj => cell_of (w := w) hg (by simpa using hj)
      have hgl := lt_of_heap hg
      have hql := lt_of_heap hxq
      rw [ex]
      by_cases hroom : xs.length + 1 ≤ cap
      · refine (insC w g xs.length i q c cap te tq cur xc (cur.toList.take (i * 4)).toArray (xc.toList.take 4).toArray ((cur.toList.drop (i * 4)).take ((xs.length - i) * 4)).toArray (by omega) (by omega) hlt hroom hqg hg hxq (by simpa using Al) (by simpa using Yl) (by simpa using Zl) hs (by simp) rY rZ (by simpa using oY) (by simpa using oZ)).mono fun e w2 hk => ?_
        obtain ⟨row, rfl, r1, r2, r3, r4, r5, r6, r7, r8, r9⟩ := hk
        simp only [] at r3
        obtain ⟨F', f1, f2⟩ := ins_arr (t := TT) (w := w) (w' := w2) (S := fun _ => False) (F := F) (G := G) Al Yl hi Ar Yr Zr k7 hFs hG0 hFG (fun b _ hb => r8 b hb) k8 (fun h => hFG g hgF (hG0 g h)) r1 r2 hroom hm r3
        exact ⟨_, F', rfl, Nat.le_of_eq r7.symm, fun q' hq' hF' => r8 q' fun h => hF' (h ▸ hgF), r4, r5, r6, (fun a _ => r9 a), f1, fun q' hq' => (f2 q' hq').elim (fun h => .inl (h ▸ hgF)) fun h => h.imp (fun h => h) .inl⟩
      · have hce : cap = xs.length := by omega
        subst hce
        have hload : (loadCellsFrom ⟨g, 0, none⟩ 0 (i * 4) #[]).run Tryz.prog w.drew = .ok (cur.toList.take (i * 4)).toArray w.drew := by
          have := run_loadCells_list (P := Tryz.prog) w.drew ⟨g, 0, none⟩ (cur.toList.take (i * 4)) (fun j u hj => by
            rw [add_none, Nat.zero_add]
            have := cell_of (w := w) hg (o := 0) (n := i * 4) (j := j) (v := u) (by simpa using hj)
            simpa using this)
          rw [Al] at this
          exact this
        refine (insB w g xs.length i q c (by omega) hlt (cur.toList.take (i * 4)).toArray (xc.toList.take 4).toArray ((cur.toList.drop (i * 4)).take ((xs.length - i) * 4)).toArray (by simpa using Al) (by simpa using Yl) (by simpa using Zl) hload hgl hql rY rZ (by simpa using oY) (by simpa using oZ)).mono fun e w2 hk => ?_
        obtain ⟨cap', row, rfl, r1, r2, r3, r4, r5, r6⟩ := hk
        simp only [] at r5
        have old : ∀ b, F b ∨ G b → b < w.heap.size := fun b hb => hb.elim (hFl b) (hGl b)
        obtain ⟨F', f1, f2⟩ := ins_arr (t := TT) (w := w) (w' := w2) (S := fun _ => False) (F := F) (G := G) Al Yl hi Ar Yr Zr k7 hFs hG0 hFG (fun b hb _ => r6.block b (old b hb)) (fun j hj h => absurd (hFl _ (hFs j _ hj h)) (Nat.lt_irrefl _)) (fun h => absurd (hGl _ (hG0 _ h)) (Nat.lt_irrefl _)) r1 r2 r3 r4 r5
        exact ⟨_, F', rfl, r6.size, fun q' hq' _ => r6.block q' hq', r6.os, r6.tape, r6.output, r6.fz, f1, fun q' hq' => (f2 q' hq').elim (fun h => .inr (.inr ⟨by omega, by rw [h]; exact lt_of_heap r1⟩)) fun h => h.imp (fun h => h) .inl⟩
end Go.Proofs.YtkemmodgpafkmaaGreatDoor.IT
