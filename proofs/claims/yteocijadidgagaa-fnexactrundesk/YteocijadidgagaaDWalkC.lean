import Derived.Test.YteocijadidgagaaDWalkB
import Derived.Test.YteocijadidgagaaXOver
namespace Go.Proofs.Yteocijadidgagaa
open Go Go.RowKit Go.Ab

def InsPostC (w : World) (g n cap : Nat) (te : TypeId) (L : List Value) (e : Ending) (w' : World) : Prop :=
  ∃ (row : Array Value), e = .returned (.slice (some ⟨g, 0, none⟩) (n + 1) cap) ∧ w'.heap[g]? = some (.cells row te (0, 0)) ∧ row.size = cap * 4 ∧ row.toList.take ((n + 1) * 4) = L ∧
    w'.os = w.os ∧ w'.tape = w.tape ∧ w'.output = w.output ∧ w'.heap.size = w.heap.size ∧ (∀ q, q ≠ g → w'.heap[q]? = w.heap[q]?) ∧ ∀ a, w'.frozen? a = w.frozen? a

set_option maxHeartbeats 4000000 in
set_option maxRecDepth 100000 in
theorem insC (w : World) (g n i q c cap : Nat) (te tq : TypeId) (cur xc A Y Z : Array Value) (hc : cap ≤ 9223372036854775807) (hn6 : n ≤ 1000000) (hi : i < n) (hn : n + 1 ≤ cap) (hq : q ≠ g) (hg : w.heap[g]? = some (.cells cur te (0, 0))) (hx : w.heap[q]? = some (.cells xc tq (0, 0)))
    (hA : A.size = i * 4) (hY : Y.size = 4) (hZ : Z.size = (n - i) * 4) (hcur : cur.size = cap * 4) (tA : cur.toList.take (i * 4) = A.toList)
    (rY : ∀ j v, Y.toList[j]? = some v → w.cell? ⟨q, j, none⟩ = some v) (rZ : ∀ j v, Z.toList[j]? = some v → w.cell? ⟨g, i * 4 + j, none⟩ = some v) (oY : ∀ u ∈ Y.toList, u.oneCell' = true) (oZ : ∀ u ∈ Z.toList, u.oneCell' = true) :
    Calls Try.prog 49 #[.slice (some ⟨g, 0, none⟩) n cap, .int .i64 i, .slice (some ⟨q, 0, none⟩) 1 c] w (InsPostC w g n cap te (A.toList ++ Y.toList ++ Z.toList)) := by
  have HA := Lib.hid hA; have HY := Lib.hid hY; have HZ := Lib.hid hZ; have HC := Lib.hid hcur; have TA := Lib.hid tA
  have RY := Lib.hid rY; have RZ := Lib.hid rZ; have OY := Lib.hid oY; have OZ := Lib.hid oZ; have HG := Lib.hid hg; have HX := Lib.hid hx
  clear hA hY hZ rY rZ oY oZ hcur tA hg hx
  have n1 : n ≤ cap := by omega
  have n2 : ¬ (cap < n + 1) := by omega
  have hov : (callFunc 62 #[.slice (some ⟨q, 0, none⟩) 1 c, .slice (some ⟨g, (i + 1) * 4, none⟩) (n - i) (cap - (i + 1))]).run Try.prog w = .ok (.value (.bool false)) w := by
    rw [run_callFunc_extern Try.func62 (by kernel_rfl) (by kernel_rfl) (by kernel_rfl) (e := Extern.SlicesOverlaps.overlaps #[24, 24] #[4]) (by kernel_rfl), overlaps_run und24 inf49 HX.out HG.out hq]
    rfl
  go_enter Try.func49, Try.ntmps49
  go_wp2_with (first | (simp only [hov]) | fail)
  have s1 : IntKind.i64.wrap ((i : Int) + 1) = (i : Int) + 1 := by rw [IntKind.wrap_i64]; omega
  have s2 : 0 ≤ (i : Int) + 1 := by omega
  have s3 : ((i : Int) + 1).toNat = i + 1 := by omega
  have s4 : i ≤ n := by omega
  have s5 : ¬ (cap = i + 1) := by omega
  have s6 : ¬ (cap = i) := by omega
  have s7 : (i : Int) + 1 ≤ (n : Int) + 1 := by omega
  have s8 : (i : Int) ≤ (n : Int) + 1 := by omega
  have hrun := copy_run (P := Try.prog) (ty := 3) (dl := n - i) (dc := cap - (i + 1)) (sl := n + 1 - i) (sc := cap - i) (off := (i + 1) * 4) (ad := ⟨g, i * 4, none⟩) (inf := Try.t49) (n := n - i) (news := Z.toList) und24 inf49 (w := w.drew) HG.out (Nat.min_eq_right (by omega)) (by rw [sz49, Array.length_toList, HZ.out])
    (fun j v hj => by rw [add_none]; exact RZ.out j v hj) OZ.out (by rw [Array.length_toList, HZ.out, HC.out]; omega)
  have HRun := Lib.hid hrun
  clear hrun hov
  go_region_law (refine step_copy_rows (dv := .slice (some ⟨g, (i + 1) * 4, none⟩) (n - i) (cap - (i + 1))) (sv := .slice (some ⟨g, i * 4, none⟩) (n + 1 - i) (cap - i)) rfl (.tmp 73) (.tmp 76) 24 rfl (by simp [Act.eval, Act.put]) (by simp [Act.eval, Act.put]) HRun.out ?_)
  clear HRun
  generalize hR1 : (List.take ((i + 1) * 4) cur.toList ++ (Z.toList ++ List.drop ((i + 1) * 4 + Z.size) cur.toList)).toArray = R1
  have hR1s : R1.size = cap * 4 := by
    rw [← hR1]
    simp only [List.size_toArray, List.length_append, List.length_take, List.length_drop, Array.length_toList, HC.out, HZ.out]
    omega
  have hR1a : R1.toList.take (i * 4) = A.toList := by
    rw [← hR1, ← TA.out]
    show List.take (i * 4) (List.take ((i + 1) * 4) cur.toList ++ (Z.toList ++ List.drop ((i + 1) * 4 + Z.size) cur.toList)) = _
    rw [List.take_append_of_le_length (by simp only [List.length_take, Array.length_toList, HC.out]; omega), List.take_take]
    congr 1
    omega
  have hR1z : (R1.toList.drop (i * 4 + 4)).take ((n - i) * 4) = Z.toList := by
    rw [← hR1]
    have hl : (List.take ((i + 1) * 4) cur.toList).length = i * 4 + 4 := by simp only [List.length_take, Array.length_toList, HC.out]; omega
    have hz : Z.toList.length = (n - i) * 4 := by rw [Array.length_toList, HZ.out]
    show ((List.take ((i + 1) * 4) cur.toList ++ (Z.toList ++ List.drop ((i + 1) * 4 + Z.size) cur.toList)).drop (i * 4 + 4)).take ((n - i) * 4) = _
    rw [← hl, List.drop_left, ← hz]
    exact List.take_left
  clear hR1
  have hW1 : (w.drew.setRow g R1).heap[g]? = some (.cells R1 te (0, 0)) := setRow_heap _ _ _ _ _ _ HG.out
  have hW2 : ∀ q, q ≠ g → (w.drew.setRow g R1).heap[q]? = w.heap[q]? := fun q hq => setRow_other w.drew _ _ _ hq
  have hf : ∀ a, (w.drew.setRow g R1).frozen? a = w.frozen? a := fun a => frozen_setRow (w := w.drew) HG.out a
  have ho : (w.drew.setRow g R1).os = w.os ∧ (w.drew.setRow g R1).tape = w.tape ∧ (w.drew.setRow g R1).output = w.output ∧ (w.drew.setRow g R1).heap.size = w.heap.size := ⟨rfl, rfl, rfl, by rw [size_setRow]; rfl⟩
  generalize (w.drew.setRow g R1) = W1 at *
  have K1 := Lib.hid hW1; have K2 := Lib.hid hW2; have K3 := Lib.hid hf; have K4 := Lib.hid ho; have K5 := Lib.hid hR1s; have K6 := Lib.hid hR1a; have K7 := Lib.hid hR1z
  clear hW1 hW2 hf ho hR1s hR1a hR1z s1 s2 s3
  have t1 : i ≤ n + 1 := by omega
  go_wp2_with fail
  rw [copy_run (inf := Try.t49) (n := 1) (news := Y.toList) und24 inf49 K1.out (by show Nat.min 1 (n + 1 - i) = 1; exact Nat.min_eq_left (by omega)) (by rw [sz49, Array.length_toList, HY.out])
    (fun j v hj => by rw [add_none, Nat.zero_add]; exact (World.cell?_of_block (K2.out q hq)).trans (RY.out j v hj)) OY.out (by rw [Array.length_toList, HY.out, K5.out]; omega)]
  simp only [Result.andThen_ok]
  generalize hR2 : (List.take (i * 4) R1.toList ++ Y.toList ++ List.drop (i * 4 + Y.toList.length) R1.toList).toArray = R2
  have HR2 := Lib.hid hR2
  clear hR2
  go_wp2_with fail
  go_ret
  refine ⟨R2, rfl, setRow_heap _ _ _ _ _ _ K1.out, ?_, ?_, K4.out.1, K4.out.2.1, K4.out.2.2.1, by rw [size_setRow]; exact K4.out.2.2.2, fun q hq => (setRow_other _ _ _ _ hq).trans (K2.out q hq), fun a => (frozen_setRow K1.out a).trans (K3.out a)⟩
  · rw [← HR2.out]
    simp only [List.size_toArray, List.length_append, List.length_take, List.length_drop, Array.length_toList, K5.out, HY.out]
    omega
  · rw [← HR2.out, K6.out]
    have hl : (A.toList ++ Y.toList).length = i * 4 + 4 := by simp only [List.length_append, Array.length_toList, HA.out, HY.out]
    show List.take ((n + 1) * 4) (A.toList ++ Y.toList ++ List.drop (i * 4 + Y.toList.length) R1.toList) = _
    have h2 : i * 4 + Y.toList.length = i * 4 + 4 := by rw [Array.length_toList, HY.out]
    rw [h2, ← K7.out, show (n + 1) * 4 = (A.toList ++ Y.toList).length + (n - i) * 4 by rw [hl]; omega, List.take_length_add_append]
end Go.Proofs.Yteocijadidgagaa
