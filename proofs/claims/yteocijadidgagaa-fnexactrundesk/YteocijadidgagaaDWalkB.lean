import Derived.Test.YteocijadidgagaaChecked
import Derived.Test.YteocijadidgagaaXCopy
import Derived.Test.YteocijadidgagaaXApp0
import Derived.WalkKit
import Derived.WalkSpells
import Derived.Lib.OwnBridge
import Derived.Deep.AppendSrc
import Derived.Deep.RegionLaw
import Derived.Lib.Hide
import Derived.KernelRfl
namespace Go.Proofs.Yteocijadidgagaa
open Go Go.RowKit Go.Ab

theorem und24 : Try.prog.underlying 24 = some (.slice 49) := by kernel_rfl
theorem inf49 : Try.prog.info? 49 = some Try.t49 := by kernel_rfl
theorem by49 : Try.t49.bytes = 48 := by kernel_rfl
theorem sz49 : Try.t49.size = 4 := by kernel_rfl

def InsPost (w : World) (n : Nat) (L : List Value) (e : Ending) (w' : World) : Prop :=
  ∃ (cap : Nat) (row : Array Value), e = .returned (.slice (some ⟨w.heap.size, 0, none⟩) (n + 1) cap) ∧ w'.heap[w.heap.size]? = some (.cells row 49 (0, 0)) ∧ row.size = cap * 4 ∧ n + 1 ≤ cap ∧ cap ≤ maxLen ∧ row.toList.take ((n + 1) * 4) = L ∧ Grow w w'

set_option maxHeartbeats 4000000 in
set_option maxRecDepth 100000 in
theorem insB (w : World) (g n i q c : Nat) (hc : n ≤ 1000000) (hi : i < n) (A Y Z : Array Value) (hA : A.size = i * 4) (hY : Y.size = 4) (hZ : Z.size = (n - i) * 4)
    (hload : (loadCellsFrom ⟨g, 0, none⟩ 0 (i * 4) #[]).run Try.prog w.drew = .ok A w.drew) (hgl : g < w.heap.size) (hql : q < w.heap.size)
    (rY : ∀ j v, Y.toList[j]? = some v → w.cell? ⟨q, j, none⟩ = some v) (rZ : ∀ j v, Z.toList[j]? = some v → w.cell? ⟨g, i * 4 + j, none⟩ = some v) (oY : ∀ u ∈ Y.toList, u.oneCell' = true) (oZ : ∀ u ∈ Z.toList, u.oneCell' = true) :
    Calls Try.prog 49 #[.slice (some ⟨g, 0, none⟩) n n, .int .i64 i, .slice (some ⟨q, 0, none⟩) 1 c] w (InsPost w n (A.toList ++ Y.toList ++ Z.toList)) := by
  have HA := Lib.hid hA; have HY := Lib.hid hY; have HZ := Lib.hid hZ
  have RY := Lib.hid rY; have RZ := Lib.hid rZ; have OY := Lib.hid oY; have OZ := Lib.hid oZ
  clear hA hY hZ rY rZ oY oZ
  go_enter Try.func49, Try.ntmps49
  go_wp2_with (first | (simp only [hload, Result.andThen_ok]) | fail)
  · exfalso
    rw [by49] at *
    omega
  · exfalso
    rw [by49] at *
    omega
  · exfalso
    rename_i hbad _
    rw [by49] at *
    have := growslice_fits (need := i + (n + 1 - i)) (old := n) (bytes := 48) (by omega) (by omega)
    omega
  · exfalso
    rename_i hcap
    have := grownCap_ge w (i + (n + 1 - i)) n 49
    unfold grownCap at this
    omega
  · rename_i hcap
    have hge := grownCap_ge w (i + (n + 1 - i)) n 49
    have hle := grownCap_le_maxLen w (i + (n + 1 - i)) n 49 (by unfold maxLen; omega)
    unfold grownCap at hge hle
    generalize (Question.appendCap (i + (n + 1 - i)) n 49).cut (w.tape w.drawn (Question.appendCap (i + (n + 1 - i)) n 49)) = C at *
    rw [show i + (n + 1 - i) = n + 1 by omega] at *
    generalize hR : (A ++ (Builtin.zeroCells #[Value.int IntKind.i64 0, Value.int IntKind.i64 0, Value.slice none 0 0, Value.int IntKind.i64 0] (n + 1 - i) ++ Builtin.zeroCells #[Value.int IntKind.i64 0, Value.int IntKind.i64 0, Value.slice none 0 0, Value.int IntKind.i64 0] (C - (n + 1)))) = R
    have hRs : R.size = C * 4 := by
      rw [← hR]
      simp only [Array.size_append, size_zeroCells, HA.out]
      simp
      omega
    have hRt : R.toList.take (i * 4) = A.toList := by
      rw [← hR, Array.toList_append, ← HA.out, ← Array.length_toList]
      exact List.take_left
    clear hR
    have hW : (w.alloc (.cells R 49)).drew.heap[w.heap.size]? = some (.cells R 49 (0, 0)) := heap_alloc_new w _
    have hW2 : ∀ q, q < w.heap.size → (w.alloc (.cells R 49)).drew.heap[q]? = w.heap[q]? := fun q hq => (Grow.alloc w R 49).block q hq
    rw [copy_run (inf := Try.t49) (n := 1) (news := Y.toList) und24 inf49 hW (by show Nat.min 1 (n + 1 - i) = 1; exact Nat.min_eq_left (by omega)) (by rw [sz49, Array.length_toList, HY.out])
      (fun j v hj => by rw [add_none, Nat.zero_add]; exact (World.cell?_of_block (hW2 q hql)).trans (RY.out j v hj)) OY.out (by rw [Array.length_toList, HY.out, hRs]; omega)]
    simp only [Result.andThen_ok]
    generalize hR2 : (List.take (i * 4) R.toList ++ Y.toList ++ List.drop (i * 4 + Y.toList.length) R.toList).toArray = R2
    have hR2s : R2.size = C * 4 := by
      rw [← hR2]
      simp only [List.size_toArray, List.length_append, List.length_take, List.length_drop, Array.length_toList, hRs, HY.out]
      omega
    have hR2t : R2.toList.take (i * 4 + 4) = A.toList ++ Y.toList := by
      rw [← hR2, hRt]
      have hl : (A.toList ++ Y.toList).length = i * 4 + 4 := by simp [HA.out, HY.out]
      rw [← hl]
      exact List.take_left
    clear hR2
    have hW3 : ((w.alloc (.cells R 49)).drew.setRow w.heap.size R2).heap[w.heap.size]? = some (.cells R2 49 (0, 0)) := setRow_heap _ _ _ _ _ _ hW
    have hW4 : ∀ q, q < w.heap.size → ((w.alloc (.cells R 49)).drew.setRow w.heap.size R2).heap[q]? = w.heap[q]? := fun q hq => (setRow_other _ _ _ _ (by omega)).trans (hW2 q hq)
    have hG : Grow w ((w.alloc (.cells R 49)).drew.setRow w.heap.size R2) := ⟨rfl, rfl, rfl, by rw [size_setRow]; simp, hW4, fun a => (frozen_setRow hW a).trans ((Grow.alloc w R 49).fz a)⟩
    generalize ((w.alloc (.cells R 49)).drew.setRow w.heap.size R2) = W2 at *
    clear hW hW2 hRt hRs
    have H3 := Lib.hid hW3; have H4 := Lib.hid hW4; have HG := Lib.hid hG; have HR := Lib.hid hR2s; have HT := Lib.hid hR2t
    clear hW3 hW4 hG hR2s hR2t
    go_wp2_with fail
    have s1 : IntKind.i64.wrap ((i : Int) + 1) = (i : Int) + 1 := by rw [IntKind.wrap_i64]; omega
    have s2 : 0 ≤ (i : Int) + 1 := by omega
    have s3 : ((i : Int) + 1).toNat = i + 1 := by omega
    have s4 : i ≤ n := by omega
    have s5 : ¬ (C = i + 1) := by omega
    have s6 : ¬ (n = i) := by omega
    have s7 : (i : Int) + 1 ≤ (n : Int) + 1 := by omega
    have s8 : n ≤ n := Nat.le_refl n
    have hrun := copy_run (P := Try.prog) (ty := 3) (dl := n - i) (dc := C - (i + 1)) (sl := n - i) (sc := n - i) (off := (i + 1) * 4) (ad := ⟨g, i * 4, none⟩) (inf := Try.t49) (n := n - i) (news := Z.toList) und24 inf49 (w := W2.drew) H3.out (Nat.min_self _) (by rw [sz49, Array.length_toList, HZ.out])
      (fun j v hj => by rw [add_none]; exact (World.cell?_of_block (H4.out g hgl)).trans (RZ.out j v hj)) OZ.out (by rw [Array.length_toList, HZ.out, HR.out]; omega)
    have HRun := Lib.hid hrun
    clear hrun
    go_region_law (refine step_copy_rows (dv := .slice (some ⟨w.heap.size, (i + 1) * 4, none⟩) (n - i) (C - (i + 1))) (sv := .slice (some ⟨g, i * 4, none⟩) (n - i) (n - i)) rfl (.tmp 50) (.tmp 53) 24 rfl (by simp [Act.eval, Act.put, s5]) (by simp [Act.eval, Act.put, s6]) HRun.out ?_)
    go_wp2_with fail
    go_ret
    refine ⟨C, _, rfl, setRow_heap W2.drew _ _ _ _ _ H3.out, ?_, hge, hle, ?_, ?_⟩
    · simp only [List.size_toArray, List.length_append, List.length_take, List.length_drop, Array.length_toList, HR.out, HZ.out]
      omega
    · have ht : List.take ((i + 1) * 4) R2.toList = A.toList ++ Y.toList := by rw [← HT.out]; congr 1; omega
      have hl : (A.toList ++ Y.toList ++ Z.toList).length = (n + 1) * 4 := by simp only [List.length_append, Array.length_toList, HA.out, HY.out, HZ.out]; omega
      rw [ht, ← hl]
      rw [← List.append_assoc (A.toList ++ Y.toList)]
      exact List.take_left
    · have hh : W2.drew.heap[w.heap.size]? = some (.cells R2 49 (0, 0)) := H3.out
      exact ⟨HG.out.os, HG.out.tape, HG.out.output, by rw [size_setRow]; exact HG.out.size, fun q hq => (setRow_other _ _ _ _ (by omega)).trans (HG.out.block q hq), fun a => (frozen_setRow hh a).trans (HG.out.fz a)⟩
end Go.Proofs.Yteocijadidgagaa
