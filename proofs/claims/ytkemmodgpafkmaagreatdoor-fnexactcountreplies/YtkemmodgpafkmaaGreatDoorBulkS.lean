/-
  The bulk of given data, as the rows count it; what the list of laid variables gives.
-/
import Derived.Test.YtkemmodgpafkmaaGreatDoorXSized
import Derived.Test.YtkemmodgpafkmaaGreatDoorSB5
import Derived.Test.YtkemmodgpafkmaaGreatDoorRows
import Derived.KernelRfl
namespace Go.Proofs.YtkemmodgpafkmaaGreatDoor
open Go Go.Ab
theorem own : ownKnob Tryz.prog.godebug = none := by kernel_rfl
theorem bulk_sum {H : Type} : ∀ l : List (DataW H), (l.map Rows.uptoBulk).sum = Rows.uptoBulkAll l
  | [] => by simp [Rows.uptoBulkAll]
  | d :: l => by simp [Rows.uptoBulkAll, bulk_sum l]
theorem bulky {H : Type} : Bulky (Rows.uptoBulk (H := H)) where
  lit l := by cases l <;> simp [Rows.uptoBulk]
  str b := by simp [Rows.uptoBulk]
  nil := by simp [Rows.uptoBulk]
  slice e r := by rw [bulk_sum]; simp only [Rows.uptoBulk]; omega
  agg e := by rw [bulk_sum]; simp only [Rows.uptoBulk]; omega
end Go.Proofs.YtkemmodgpafkmaaGreatDoor
namespace Go.Proofs.YtkemmodgpafkmaaGreatDoor.Sh
open Go Go.Ab
theorem iface_of_laid {P : Program} {W : World} {l : List (String × DataW Unit)} {name nm : String} {d : DataW Unit} {g : Nat} {t : TypeId}
    (hg : P.globalNamed name = some g) (hty : (P.globals[g]?).map (·.type) = some t) (ht : ∃ ms, P.underlying t = some (.interface ms))
    (hp : (l.all fun x => x.2.handleName?.isNone) = true) (hm : (name, DataW.iface nm d) ∈ l) (h : laidMetH P l W) : g < W.heap.size ∧ ¬ False ∧ ∃ o, W.heap[g]? = some o ∧ anIface o := by
  obtain ⟨ms, ht⟩ := ht
  rw [MakeChecks.laidMetH_plain _ _ _ hp] at h
  obtain ⟨g', t', cs, fuel, p, hg', ht', hvar, hd⟩ := Lib.laidMet.reads h hm
  obtain rfl := Option.some.inj (hg.symm.trans hg')
  obtain rfl := Option.some.inj (hty.symm.trans ht')
  unfold World.var? at hvar
  rw [hg, Option.bind_some] at hvar
  split at hvar
  · rename_i cs' e fz hh
    injection hvar with hvar
    subst hvar
    refine ⟨(Array.getElem?_eq_some_iff.1 hh).1, fun h => h, _, hh, ?_⟩
    have key : ∃ v, cs'.toList = [v] ∧ (v = .nilIface ∨ ∃ te pe, v = .iface te pe) := by
      cases fuel with
      | zero => simp [DataW.trod] at hd
      | succ fuel =>
        match hcs : cs'.toList with
        | [] => rw [hcs] at hd; simp [DataW.trod, ht] at hd
        | [.nilIface] => exact ⟨_, rfl, .inl rfl⟩
        | [.iface u v] => exact ⟨_, rfl, .inr ⟨u, v, rfl⟩⟩
        | x :: y :: r => rw [hcs] at hd; simp [DataW.trod, ht] at hd
        | [x] =>
          rw [hcs] at hd
          cases x <;> first | exact ⟨_, rfl, .inl rfl⟩ | exact ⟨_, rfl, .inr ⟨_, _, rfl⟩⟩ | (simp [DataW.trod, ht] at hd)
    obtain ⟨v, k1, k2⟩ := key
    exact ⟨_, _, _, v, rfl, by rw [← Array.getElem?_toList, k1]; rfl, k2⟩
  · cases hvar
theorem tabs_of {l : List (String × DataW Unit)} {W : World} (hp : (l.all fun x => x.2.handleName?.isNone) = true) (hm : ("internal/strconv.uint64pow10", Lib.tabData .u64 Lib.pow10Tab) ∈ l) {n1 n2 : String} {d1 d2 : DataW Unit}
    (h1 : ("strconv.ErrSyntax", DataW.iface n1 d1) ∈ l) (h2 : ("strconv.ErrRange", DataW.iface n2 d2) ∈ l) (hL : laidMetH Tryz.prog l W) (h : W.ShapedOpen Tryz.prog) : TabOk W W.heap.size (fun _ => False) := fun p hp' => by
  have hp' : p ∈ [(0, someInt), (1, anIface), (2, anIface), (5, holdsRow (Lib.pow10Tab.map fun z => Value.int .u64 z).toArray)] := hp'
  simp only [List.mem_cons, List.not_mem_nil, or_false] at hp'
  rcases hp' with rfl | rfl | rfl | rfl
  · exact someInt_shape (t := 3) (zero := #[.int .i64 0]) h (of_decide_eq_true (by kernel_rfl)) (by kernel_rfl) rfl (by kernel_rfl) (by kernel_rfl) Tryz.underlying3
  · exact iface_of_laid (name := "strconv.ErrSyntax") (by kernel_rfl) (by kernel_rfl) ⟨_, Tryz.underlying78⟩ hp h1 hL
  · exact iface_of_laid (name := "strconv.ErrRange") (by kernel_rfl) (by kernel_rfl) ⟨_, Tryz.underlying78⟩ hp h2 hL
  · exact row_of_laid (name := "internal/strconv.uint64pow10") (zs := Lib.pow10Tab) (by kernel_rfl) (by kernel_rfl) Tryz.underlying300 Tryz.underlying96 (by kernel_rfl) (by kernel_rfl) hp hm hL
end Go.Proofs.YtkemmodgpafkmaaGreatDoor.Sh
