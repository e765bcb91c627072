/-
  Statements whose rows list variables of the library's: the witness, and what the list and the world's shape give.
-/
import Derived.Test.YtkemmodgpafkmaaGreatDoorXExt2
import Derived.Lay
import Derived.Deep.DeepHandedRow
import Derived.Shelf.Vars
import Derived.Lib.LaidU8
import Derived.MakeChecks
namespace Go.Ab
open Go
theorem zip_row {C : Checked} {os : Os} {f : FuncId} {fn : Func} {s : OpenSpec} {conds : List PathCond} {laid : List (String × DataW Unit)} {H : Type} {enc : TypeId × Value → H} (w0 : World) (args : Array Value) (hos : w0.os = os)
    (hv : (w0.forCall (fun _ _ => 0) ⟨#[], args, []⟩).variablesZipB C.prog = true)
    (hr : ((w0.forCall (fun _ _ => 0) ⟨#[], args, []⟩).heap.toList.drop C.prog.globals.size).take ((begin C.prog (fun _ _ => 0) default).world.heap.size - C.prog.globals.size) =
      (begin C.prog (fun _ _ => 0) default).world.heap.toList.drop C.prog.globals.size)
    (hok : Input.okWideB C.prog (w0.forCall (fun _ _ => 0) ⟨#[], args, []⟩) f ⟨#[], args, []⟩ = true)
    (hrow : s.preRow enc C.prog fn conds false laid (w0.forCall (fun _ _ => 0) ⟨#[], args, []⟩).memory args) :
    ∃ (w : World) (tape : Tape) (i : Input), w.os = os ∧ (w.forCall tape i).Shaped C.prog ∧ i.vars = [] ∧ Input.okWide C.prog (w.forCall tape i) .any w.heap.size f i ∧
      s.preRow enc C.prog fn conds false laid (w.forCall tape i).memory i.args ∧ ({} : Assume).holds C.prog (lone (Frame.enter C.prog f i.args .normal) [] (w.forCall tape i)) :=
  ⟨w0, fun _ _ => 0, ⟨#[], args, []⟩, hos, World.shaped_of_ZipB hv hr, (Input.okWide_of_okWideB (base := 0) hok).1, (Input.okWide_of_okWideB hok).2, hrow, by
    simp only [Assume.holds]
    exact ⟨by simp, by simp, fun _ => Modest.zero, by simp, by simp⟩⟩
theorem obj_of_cell {w : World} {g : Nat} {v : Value} (h : w.cell? ⟨g, 0, none⟩ = some v) : ∃ cs e fz, w.heap[g]? = some (.cells cs e fz) ∧ cs[0]? = some v := by
  simp only [World.cell?] at h
  split at h
  · rename_i cs e fz hh
    exact ⟨cs, e, fz, hh, by simpa using h⟩
  · cases h
theorem someInt_shape {P : Program} {w : World} {g : Nat} {t : TypeId} {zero : Array Value} (h : w.ShapedOpen P) (hg : g < P.globals.size)
    (h0 : ((begin P (fun _ _ => 0) default).world.heap[g]?).bind Obj.row? = some (zero, t)) (hz : zero.size = 1)
    (hb : P.buildable t = true) (hc : P.cellTypes P.depth t = some [t]) (hu : P.underlying t = some (.int .i64)) : g < w.heap.size ∧ ¬ False ∧ ∃ o, w.heap[g]? = some o ∧ someInt o := by
  obtain ⟨m, hm⟩ := Proofs.cell_of_shapedOpen_int h hg h0 hz hb hc hu
  obtain ⟨cs, e, fz, h1, h2⟩ := obj_of_cell hm
  exact ⟨(Array.getElem?_eq_some_iff.1 h1).1, fun h => h, _, h1, cs, e, fz, m, rfl, h2⟩
theorem row_of_laid {P : Program} {W : World} {l : List (String × DataW Unit)} {name : String} {k : IntKind} {zs : List Int} {g : Nat} {t e : TypeId} {n : Nat}
    (hg : P.globalNamed name = some g) (hty : (P.globals[g]?).map (·.type) = some t) (ht : P.underlying t = some (.array n e)) (he : P.underlying e = some (.int k)) (hce : P.cellsOf e = 1) (hct : P.cellsOf t = n)
    (hp : (l.all fun x => x.2.handleName?.isNone) = true) (hm : (name, Lib.tabData k zs) ∈ l) (h : laidMetH P l W) : g < W.heap.size ∧ ¬ False ∧ ∃ o, W.heap[g]? = some o ∧ holdsRow (zs.map fun z => Value.int k z).toArray o := by
  rw [MakeChecks.laidMetH_plain _ _ _ hp] at h
  refine row_of_tabIs (name := name) hg ?_
  obtain ⟨g', t', cs, fuel, p, hg', ht', hvar, hd⟩ := Lib.laidMet.reads h hm
  obtain rfl := Option.some.inj (hg.symm.trans hg')
  obtain rfl := Option.some.inj (hty.symm.trans ht')
  unfold Lib.TabIs
  rw [hvar, ← Lib.cells_of_tab ht he hce hct hd]
end Go.Ab
