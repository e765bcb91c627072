/-
  The functions that the statement reaches, as plain functions; each with its contract: the second part.
-/
import Derived.Test.YtkemmodgpafkmaaGreatDoorSRun
namespace Go.Proofs.YtkemmodgpafkmaaGreatDoor.Sh
open Go Go.Ab Go.Proofs
set_option maxRecDepth 100000
noncomputable section
def C11 : FnSpec := { ps := [.val .str], rs := [.val .str], fn := fun x => runLinesF x }
theorem S11 : Sound Tryz.prog 11 C11 := runLinesSound
def l_FnExactRunLines (p_aScript : Bytes) : Option (Bool) :=
 bif (decide (1048576 < (p_aScript.length : Int))) then
 some true
 else
 (s_RunLines p_aScript).bind fun r1 =>
 (runLinesF p_aScript).bind fun r2 =>
 bif (!decide (r2 = r1)) then
 some false
 else
 some true
def C3 : FnSpec := { ps := [.val .str], rs := [.val .bool], fn := fun x => l_FnExactRunLines x }
def E3 : Env := { T := [(9, .str)], G := [(10, C10), (11, C11)], ro := [], loops := [], joins := [] }
theorem S3 : Sound Tryz.prog 3 C3 := fun_sound (E := E3) ⟨good_T (by kernel_rfl), (good_cons S10 ⟨_, Tryz.func10, by kernel_rfl, by kernel_rfl⟩ (good_cons S11 ⟨_, Tryz.func11, by kernel_rfl, by kernel_rfl⟩ good_nil)), mixedOk, ins_nil⟩ Tryz.func3 rfl fun _ => by kernel_rfl
end
end Go.Proofs.YtkemmodgpafkmaaGreatDoor.Sh
