import Derived.Test.YteocijadidgagaaChecked
import Derived.Test.YteocijadidgagaaXCopy
import Derived.WalkKit
import Derived.WalkSpells
import Derived.Lib.Hide
import Derived.KernelRfl
namespace Go.Proofs.Yteocijadidgagaa
open Go Go.RowKit Go.Ab

set_option maxHeartbeats 4000000 in
set_option maxRecDepth 100000 in
theorem insA (w w2 : World) (g n cap q c : Nat) (v2 : Value) (hn : n ≤ cap) (hc : cap ≤ 9223372036854775807) (hn6 : n ≤ 1000000) (hrun : (Builtin.append_ #[24, 24] 24 #[.slice (some ⟨g, 0, none⟩) n cap, .slice (some ⟨q, 0, none⟩) 1 c]).run Try.prog w = .ok v2 w2) :
    Calls Try.prog 49 #[.slice (some ⟨g, 0, none⟩) n cap, .int .i64 n, .slice (some ⟨q, 0, none⟩) 1 c] w fun e w' => e = .returned v2 ∧ w' = w2 := by
  have HR := Lib.hid hrun
  clear hrun
  go_enter Try.func49, Try.ntmps49
  go_wp2_with (at_builtin; refine wpList_app_run rfl _ _ 24 rfl rfl rfl HR.out ?_)
  all_goals go_ret
  all_goals exact ⟨rfl, rfl⟩

set_option maxHeartbeats 4000000 in
set_option maxRecDepth 100000 in
theorem insA0 (w w2 : World) (o : Option Addr) (q c : Nat) (v2 : Value) (hrun : (Builtin.append_ #[24, 24] 24 #[.slice o 0 0, .slice (some ⟨q, 0, none⟩) 1 c]).run Try.prog w = .ok v2 w2) :
    Calls Try.prog 49 #[.slice o 0 0, .int .i64 0, .slice (some ⟨q, 0, none⟩) 1 c] w fun e w' => e = .returned v2 ∧ w' = w2 := by
  have HR := Lib.hid hrun
  clear hrun
  go_enter Try.func49, Try.ntmps49
  go_wp2_with (at_builtin; refine wpList_app_run rfl _ _ 24 rfl rfl rfl HR.out ?_)
  all_goals go_ret
  all_goals exact ⟨rfl, rfl⟩
end Go.Proofs.Yteocijadidgagaa
