/-
  slices.Insert at links, one at a time: walked.
-/
import Derived.Test.YtkemmodgpafkmaaGreatDoorSB5
import Derived.Test.YtkemmodgpafkmaaGreatDoorXStr
import Derived.WalkKit
import Derived.WalkSpells
import Derived.Lib.Hide
import Derived.Deep.AppendSrc
import Derived.Deep.RegionLaw
import Derived.KernelRfl
open Go.Result renaming andThen_ok->afg
namespace IL
open Go Go.RowKit Go.Ab Go.Proofs
theorem und:Tryz.prog.underlying 44=some (.slice 106):=by kernel_rfl
theorem inf:Tryz.prog.info? 106=some Tryz.t106:=by kernel_rfl
theorem RD:Tryz.t106.bytes=24:=by kernel_rfl
theorem Ut:Tryz.t106.size=3:=by kernel_rfl
set_option maxHeartbeats 4000000 in
set_option maxRecDepth 100000 in
theorem QO:SX Tryz.prog 212 44:=by intro w w2 g n cap q c v2 hn hc hn6 hrun;have HR:=Lib.hid hrun;clear hrun;go_enter Tryz.func212,Tryz.ntmps212;go_wp2_with (at_builtin;refine iw rfl _ _ 44 rfl rfl rfl HR.out ?_);(all_goals go_ret);all_goals exact⟨rfl,rfl⟩
set_option maxHeartbeats 4000000 in
set_option maxRecDepth 100000 in
theorem Ji:My Tryz.prog 212 44:=by intro w w2 o q c v2 hrun;have HR:=Lib.hid hrun;clear hrun;go_enter Tryz.func212,Tryz.ntmps212;go_wp2_with (at_builtin;refine iw rfl _ _ 44 rfl rfl rfl HR.out ?_);(all_goals go_ret);all_goals exact⟨rfl,rfl⟩
set_option maxHeartbeats 4000000 in
set_option maxRecDepth 100000 in
theorem QV:RY Tryz.prog 212 106 3:=by intro w g n i q c A Y Z hc hi h hload hgl hql;have H:=Lib.hid h;clear h;go_enter Tryz.func212,Tryz.ntmps212;go_wp2_with (first|(simp only[hload,afg])|fail);{exfalso;rw[RD]at*;omega};{exfalso;rw[RD]at*;omega};{exfalso;rename_i hbad _;rw[RD]at*;have:=growslice_fits (need:=i+(n+1-i)) (old:=n) (bytes:=24) (by omega) (by omega);omega};{exfalso;rename_i hcap;have:=grownCap_ge w (i+(n+1-i)) n 106;unfold grownCap at this;omega};{rename_i hcap;have hge:=grownCap_ge w (i+(n+1-i)) n 106;have hle:=grownCap_le_maxLen w (i+(n+1-i)) n 106 (by unfold maxLen;omega);unfold grownCap at hge hle;generalize (Question.appendCap (i+(n+1-i)) n 106).cut (w.tape w.drawn (Question.appendCap (i+(n+1-i)) n 106))=C at*;rw[show i+(n+1-i)=n+1 by omega]at*;obtain⟨W2,e1,W3,e2,post⟩:=A3 und inf Ut #[.int .i64 0,.int .i64 0,.int .i64 0] rfl H.out hi hge hle hgl hql;have e2:=Lib.hid e2;have post:=Lib.hid post;rw[e1];clear e1 H;simp only[afg];go_wp2_with fail;(have s1:IntKind.i64.wrap ((i:Int)+1)=(i:Int)+1:=by rw[IntKind.wrap_i64];omega);(have s2:0<=(i:Int)+1:=by omega);(have s3:((i:Int)+1).toNat=i+1:=by omega);(have s4:i<=n:=by omega);(have s5:¬(C=i+1):=by omega);(have s6:¬(n=i):=by omega);(have s7:(i:Int)+1<=(n:Int)+1:=by omega);have s8:n<=n:=aB n;go_region_law (refine iz (dv:=.slice (some ⟨w.heap.size,(i+1)*3,none⟩) (n-i) (C-(i+1))) (sv:=.slice (some ⟨g,i*3,none⟩) (n-i) (n-i)) rfl (.tmp 50) (.tmp 53) 44 rfl (by simp[Act.eval,Act.put]) (by simp[Act.eval,Act.put]) (e2.out _ _ _) ?_);go_wp2_with fail;go_ret;exact post.out}
set_option maxHeartbeats 4000000 in
set_option maxRecDepth 100000 in
theorem Qw:Ta Tryz.prog 212 3:=by intro w g n i q c cap te tq cur xc A Y Z hc hn6 hi hn h h2;(have n1:n<=cap:=by omega);(have n2:¬(cap<n+1):=by omega);obtain⟨W1,e1,W2,e2,post⟩:=Aq und inf Ut h hi hn h2;have e1:=Lib.hid e1;have post:=Lib.hid post;(have hov:(callFunc 274 #[.slice (some ⟨q,0,none⟩) 1 c,.slice (some ⟨g,(i+1)*3,none⟩) (n-i) (cap-(i+1))]).run Tryz.prog w=.ok (.value (.bool false)) w:=by rw[run_callFunc_extern Tryz.func274 (by kernel_rfl) (by kernel_rfl) (by kernel_rfl) (e:=Extern.SlicesOverlaps.overlaps #[44,44] #[4]) (by kernel_rfl),uD und inf h2.hx h2.hg h2.hq];rfl);clear h h2;go_enter Tryz.func212,Tryz.ntmps212;go_wp2_with (first|(simp only[hov])|fail);clear hov;(have s1:IntKind.i64.wrap ((i:Int)+1)=(i:Int)+1:=by rw[IntKind.wrap_i64];omega);(have s2:0<=(i:Int)+1:=by omega);(have s3:((i:Int)+1).toNat=i+1:=by omega);(have s4:i<=n:=by omega);(have s5:¬(cap=i+1):=by omega);(have s6:¬(cap=i):=by omega);(have s7:(i:Int)+1<=(n:Int)+1:=by omega);(have s8:(i:Int)<=(n:Int)+1:=by omega);go_region_law (refine iz (dv:=.slice (some ⟨g,(i+1)*3,none⟩) (n-i) (cap-(i+1))) (sv:=.slice (some ⟨g,i*3,none⟩) (n+1-i) (cap-i)) rfl (.tmp 73) (.tmp 76) 44 rfl (by simp[Act.eval,Act.put]) (by simp[Act.eval,Act.put]) (e1.out _ _ _) ?_);clear s1 s2 s3 e1;(have t1:i<=n+1:=by omega);go_wp2_with fail;go_ret;exact post.out
theorem Kg:xz Tryz.prog 212 (.pair (.int .i64) (.pair (.int .i64) (.pair (.int .i64) .unit))):=Dj und (by kernel_rfl) rfl QO Ji QV Qw
end IL
