/- Joined texts: LD. -/
import Derived.Test.YtilaieogabgamaaGreatDoorU7
section
open _root_.Go.Value renaming int->aj6
namespace Go.Proofs.YtilaieogabgamaaGreatDoor
open Go Go.RowKit Go.Shelf Go.Lib Go.Sort
def tM(x:Int):Bool:=decide (x<1)||decide (109572<x)
theorem KC(x:Int)(W:World):FnGives Tryz.prog 17 #[] #[.int .i64 x] (.bool (tM x)) W:=by
 show Calls Tryz.prog 17 #[.int .i64 x] W _
 go_enter Tryz.func17,Tryz.ntmps17
 go_wp2
 all_goals (go_ret;exact⟨by simp_all[tM],0,rfl⟩)
theorem D4:aq Tryz.prog 15 ⟨⟨[(0, .val false (.own 0)),(1, .fn 17 [])],[(0, .own 3 ae)],[],1⟩,⟨[(0, .val false (.own 1))],[(1, .own 3 ae)],[],2⟩,fun x=>pH tM x⟩:=by
 refine HK (g:=17) (p:=tM) ⟨_,Tryz.func15,by kernel_rfl,by kernel_rfl⟩ (fun lA off cap zs w hH kz ua=>?_) (fun w=>?_)
 .have eg:∀args w,(callFunc 17 args).run Tryz.prog w= .ok (.enter 17 args) w:=enters_of Tryz.func17 (by kernel_rfl) rfl;have:=Tryz.slices_DeleteFunc (aj6 .i64) (fun _=>rfl) tM 17 #[] eg 0 Tryz.zeroValue3 lA off cap zs.toArray w (fun W x _=>KC x W) (fun n os dk x _=>KC x _) hH (by simpa using kz) (by simpa using ua);simpa using this
 .exact D2 Tryz.qf _ w
end Go.Proofs.YtilaieogabgamaaGreatDoor
end
