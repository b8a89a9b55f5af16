/- Joined texts: SL. -/
import Derived.Test.YtbladfbbhijpmaaGreatU7
import Derived.Test.YtbladfbbhijpmaaGreatProg
section
namespace Go.Proofs.YtbladfbbhijpmaaGreat
open Go Go.RowKit Go.Shelf Go.Lib Go.Sort
theorem yY{g:Int->Int->Int->Int->Option Int}(PJ:aL Tryz.prog 106 ⟨⟨[(0, .val true (.leaf iW)),(1, .val true (.leaf iW))],[],[],0⟩,⟨[(0, .val false (.leaf ae))],[],[],0⟩,fun(x:iW.den×iW.den)=>g x.1.1 x.1.2 x.2.1 x.2.2⟩):
 aL Tryz.prog 105 ⟨⟨[(0, .val false (.own 0)),(1, .fn 106 [])],[(0, .own 58 iW)],[],1⟩,⟨[],[(0, .own 58 iW)],[],2⟩,fun x=>tj g x⟩:=by
 have eg:∀args w,(callFunc 106 args).run Tryz.prog w= .ok (.enter 106 args) w:=enters_of Tryz.func106 (by kernel_rfl) rfl;refine ET ⟨_,Tryz.func105,by kernel_rfl,by kernel_rfl⟩ PJ (fun cf hO jE off cap d w hC hH hb hs hT=>?_) (fun w=>?_)
 .exact AnyQ.slices_SortFunc_total Tryz.Ar 2 Tryz.isAgg58 Tryz.sizeOf58 gN ER (fun x v hv=>by simp[gN]at hv;rcases hv with rfl|rfl<;>rfl) cf hO 106 #[] jE off cap d w eg hC hH hb hs hT
 .exact AnyF.slices_SortFunc_none Tryz.Ar none 0 _ w
end Go.Proofs.YtbladfbbhijpmaaGreat
end
