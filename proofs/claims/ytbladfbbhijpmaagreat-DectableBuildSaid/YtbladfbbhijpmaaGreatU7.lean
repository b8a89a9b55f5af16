/- Joined texts: SL. -/
import Derived.Test.YtbladfbbhijpmaaGreatU6
import Derived.Test.YtbladfbbhijpmaaGreatProg
open _root_.Bool renaming false->acR,true->acQ
open _root_.Option renaming none->acP
namespace Go.Proofs.YtbladfbbhijpmaaGreat
open Go Go.RowKit
set_option maxRecDepth 100000
set_option linter.unusedSimpArgs false
set_option linter.unusedVariables false
set_option linter.defProp false
section
open Go Go.RowKit Go.Shelf Go.Lib Go.Sort
theorem Bz{g:Int->Int->Int->Int->Option Int}(Sd:fH Tryz.prog 106 ⟨⟨[(0, .val acQ (.leaf kU)),(1, .val acQ (.leaf kU))],[],[],0⟩,⟨[(0, .val acR (.leaf ae))],[],[],0⟩,λ(x:kU.den×kU.den)=>g x.1.1 x.1.2 x.2.1 x.2.2⟩):
 fH Tryz.prog 105 ⟨⟨[(0, .val acR (.own 0)),(1, .fn 106 [])],[(0, .own 58 kU)],[],1⟩,⟨[],[(0, .own 58 kU)],[],2⟩,λx=>vI g x⟩:=by
 have eg:∀args w,(callFunc 106 args).run Tryz.prog w= .ok (.enter 106 args) w:=enters_of Tryz.func106 (by kernel_rfl) rfl;refine HA ⟨_,Tryz.func105,by kernel_rfl,by kernel_rfl⟩ Sd (λcf hO lA off cap d w hC hH hb hs hT=>?_) (λw=>?_)
 .exact AnyQ.slices_SortFunc_total Tryz.CW 2 Tryz.isAgg58 Tryz.sizeOf58 jK Hy (λx v hv=>by simp[jK]at hv;rcases hv with rfl|rfl<;>rfl) cf hO 106 #[] lA off cap d w eg hC hH hb hs hT
 .exact AnyF.slices_SortFunc_none Tryz.CW acP 0 _ w
end
end Go.Proofs.YtbladfbbhijpmaaGreat
