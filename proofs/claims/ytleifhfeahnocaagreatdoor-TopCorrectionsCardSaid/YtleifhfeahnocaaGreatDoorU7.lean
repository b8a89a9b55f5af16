/- Joined texts: LH. -/
import Derived.Test.YtleifhfeahnocaaGreatDoorU4
import Derived.Test.YtleifhfeahnocaaGreatDoorU6
open _root_.Bool renaming false->ag,true->af
open _root_.Option renaming none->ae,some->aa
open _root_.List.cons renaming injEq->aj3
open _root_.Nat renaming le_refl->ajh,le_trans->ajs,lt_of_lt_of_le->ajA
open _root_.Option.some renaming inj->aja
open _root_.Go.Value.slice renaming injEq->akn
namespace Go.Proofs.YtleifhfeahnocaaGreatDoor
open Go Go.RowKit
set_option maxRecDepth 100000
set_option linter.unusedSimpArgs false
set_option linter.unusedVariables false
set_option linter.defProp false
abbrev OY:Row:= .pair (.int .i64) (.pair (.int .i64) (.pair (.int .i64) (.int .i64)))
def Dr{F:Nat->Prop}{w:World}{A:Option Addr}{cap:Nat}{ps:List P4}(hF:∀b,F b->b<w.heap.size)(h:cI F w (.slice OY) [.slice A ps.length cap] ps):ps.length<=maxLen/\Posts w.heap.size w A ps:=by
 obtain⟨A',ED,e,h1,h2,h3⟩:=h;simp only[aj3,akn,and_true]at e;obtain⟨rfl,_,rfl⟩:=e;refine⟨by omega,λi hi=>?_⟩;obtain⟨b,off,es,rfl,hb,hl,hc,hr⟩:=h3 i hi;obtain⟨c1,c2,rfl,r1,c3,c4,rfl,r2,c5,c6,rfl,r3,r4⟩:=hr;have r1:c1=[.int .i64 ps[i].1]:=r1;have r2:c3=[.int .i64 ps[i].2.1]:=r2;have r3:c5=[.int .i64 ps[i].2.2.1]:=r3;have r4:c6=[.int .i64 ps[i].2.2.2]:=r4;subst r1 r2 r3 r4;exact⟨b,off,rfl,hF b hb,hc 0 _ rfl,hc 1 _ rfl,hc 2 _ rfl,hc 3 _ rfl⟩
def Dt{P:Program}{f:FuncId}{fn:List P4->Int->Int}(hb:∃fn,P.funcs[f]? =aa fn/\(fn.name== "runtime.NumGoroutine")=ag/\fn.body.isNone=ag)
 (hc:∀(A:Option Addr)(cap:Nat)(ps:List P4)(m:Int)(w:World),ps.length<=maxLen->Posts w.heap.size w A ps->Calls P f #[.slice A ps.length cap, .int .i64 m] w λe W'=>e= .returned (.int .i64 (fn ps m))/\Below w.heap.size w W'):
 fZ P f ⟨⟨[(0, .val ag (.leaf (.slice OY))),(1, .val ag (.leaf (.int .i64)))],[],[],0⟩,⟨[(0, .val ag (.leaf (.int .i64)))],[],[],0⟩,λx=>aa (fn x.1 x.2)⟩:=by
 refine⟨hb,λx y rU args w H F G hlen gY cJ fe hG=>?_⟩
 match args,hlen with
 |[u,v],_=>
 obtain⟨ps,m⟩:=x;have rU:aa (fn ps m)=aa y:=rU;obtain rfl:=aja rU;have hu:aV H F w ag (.leaf (.slice OY) ps) u:=gY 0 _ rfl;have hv:aV H F w ag (.leaf (.int .i64) m) v:=gY 1 _ rfl;obtain⟨cs,yV,_,h2⟩:=hu;obtain⟨rE,Lp,_,Kr⟩:=hv;have Lp:rE=[.int .i64 m]:=Lp
 have ev:v= .int .i64 m:=by have:=(Kr rfl).symm.trans Lp;simpa using this
 subst ev
 have hr:cI F w (.slice OY) [u] ps:=by rw[<-h2 rfl];exact yV
 obtain⟨A,cap,e,_⟩:=id hr
 obtain rfl:u= .slice A ps.length cap:=by simpa using e
 obtain⟨h3,h4⟩:=Dr cJ.lt hr
 refine(hc A cap ps m w h3 h4).mono λe w' ⟨he,hw⟩=>?_
 have bY:Ext G w w':=⟨hw.os,hw.tape,hw.output,hw.size,λk hk _=>hw.block k hk⟩
 have gD:Step F w F w':=λb hb=>⟨hb,hw.block b (cJ.lt b hb)⟩
 refine⟨[_],he,rfl,H,F,bY,aK.le.refl H,λ_ h=>h,λ_ h=> .inl h,λi d h=>?_,⟨λo s t h=>(by cases h),λo o' s s' t t' u u' _ h=>(by cases h),λm h1 h2=>fe m h1,λb hb=>ajA (cJ.lt b hb) hw.size,λb hb=> .inl (ajs hw.size hb),cJ.gl.step gD⟩,fe⟩;have h:find [(0,aI.val ag (.leaf (.int .i64) (fn ps m)))] i=aa d:=h;rw[aZ]at h;split at h
 .rename_i h0;subst h0;obtain rfl:=aja h;exact aV.mK rfl
 .cases h
noncomputable def QB(a0:List P4)(a1:Int×Int):Option Int:=if a1.1=0/\a1.2=109573 then aa (cashN a0 3)else ae
def OZ:fZ Tryz.prog 56 ⟨⟨[(0, .val ag (.leaf (.slice OY))),(1, .val af (.leaf (.pair (.int .i64) (.int .i64))))],[],[],0⟩,⟨[(0, .val ag (.leaf (.int .i64)))],[],[],0⟩,λx=>QB x.1 x.2⟩:=by
 refine⟨⟨_,Tryz.func56,by kernel_rfl,by kernel_rfl⟩,λx y rU args w H F G hlen gY cJ fe hG=>?_⟩
 match args,hlen with
 |[u,v],_=>
 obtain⟨ps,(a:Int),(b:Int)⟩:=x;have rU:(if a=0/\b=109573 then aa (cashN ps 3)else ae)=aa y:=rU;split at rU
 case isFalse=>cases rU
 rename_i TX;obtain⟨rfl,rfl⟩:=TX;obtain rfl:=aja rU;have hu:aV H F w ag (.leaf (.slice OY) ps) u:=gY 0 _ rfl;have hv:aV H F w af (.leaf (.pair (.int .i64) (.int .i64)) ((0:Int),(109573:Int))) v:=gY 1 _ rfl;obtain⟨cs,yV,_,h2⟩:=hu;obtain⟨rE,Lp,Aw,_⟩:=hv;obtain⟨c1,c2,rfl,r1,r2⟩:=Lp;have r1:c1=[.int .i64 0]:=r1;have r2:c2=[.int .i64 109573]:=r2;subst r1 r2;obtain rfl:v= .agg #[.int .i64 0, .int .i64 109573]:=Aw
 have hr:cI F w (.slice OY) [u] ps:=by rw[<-h2 rfl];exact yV
 obtain⟨A,cap,e,_⟩:=id hr
 obtain rfl:u= .slice A ps.length cap:=by simpa using e
 obtain⟨h3,h4⟩:=Dr cJ.lt hr
 refine(callsIn_wide.1 (cash_in Fence.wide 6 trivial trivial trivial trivial trivial trivial rfl (ajh 6) A cap ps w h3 h4)).mono λe w' ⟨he,hw⟩=>?_
 have bY:Ext G w w':=⟨hw.os,hw.tape,hw.output,hw.size,λk hk _=>hw.block k hk⟩
 have gD:Step F w F w':=λb hb=>⟨hb,hw.block b (cJ.lt b hb)⟩
 refine⟨[_],he,rfl,H,F,bY,aK.le.refl H,λ_ h=>h,λ_ h=> .inl h,λi d h=>?_,⟨λo s t h=>(by cases h),λo o' s s' t t' u u' _ h=>(by cases h),λm h1 h2=>fe m h1,λb hb=>ajA (cJ.lt b hb) hw.size,λb hb=> .inl (ajs hw.size hb),cJ.gl.step gD⟩,fe⟩;have h:find [(0,aI.val ag (.leaf (.int .i64) (cashN ps 3)))] i=aa d:=h;rw[aZ]at h;split at h
 .rename_i h0;subst h0;obtain rfl:=aja h;exact aV.mK rfl
 .cases h
def R5(a0:List P4)(a1:Int):Option Int:=aa (recN a1 a0 3)
def R6(a0:List P4)(a1:Int):Option Int:=aa (wavW a1 (ofK 4 a0))
def Du:fZ Tryz.prog 15 ⟨⟨[(0, .val ag (.leaf (.slice OY))),(1, .val ag (.leaf (.int .i64)))],[],[],0⟩,⟨[(0, .val ag (.leaf (.int .i64)))],[],[],0⟩,λx=>R5 x.1 x.2⟩:=
 Dt (fn:=λps m=>recN m ps 3) ⟨_,Tryz.func15,by kernel_rfl,by kernel_rfl⟩ λA cap ps m w h1 h2=>callsIn_wide.1 (received_in Fence.wide 6 trivial trivial trivial trivial rfl (ajh 6) A cap ps m w h1 h2)
def Jw:fZ Tryz.prog 61 ⟨⟨[(0, .val ag (.leaf (.slice OY))),(1, .val ag (.leaf (.int .i64)))],[],[],0⟩,⟨[(0, .val ag (.leaf (.int .i64)))],[],[],0⟩,λx=>R6 x.1 x.2⟩:=
 Dt (fn:=λps m=>wavW m (ofK 4 ps)) ⟨_,Tryz.func61,by kernel_rfl,by kernel_rfl⟩ λA cap ps m w h1 h2=>callsIn_wide.1 (waived_in Fence.wide 6 trivial trivial trivial rfl (ajh 6) A cap ps m w h1 h2)
end Go.Proofs.YtleifhfeahnocaaGreatDoor
