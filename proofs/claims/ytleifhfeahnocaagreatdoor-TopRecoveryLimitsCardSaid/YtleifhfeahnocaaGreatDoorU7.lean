/- Joined texts: LH. -/
import Derived.Test.YtleifhfeahnocaaGreatDoorU4
import Derived.Test.YtleifhfeahnocaaGreatDoorU6
open _root_.Bool renaming false->ag,true->af
open _root_.Option renaming none->ae,some->aa
open _root_.List.cons renaming injEq->ajw
open _root_.Nat renaming le_refl->aiM,le_trans->aiY,lt_of_lt_of_le->ai4
open _root_.Option.some renaming inj->aiF
open _root_.Go.Value.slice renaming injEq->ajS
namespace Go.Proofs.YtleifhfeahnocaaGreatDoor
open Go Go.RowKit
set_option maxRecDepth 100000
set_option linter.unusedSimpArgs false
set_option linter.unusedVariables false
set_option linter.defProp false
abbrev OG:Row:= .pair (.int .i64) (.pair (.int .i64) (.pair (.int .i64) (.int .i64)))
def Da{F:Nat->Prop}{w:World}{A:Option Addr}{cap:Nat}{ps:List P4}(hF:∀b,F b->b<w.heap.size)(h:cG F w (.slice OG) [.slice A ps.length cap] ps):ps.length<=maxLen/\Posts w.heap.size w A ps:=by
 obtain⟨A',Ei,e,h1,h2,h3⟩:=h;simp only[ajw,ajS,and_true]at e;obtain⟨rfl,_,rfl⟩:=e;refine⟨by omega,λi hi=>?_⟩;obtain⟨b,off,es,rfl,hb,hl,hc,hr⟩:=h3 i hi;obtain⟨c1,c2,rfl,r1,c3,c4,rfl,r2,c5,c6,rfl,r3,r4⟩:=hr;have r1:c1=[.int .i64 ps[i].1]:=r1;have r2:c3=[.int .i64 ps[i].2.1]:=r2;have r3:c5=[.int .i64 ps[i].2.2.1]:=r3;have r4:c6=[.int .i64 ps[i].2.2.2]:=r4;subst r1 r2 r3 r4;exact⟨b,off,rfl,hF b hb,hc 0 _ rfl,hc 1 _ rfl,hc 2 _ rfl,hc 3 _ rfl⟩
def Db{P:Program}{f:FuncId}{fn:List P4->Int->Int}(hb:∃fn,P.funcs[f]? =aa fn/\(fn.name== "runtime.NumGoroutine")=ag/\fn.body.isNone=ag)
 (hc:∀(A:Option Addr)(cap:Nat)(ps:List P4)(m:Int)(w:World),ps.length<=maxLen->Posts w.heap.size w A ps->Calls P f #[.slice A ps.length cap, .int .i64 m] w λe W'=>e= .returned (.int .i64 (fn ps m))/\Below w.heap.size w W'):
 fN P f ⟨⟨[(0, .val ag (.leaf (.slice OG))),(1, .val ag (.leaf (.int .i64)))],[],[],0⟩,⟨[(0, .val ag (.leaf (.int .i64)))],[],[],0⟩,λx=>aa (fn x.1 x.2)⟩:=by
 refine⟨hb,λx y rC args w H F G hlen gN cH eV hG=>?_⟩
 match args,hlen with
 |[u,v],_=>
 obtain⟨ps,m⟩:=x;have rC:aa (fn ps m)=aa y:=rC;obtain rfl:=aiF rC;have hu:aW H F w ag (.leaf (.slice OG) ps) u:=gN 0 _ rfl;have hv:aW H F w ag (.leaf (.int .i64) m) v:=gN 1 _ rfl;obtain⟨cs,yB,_,h2⟩:=hu;obtain⟨ra,K6,_,J6⟩:=hv;have K6:ra=[.int .i64 m]:=K6
 have ev:v= .int .i64 m:=by have:=(J6 rfl).symm.trans K6;simpa using this
 subst ev
 have hr:cG F w (.slice OG) [u] ps:=by rw[<-h2 rfl];exact yB
 obtain⟨A,cap,e,_⟩:=id hr
 obtain rfl:u= .slice A ps.length cap:=by simpa using e
 obtain⟨h3,h4⟩:=Da cH.lt hr
 refine(hc A cap ps m w h3 h4).mono λe w' ⟨he,hw⟩=>?_
 have bW:Ext G w w':=⟨hw.os,hw.tape,hw.output,hw.size,λk hk _=>hw.block k hk⟩
 have gq:Step F w F w':=λb hb=>⟨hb,hw.block b (cH.lt b hb)⟩
 refine⟨[_],he,rfl,H,F,bW,aK.le.refl H,λ_ h=>h,λ_ h=> .inl h,λi d h=>?_,⟨λo s t h=>(by cases h),λo o' s s' t t' u u' _ h=>(by cases h),λm h1 h2=>eV m h1,λb hb=>ai4 (cH.lt b hb) hw.size,λb hb=> .inl (aiY hw.size hb),cH.gl.step gq⟩,eV⟩;have h:find [(0,aI.val ag (.leaf (.int .i64) (fn ps m)))] i=aa d:=h;rw[ba]at h;split at h
 .rename_i h0;subst h0;obtain rfl:=aiF h;exact aW.mD rfl
 .cases h
noncomputable def Qb(a0:List P4)(a1:Int×Int):Option Int:=if a1.1=0/\a1.2=109573 then aa (cashN a0 3)else ae
def OH:fN Tryz.prog 56 ⟨⟨[(0, .val ag (.leaf (.slice OG))),(1, .val af (.leaf (.pair (.int .i64) (.int .i64))))],[],[],0⟩,⟨[(0, .val ag (.leaf (.int .i64)))],[],[],0⟩,λx=>Qb x.1 x.2⟩:=by
 refine⟨⟨_,Tryz.func56,by kernel_rfl,by kernel_rfl⟩,λx y rC args w H F G hlen gN cH eV hG=>?_⟩
 match args,hlen with
 |[u,v],_=>
 obtain⟨ps,(a:Int),(b:Int)⟩:=x;have rC:(if a=0/\b=109573 then aa (cashN ps 3)else ae)=aa y:=rC;split at rC
 case isFalse=>cases rC
 rename_i Tu;obtain⟨rfl,rfl⟩:=Tu;obtain rfl:=aiF rC;have hu:aW H F w ag (.leaf (.slice OG) ps) u:=gN 0 _ rfl;have hv:aW H F w af (.leaf (.pair (.int .i64) (.int .i64)) ((0:Int),(109573:Int))) v:=gN 1 _ rfl;obtain⟨cs,yB,_,h2⟩:=hu;obtain⟨ra,K6,Aa,_⟩:=hv;obtain⟨c1,c2,rfl,r1,r2⟩:=K6;have r1:c1=[.int .i64 0]:=r1;have r2:c2=[.int .i64 109573]:=r2;subst r1 r2;obtain rfl:v= .agg #[.int .i64 0, .int .i64 109573]:=Aa
 have hr:cG F w (.slice OG) [u] ps:=by rw[<-h2 rfl];exact yB
 obtain⟨A,cap,e,_⟩:=id hr
 obtain rfl:u= .slice A ps.length cap:=by simpa using e
 obtain⟨h3,h4⟩:=Da cH.lt hr
 refine(callsIn_wide.1 (cash_in Fence.wide 6 trivial trivial trivial trivial trivial trivial rfl (aiM 6) A cap ps w h3 h4)).mono λe w' ⟨he,hw⟩=>?_
 have bW:Ext G w w':=⟨hw.os,hw.tape,hw.output,hw.size,λk hk _=>hw.block k hk⟩
 have gq:Step F w F w':=λb hb=>⟨hb,hw.block b (cH.lt b hb)⟩
 refine⟨[_],he,rfl,H,F,bW,aK.le.refl H,λ_ h=>h,λ_ h=> .inl h,λi d h=>?_,⟨λo s t h=>(by cases h),λo o' s s' t t' u u' _ h=>(by cases h),λm h1 h2=>eV m h1,λb hb=>ai4 (cH.lt b hb) hw.size,λb hb=> .inl (aiY hw.size hb),cH.gl.step gq⟩,eV⟩;have h:find [(0,aI.val ag (.leaf (.int .i64) (cashN ps 3)))] i=aa d:=h;rw[ba]at h;split at h
 .rename_i h0;subst h0;obtain rfl:=aiF h;exact aW.mD rfl
 .cases h
def RG(a0:List P4)(a1:Int):Option Int:=aa (recN a1 a0 3)
def RH(a0:List P4)(a1:Int):Option Int:=aa (wavW a1 (ofK 4 a0))
def Dc:fN Tryz.prog 15 ⟨⟨[(0, .val ag (.leaf (.slice OG))),(1, .val ag (.leaf (.int .i64)))],[],[],0⟩,⟨[(0, .val ag (.leaf (.int .i64)))],[],[],0⟩,λx=>RG x.1 x.2⟩:=
 Db (fn:=λps m=>recN m ps 3) ⟨_,Tryz.func15,by kernel_rfl,by kernel_rfl⟩ λA cap ps m w h1 h2=>callsIn_wide.1 (received_in Fence.wide 6 trivial trivial trivial trivial rfl (aiM 6) A cap ps m w h1 h2)
def Jg:fN Tryz.prog 61 ⟨⟨[(0, .val ag (.leaf (.slice OG))),(1, .val ag (.leaf (.int .i64)))],[],[],0⟩,⟨[(0, .val ag (.leaf (.int .i64)))],[],[],0⟩,λx=>RH x.1 x.2⟩:=
 Db (fn:=λps m=>wavW m (ofK 4 ps)) ⟨_,Tryz.func61,by kernel_rfl,by kernel_rfl⟩ λA cap ps m w h1 h2=>callsIn_wide.1 (waived_in Fence.wide 6 trivial trivial trivial rfl (aiM 6) A cap ps m w h1 h2)
end Go.Proofs.YtleifhfeahnocaaGreatDoor
