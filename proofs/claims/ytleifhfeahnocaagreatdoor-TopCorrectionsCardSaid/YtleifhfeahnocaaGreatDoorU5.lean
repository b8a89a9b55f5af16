/- Joined texts: Shelf. -/
import Derived.Test.YtleifhfeahnocaaGreatDoorU4
import Derived.Sort.Grow
import Derived.Lib.SlicesCompact
import Derived.Lib.Bytealg
set_option linter.defProp false
open _root_.Bool renaming false->ag,true->af
open _root_.Option renaming none->ae,some->aa
open _root_.Array renaming getElem?_eq_some_iff->ajF
open _root_.Go.Lib renaming compact->ajN,indexByte->aks
open _root_.Go.Sort renaming ahead->aki,grow->akz,mapBlock->akS,putCells->akK,putRow->akb
open _root_.List.cons renaming injEq->aj3
open _root_.List renaming drop_eq_getElem_cons->ajx,getElem?_drop->aj9,getElem?_take->ake,replicate->aji,take_length->ajn
open _root_.Nat renaming beq->ajf,le_refl->ajh,le_trans->ajs,lt_of_lt_of_le->ajA,min_eq_left->akp,zero_le->ajB
open _root_.Option.some renaming inj->aja
open _root_.Go.Value renaming int->ajV,ownBlock->ajo
namespace Go.Proofs.YtleifhfeahnocaaGreatDoor
open Go Go.RowKit
set_option maxRecDepth 100000
set_option linter.unusedSimpArgs false
set_option linter.unusedVariables false
set_option linter.defProp false
section
def ll(l:List Int):List Int:=l.mergeSort λx y=>decide (x<=y)
section
variable {P:Program} {w w':World} {F:Nat->Prop} {T:TypeId}
def Dj(w:World):akz w #[]=w:=by
 unfold akz;rw[Array.append_empty]
def Bm{g off:Nat}{d:Array Int}{n:Nat}{os:Array Obj}(h:w'=akz (akb (ajV .i64) (aki w n) g off d) os):Ext (λk=>k=g) w w':=by
 subst h;refine⟨rfl,rfl,rfl,?_,λk hk hn=>?_⟩
 .simp[akz,akb,akS,aki]
 .simp only[akz];rw[Array.getElem?_append_left (by simpa[akb,akS,aki]using hk)];simp only[akb,akS,aki,Array.getElem?_modify];rw[ai (λe=>hn e.symm)]
def OT{g off:Nat}{d:Array Int}{n:Nat}{os:Array Obj}(h:w'=akz (akb (ajV .i64) (aki w n) g off d) os){cur:Array Value}(hg:w.heap[g]? =aa (.cells cur T (0,0))):
 w'.heap[g]? =aa (.cells (akK (ajV .i64) off d cur) T (0,0)):=by
 subst h;have aG:g<w.heap.size:=(ajF.1 hg).1;simp only[akz];rw[Array.getElem?_append_left (by simpa[akb,akS,aki]using aG)];simp only[akb,akS,aki,Array.getElem?_modify];rw[aj trivial,hg];rfl
def FE{l:List Int}{xs:List Value}(hx:xs.length=l.length*1)(h:∀i(hi:i<l.length),cI F w aB ((xs.drop (i*1)).take 1) l[i]):xs=l.map (ajV .i64):=by
 apply List.ext_getElem (by simpa using hx);intro i h1 h2
 have hi:i<l.length:=by simpa using h2
 have:(xs.drop (i*1)).take 1=[ajV .i64 l[i]]:=h i hi;rw[Nat.mul_one,ajx h1,List.take_succ_cons,List.take_zero]at this;simpa only[List.getElem_map,aj3,and_true]using this
def Jt{off:Nat}{d:Array Int}{cur:Array Value}(h:off+d.size<=cur.size):((akK (ajV .i64) off d cur).toList.drop off).take d.size=d.toList.map (ajV .i64):=by
 apply List.ext_getElem (by simp[akK];omega);intro i h1 h2
 have hi:i<d.size:=by simpa using h2
 rw[List.getElem_take,List.getElem_drop,List.getElem_map,Array.getElem_toList,Array.getElem_toList];simp only[akK,Array.getElem_mapIdx];rw[aj ⟨by omega,by omega⟩,show off+i-off=i by omega,getElem!_pos d i hi]
def uy{v:Value}{l:List Int}(h:Own 0 F w T aB v l):(v= .slice ae 0 0/\l=[])\/∃g o0 cap cur,v= .slice (aa ⟨g,o0,ae⟩) l.length cap/\w.heap[g]? =aa (.cells cur T (0,0))/\l.length<=cap/\cap<=maxLen/\o0+cap<=cur.size/\Go.Sort.Holds (ajV .i64) w g o0 l.toArray:=by
 obtain⟨_,xs,⟨hx,h2⟩,h3⟩:=h;have e:=FE hx h3
 rcases h2 with⟨rfl,h0⟩|⟨g,o0,cap,cur,rfl,_,hg,h4,h5,h6,h7⟩
 .exact .inl ⟨rfl,List.eq_nil_of_length_eq_zero h0⟩
 .refine .inr ⟨g,o0,cap,cur,rfl,hg,h4,h5,by simpa[Row.size]using h6,λj hj=>⟨?_,frozen_of_row w g _ cur T hg⟩⟩
  have hj:j<l.length:=by simpa using hj
  rw[cell_of_row w g _ cur T (0,0) hg]
  have:xs[j]? =aa (ajV .i64 l[j]):=by rw[e];simp[hj]
  rw[<-h7,ake]at this;split at this
  .rw[aj9]at this;rw[getElem!_pos l.toArray j (by simpa using hj)];simpa using this
  .cases this
def xg{g o0 cap:Nat}{l d:List Int}{cur:Array Value}{n:Nat}{os:Array Obj}(h:Own 0 F w T aB (.slice (aa ⟨g,o0,ae⟩) l.length cap) l)(hg:w.heap[g]? =aa (.cells cur T (0,0)))(hs:o0+cap<=cur.size)(hc:cap<=maxLen)
 (hl:d.length<=cap)(m:Nat)(hm:m<=d.length)(hw:w'=akz (akb (ajV .i64) (aki w n) g o0 d.toArray) os):Own 0 F w' T aB (.slice (aa ⟨g,o0,ae⟩) m cap) (d.take m):=by
 have RS:=OT hw hg;have hp:=Jt (off:=o0) (d:=d.toArray) (cur:=cur) (by simp;omega);refine⟨λk hk=>h.no k (by simpa[bH,ajo]using hk),(d.take m).map (ajV .i64),⟨by simp[Row.size], .inr ⟨g,o0,cap,_,by simp[akp hm],ajB _,RS,by simp;omega,hc,by simp[akK,Row.size];omega,?_⟩⟩,λi hi=>?_⟩
 .have:((akK (ajV .i64) o0 d.toArray cur).toList.drop o0).take m=(d.take m).map (ajV .i64):=by
   rw[show m=min m d.toArray.size by simp[akp hm],<-List.take_take,hp,List.map_take];simp[akp hm]
  simpa[Row.size,akp hm]using this
 .have qS:i<d.length:=by simp at hi;omega
  show((List.map (ajV .i64) (d.take m)).drop (i*1)).take 1=[ajV .i64 (d.take m)[i]]
  rw[Nat.mul_one,ajx (by simpa using hi)];simp
def qs(d:Array Int):∀m,(Go.Lib.compactUpTo d m).length<=m
 |0=>by simp[Go.Lib.compactUpTo]
 |m+1=>by
  have:=qs d m;rw[Go.Lib.compactUpTo_succ,List.length_append]
  split<;>simp<;>omega
theorem xh(l:List Int):(ajN l).length<=l.length:=qs _ _
def nN{α:Type}{k o:Nat}{x:α}(h:o≠k):find [(k,x)] o=ae:=by
 have:ajf k o=ag:=by
  cases hb:ajf k o with
  |false=>rfl
  |true=>exact absurd (Nat.eq_of_beq_eq_true hb).symm h
 simp[find,this]
def FF{f:FuncId}{r:Row}{fn:List r.den->Option (List r.den)}(hb:∃fn,P.funcs[f]? =aa fn/\(fn.name== "runtime.NumGoroutine")=ag/\fn.body.isNone=ag)
 (hr:r.beq r=af)
 (hc:∀{F:Nat->Prop}{w:World}{v:Value}{l m:List r.den},fn l=aa m->Own 0 F w T r v l->(∀b,F b->b<w.heap.size)->Calls P f #[v] w λe w'=>e= .returned (.tuple #[])/\Ext (bH v) w w'/\Own 0 F w' T r v m):
 fZ P f ⟨⟨[(0, .val ag (.own 0))],[(0, .own T r)],[],1⟩,⟨[],[(0, .own T r)],[],2⟩,fn⟩:=by
 refine⟨hb,λx y rU args w H F G hlen gY cJ fe hG=>?_⟩;have fe:jr H 1:=fe
 match args,hlen with
 |[v],_=>
 have hx:(iV 0 [(0,OS.own T r)] (dg [(0,SS.val ag (.own 0))] (dJ [.slice r] x)).2)=[(0,(0, .own T r x))]:=by
  show[(0,(0,(cE (.own T r) [⟨.slice r,x⟩]).1))]=_
  simp only[cE,hr,cond_true]
 have hy:(iV 1 [(0,OS.own T r)] (dg [] (dJ [.slice r] y)).2)=[(0,(1, .own T r y))]:=by
  show[(0,(1,(cE (.own T r) [⟨.slice r,y⟩]).1))]=_
  simp only[cE,hr,cond_true]
 have cJ:aL (λk=>w.heap.size<=k\/G k) H F w (find [(0,(0,Th.own T r x))]) 1:=by rw[<-hx];exact cJ
 have hd:aH H F w (.val ag (.own 0)) v:=gY 0 _ rfl;obtain⟨cs,⟨v',hv,h1,rfl⟩,_,rT⟩:=hd
 obtain rfl:v'=v:=by have:=rT rfl;simpa using this
 have eh:=cJ.own rfl hv;obtain⟨v2,sJ,cT⟩:=cJ.obj 0 0 _ rfl;rw[hv]at sJ;obtain rfl:=aja sJ
 refine(hc rU eh cJ.lt).mono λe w' ⟨he,bY,hZ⟩=>⟨[],he,rfl,H.bU 1 (.own T r y),F,⟨bY.os,bY.tape,bY.output,bY.size,λk hk hn=>bY.block k hk λhm=>?_⟩,aK.gN (fe 1 (ajh _)).2,λb h=>h,λb h=> .inl h,λt d h=>?_,?_,?_⟩
 .rcases cT.use k hm with h|h
  .omega
  .exact hn h
 .cases h
 .show aL _ _ F w' (find (iV 1 [(0,OS.own T r)] (dg [] (dJ [.slice r] y)).2)) 2
  rw[hy];refine⟨λo s t ho=>?_,λo o' s s' t t' u u' dw ho jY=>?_,λm h1 h2=>⟨(fe m (by have:2<=m:=h1;omega)).1,?_⟩,λb hb=>ajA (cJ.lt b hb) bY.size,λb hb=> .inl (ajs bY.size hb),cJ.gl.step (Step.ext bY cJ.lt eh.no)⟩
  .obtain⟨rfl,h⟩:o=0/\(1,Th.own T r y)=(s,t):=by
    by_cases h0:o=0
    .subst h0;exact⟨rfl,aja ho⟩
    .exfalso;have:find [(0,(1,Th.own T r y))] o=ae:=nN h0;rw[this]at ho;cases ho
   cases h;refine⟨v',hv,h1,by simp[aK.bU,Th.base],Own.to _ hZ,hZ.no,hZ.lt,λk hk=>?_⟩;exact cT.use k hk
  .have key:∀o x,find [(0,(1,Th.own T r y))] o=aa x->o=0:=λo x h=>by
    by_cases h0:o=0
    .exact h0
    .have:find [(0,(1,Th.own T r y))] o=ae:=nN h0;rw[this]at h;cases h
   exact absurd ((key o _ ho).trans (key o' _ jY).symm) dw
  .have h1:2<=m:=h1
   show(if m=1 then _ else H.con m)=ae
   rw[ai (by omega)];exact(fe m (by omega)).2
 .intro m hm;have hm:2<=m:=hm;refine⟨(fe m (by omega)).1,?_⟩
  show(if m=1 then _ else H.con m)=ae
  rw[ai (by omega)];exact(fe m (by omega)).2
def Ju{f:FuncId}{r:Row}{fn:List r.den->Option (List r.den)}(hb:∃fn,P.funcs[f]? =aa fn/\(fn.name== "runtime.NumGoroutine")=ag/\fn.body.isNone=ag)
 (hr:r.beq r=af)
 (hc:∀{F:Nat->Prop}{w:World}{v:Value}{l m:List r.den},fn l=aa m->Own 0 F w T r v l->(∀b,F b->b<w.heap.size)->Calls P f #[v] w λe w'=>∃v',e= .returned v'/\Ext (bH v) w w'/\Own 0 F w' T r v' m/\∀k,bH v' k->bH v k):
 fZ P f ⟨⟨[(0, .val ag (.own 0))],[(0, .own T r)],[],1⟩,⟨[(0, .val ag (.own 1))],[(1, .own T r)],[],2⟩,fn⟩:=by
 refine⟨hb,λx y rU args w H F G hlen gY cJ fe hG=>?_⟩;have fe:jr H 1:=fe
 match args,hlen with
 |[v],_=>
 have hx:(iV 0 [(0,OS.own T r)] (dg [(0,SS.val ag (.own 0))] (dJ [.slice r] x)).2)=[(0,(0, .own T r x))]:=by
  show[(0,(0,(cE (.own T r) [⟨.slice r,x⟩]).1))]=_
  simp only[cE,hr,cond_true]
 have hy:(iV 1 [(1,OS.own T r)] (dg [(0,SS.val ag (.own 1))] (dJ [.slice r] y)).2)=[(1,(1, .own T r y))]:=by
  show[(1,(1,(cE (.own T r) [⟨.slice r,y⟩]).1))]=_
  simp only[cE,hr,cond_true]
 have cJ:aL (λk=>w.heap.size<=k\/G k) H F w (find [(0,(0,Th.own T r x))]) 1:=by rw[<-hx];exact cJ
 have hd:aH H F w (.val ag (.own 0)) v:=gY 0 _ rfl;obtain⟨cs,⟨v',hv,h1,rfl⟩,_,rT⟩:=hd
 obtain rfl:v'=v:=by have:=rT rfl;simpa using this
 have eh:=cJ.own rfl hv;obtain⟨v2,sJ,cT⟩:=cJ.obj 0 0 _ rfl;rw[hv]at sJ;obtain rfl:=aja sJ;have yf:=fe 1 (ajh _)
 refine(hc rU eh cJ.lt).mono λe w' ⟨v3,he,bY,hZ,CF⟩=>?_
 have Ui:v3.oneCell'=af:=(l5.one hZ.2)
 have hle:H.le ((H.bU 1 (.own T r y)).cF 1 v3):=⟨λo u h=>by
  show(if o=1 then aa v3 else H.val o)=aa u
  rw[ai (λe=>by rw[e,yf.1]at h;cases h)]
  exact h,(aK.gN (t:= .own T r y) yf.2).con,(aK.gN (t:= .own T r y) yf.2).sub⟩
 refine⟨[v3],he,rfl,(H.bU 1 (.own T r y)).cF 1 v3,F,⟨bY.os,bY.tape,bY.output,bY.size,λk hk hn=>bY.block k hk λhm=>?_⟩,hle,λb h=>h,λb h=> .inl h,λt d h=>?_,?_,?_⟩
 .rcases cT.use k hm with h|h
  .omega
  .exact hn h
 .have ht:t=0/\d= .val ag (.own 1):=by
   have h:find [(0,aI.val ag (.own 1))] t=aa d:=h;by_cases h0:t=0
   .subst h0;exact⟨rfl,(aja h).symm⟩
   .have e:find [(0,aI.val ag (.own 1))] t=ae:=nN h0;rw[e]at h;cases h
  obtain⟨rfl,rfl⟩:=ht;exact⟨[v3],⟨v3,by simp[aK.cF],Ui,rfl⟩,rfl,λ_=>rfl⟩
 .show aL _ _ F w' (find (iV 1 [(1,OS.own T r)] (dg [(0,SS.val ag (.own 1))] (dJ [.slice r] y)).2)) 2
  rw[hy]
  have key:∀o x,find [(1,(1,Th.own T r y))] o=aa x->o=1/\x=(1,Th.own T r y):=λo x h=>by
   by_cases h0:o=1
   .subst h0;exact⟨rfl,(aja h).symm⟩
   .have:find [(1,(1,Th.own T r y))] o=ae:=nN h0;rw[this]at h;cases h
  refine⟨λo s t ho=>?_,λo o' s s' t t' u u' dw ho jY=>?_,λm h1 h2=>⟨?_,?_⟩,λb hb=>ajA (cJ.lt b hb) bY.size,λb hb=> .inl (ajs bY.size hb),cJ.gl.step (Step.ext bY cJ.lt eh.no)⟩
  .obtain⟨rfl,h⟩:=key o _ ho;cases h;exact⟨v3,by simp[aK.cF],Ui,by simp[aK.bU,aK.cF,Th.base],Own.to _ hZ,hZ.no,hZ.lt,λk hk=>cT.use k (CF k hk)⟩
  .exact absurd ((key o _ ho).1.trans (key o' _ jY).1.symm) dw
  .have h1:2<=m:=h1
   show(if m=1 then _ else H.val m)=ae
   rw[ai (by omega)];exact(fe m (by omega)).1
  .have h1:2<=m:=h1
   show(if m=1 then _ else H.con m)=ae
   rw[ai (by omega)];exact(fe m (by omega)).2
 .intro m hm;have hm:2<=m:=hm;refine⟨?_,?_⟩
  .show(if m=1 then _ else H.val m)=ae
   rw[ai (by omega)];exact(fe m (by omega)).1
  .show(if m=1 then _ else H.con m)=ae
   rw[ai (by omega)];exact(fe m (by omega)).2
def zG(l:List Int):Option (List Int):=if l.length<4611686018427387904 then aa (ll l)else ae
def OU{f:FuncId}(hb:∃fn,P.funcs[f]? =aa fn/\(fn.name== "runtime.NumGoroutine")=ag/\fn.body.isNone=ag)
 (h1:∀(nG off cap:Nat)(zs:List Int)(w:World),Go.Sort.Holds (ajV .i64) w nG off zs.toArray->nG<w.heap.size->zs.length<4611686018427387904->
   Calls P f #[.slice (aa ⟨nG,off,ae⟩) zs.length cap] w λe w'=>e= .returned (.tuple #[])/\∃n os,w'=akz (akb (ajV .i64) (aki w n) nG off (zs.mergeSort λx y=>decide (x<=y)).toArray) os)
 (h2:∀(p:Option Addr)(cap:Nat)(w:World),Calls P f #[.slice p 0 cap] w λe w'=>e= .returned (.tuple #[])/\w'=w):
 fZ P f ⟨⟨[(0, .val ag (.own 0))],[(0, .own T aB)],[],1⟩,⟨[],[(0, .own T aB)],[],2⟩,λx=>zG x⟩:=by
 refine FF (r:=aB) hb rfl λ{F w v l m}hm ho hF=>?_
 have hm:zG l=aa m:=hm;unfold zG at hm;split at hm
 case isFalse=>cases hm
 rename_i hlen;obtain rfl:=aja hm
 rcases uy ho with⟨rfl,rfl⟩|⟨g,o0,cap,cur,rfl,hg,vA,NL,kS,hh⟩
 .refine(h2 ae 0 w).mono λe w' ⟨he,hw⟩=>⟨he,hw▸⟨rfl,rfl,rfl,ajh _,λ_ _ _=>rfl⟩,hw▸?_⟩
  simpa[ll]using ho
 .refine(h1 g o0 cap l w hh (ajF.1 hg).1 hlen).mono λe w' ⟨he,n,os,hw⟩=>⟨he,?_,?_⟩
  .have:=Bm hw;exact⟨this.os,this.tape,this.output,this.size,λk hk hn=>this.block k hk λe=>hn (by simp[bH,ajo,e])⟩
  .have hl:(ll l).length=l.length:=List.length_mergeSort ..;have:=xg (d:=ll l) ho hg kS NL (by omega) (ll l).length (ajh _) hw;rw[ajn,hl]at this;exact this
def pb(l:List Int):Option (List Int):=if l.length<=9223372036854775807 then aa (ajN l)else ae
def FH{f:FuncId}(hb:∃fn,P.funcs[f]? =aa fn/\(fn.name== "runtime.NumGoroutine")=ag/\fn.body.isNone=ag)
 (h1:∀(nG off cap:Nat)(zs:List Int)(w:World),Go.Sort.Holds (ajV .i64) w nG off zs.toArray->zs.length<=9223372036854775807->zs.length<=cap->
   Calls P f #[.slice (aa ⟨nG,off,ae⟩) zs.length cap] w λe w'=>e= .returned (.slice (aa ⟨nG,off,ae⟩) (ajN zs).length cap)/\∃q,w'=akb (ajV .i64) (aki w q) nG off (ajN zs++aji (zs.length-(ajN zs).length) 0).toArray)
 (h2:∀(p:Option Addr)(cap:Nat)(w:World),Calls P f #[.slice p 0 cap] w λe w'=>e= .returned (.slice p 0 cap)/\w'=w):
 fZ P f ⟨⟨[(0, .val ag (.own 0))],[(0, .own T aB)],[],1⟩,⟨[(0, .val ag (.own 1))],[(1, .own T aB)],[],2⟩,λx=>pb x⟩:=by
 refine Ju (r:=aB) hb rfl λ{F w v l m}hm ho hF=>?_
 have hm:pb l=aa m:=hm;unfold pb at hm;split at hm
 case isFalse=>cases hm
 rename_i hlen;obtain rfl:=aja hm
 rcases uy ho with⟨rfl,rfl⟩|⟨g,o0,cap,cur,rfl,hg,vA,NL,kS,hh⟩
 .refine(h2 ae 0 w).mono λe w' ⟨he,hw⟩=>⟨_,he,hw▸⟨rfl,rfl,rfl,ajh _,λ_ _ _=>rfl⟩,hw▸?_,λk hk=>hk⟩
  exact ho
 .have Qd:(ajN l).length<=l.length:=xh l
  refine(h1 g o0 cap l w hh hlen vA).mono λe w' ⟨he,n,hw⟩=>⟨_,he,?_,?_,λk hk=>by simpa[bH,ajo]using hk⟩
  all_goals have hw:w'=akz (akb (ajV .i64) (aki w n) g o0 (ajN l++aji (l.length-(ajN l).length) 0).toArray) #[]:=by rw[hw,Dj]
  .have:=Bm hw;exact⟨this.os,this.tape,this.output,this.size,λk hk hn=>this.block k hk λe=>hn (by simp[bH,ajo,e])⟩
  .have:=xg (d:=ajN l++aji (l.length-(ajN l).length) 0) ho hg kS NL (by simp;omega) (ajN l).length (by simp) hw;rw[List.take_left]at this;exact this
def rm(x:ByteArray×ByteArray):Option Bool:=if x.2.size=1 then aa (decide (0<=aks x.1.data.toList (x.2.data.getD 0 0)))else ae
def Dk{f:FuncId}(hb:∃fn,P.funcs[f]? =aa fn/\(fn.name== "runtime.NumGoroutine")=ag/\fn.body.isNone=ag)
 (h1:∀(s:ByteArray)(c:UInt8)(w:World),Calls P f #[.string s, .string ⟨#[c]⟩] w λe w'=>e= .returned (.bool (decide (0<=aks s.data.toList c)))/\w'=w):
 fZ P f ⟨⟨[(0, .val ag (.leaf .str)),(1, .val ag (.leaf .str))],[],[],0⟩,⟨[(0, .val ag (.leaf .bool))],[],[],0⟩,λx=>rm x⟩:=by
 refine⟨hb,λx y rU args w H F G hlen gY cJ fe hG=>?_⟩
 match args,hlen with
 |[u,v],_=>
 obtain⟨s,t⟩:=x;have rU:rm (s,t)=aa y:=rU;unfold rm at rU;split at rU
 case isFalse=>cases rU
 rename_i kS;obtain rfl:=aja rU;have hu:aV H F w ag (.leaf .str s) u:=gY 0 _ rfl;have hv:aV H F w ag (.leaf .str t) v:=gY 1 _ rfl;obtain⟨cs,hc,_,h2⟩:=hu;obtain⟨rE,Lp,_,Kr⟩:=hv;have hc:cs=[.string s]:=hc;have Lp:rE=[.string t]:=Lp
 have eu:u= .string s:=by have:=(h2 rfl).symm.trans hc;simpa using this
 have ev:v= .string t:=by have:=(Kr rfl).symm.trans Lp;simpa using this
 subst eu ev
 obtain⟨⟨⟨l⟩⟩,ht⟩:∃t':ByteArray,t'=t:=⟨t,rfl⟩
 match l,ht with
 |[c],ht=>
  subst ht
  refine(h1 s c w).mono λe w' ⟨he,hw⟩=>?_
  subst hw;refine⟨[_],he,rfl,H,F,⟨rfl,rfl,rfl,ajh _,λ_ _ _=>rfl⟩,aK.le.refl H,λ_ h=>h,λ_ h=> .inl h,λi d h=>?_,?_,fe⟩
  .have hd:i=0/\d= .val ag (.leaf .bool (decide (0<=aks s.data.toList c))):=by
    have h:find [(0,aI.val ag (.leaf .bool (decide (0<=aks s.data.toList c))))] i=aa d:=h;by_cases h0:i=0
    .subst h0;exact⟨rfl,(aja h).symm⟩
    .rw[nN h0]at h;cases h
   obtain⟨rfl,rfl⟩:=hd;exact aV.mK rfl
  .exact cJ
 |[],ht=>subst ht;cases kS
 |_::_::_,ht=>subst ht;simp[ByteArray.size]at kS
end
end
end Go.Proofs.YtleifhfeahnocaaGreatDoor
