/- Joined texts: Shelf. -/
import Derived.Test.YtfeahmiobbjklaaGreatDoorU4
import Derived.Sort.Grow
import Derived.Lib.SlicesCompact
import Derived.Lib.Bytealg
set_option linter.defProp false
open _root_.Bool renaming false->ah,true->af
open _root_.Option renaming none->ae,some->aa
open _root_.Array renaming getElem?_append_left->ajU,getElem?_eq_some_iff->ajc
open _root_.Go.Lib renaming compact->aju,indexByte->ajH
open _root_.Go.Sort renaming ahead->ajs,grow->ajx,mapBlock->ajC,putCells->ajh,putRow->ajj
open _root_.List.cons renaming injEq->ajt
open _root_.List renaming drop_eq_getElem_cons->aiN,getElem?_drop->ai9,getElem?_take->ajf,replicate->aiG
open _root_.Nat renaming beq->aiJ,le_refl->aiH,le_trans->ai4,lt_of_lt_of_le->ai1,min_eq_left->ajD
open _root_.Option.some renaming inj->aiC
open _root_.Go.Value renaming int->ajl,ownBlock->aiY
namespace Go.Proofs.YtfeahmiobbjklaaGreatDoor
open Go Go.RowKit
set_option maxRecDepth 100000
set_option linter.unusedSimpArgs false
set_option linter.unusedVariables false
set_option linter.defProp false
section
def rm(l:List Int):List Int:=l.mergeSort λx y=>decide (x<=y)
section
variable {P:Program} {w w':World} {F:Nat->Prop} {T:TypeId}
def Me(w:World):ajx w #[]=w:=by
 unfold ajx;rw[Array.append_empty]
def Hf{g off:Nat}{d:Array Int}{n:Nat}{os:Array Obj}(h:w'=ajx (ajj (ajl .i64) (ajs w n) g off d) os):Ext (λk=>k=g) w w':=by
 subst h;refine⟨rfl,⟨rfl,Nat.le_add_right _ _⟩,rfl,?_,λk hk hn=>?_⟩
 .simp[ajx,ajj,ajC,ajs]
 .simp only[ajx];rw[ajU (by simpa[ajj,ajC,ajs]using hk)];simp only[ajj,ajC,ajs,Array.getElem?_modify];rw[aj (λe=>hn e.symm)]
def Pw{g off:Nat}{d:Array Int}{n:Nat}{os:Array Obj}(h:w'=ajx (ajj (ajl .i64) (ajs w n) g off d) os){cur:Array Value}(hg:w.heap[g]? =aa (.cells cur T (0,0))):
 w'.heap[g]? =aa (.cells (ajh (ajl .i64) off d cur) T (0,0)):=by
 subst h;have aH:g<w.heap.size:=(ajc.1 hg).1;simp only[ajx];rw[ajU (by simpa[ajj,ajC,ajs]using aH)];simp only[ajj,ajC,ajs,Array.getElem?_modify];rw[al trivial,hg];rfl
def FC{l:List Int}{xs:List Value}(hx:xs.length=l.length*1)(h:∀i(hi:i<l.length),cS F w aA ((xs.drop (i*1)).take 1) l[i]):xs=l.map (ajl .i64):=by
 apply List.ext_getElem (by simpa using hx);intro i h1 h2
 have hi:i<l.length:=by simpa using h2
 have:(xs.drop (i*1)).take 1=[ajl .i64 l[i]]:=h i hi;rw[Nat.mul_one,aiN h1,List.take_succ_cons,List.take_zero]at this;simpa only[List.getElem_map,ajt,and_true]using this
def Jr{off:Nat}{d:Array Int}{cur:Array Value}(h:off+d.size<=cur.size):((ajh (ajl .i64) off d cur).toList.drop off).take d.size=d.toList.map (ajl .i64):=by
 apply List.ext_getElem (by simp[ajh];omega);intro i h1 h2
 have hi:i<d.size:=by simpa using h2
 rw[List.getElem_take,List.getElem_drop,List.getElem_map,Array.getElem_toList,Array.getElem_toList];simp only[ajh,Array.getElem_mapIdx];rw[al ⟨by omega,by omega⟩,show off+i-off=i by omega,getElem!_pos d i hi]
def zf{v:Value}{l:List Int}(h:mw 0 F w T aA v l):(v= .slice ae 0 0/\l=[])\/∃g o0 cap cur,v= .slice (aa ⟨g,o0,ae⟩) l.length cap/\w.heap[g]? =aa (.cells cur T (0,0))/\l.length<=cap/\cap<=maxLen/\o0+cap<=cur.size/\Go.Sort.Holds (ajl .i64) w g o0 l.toArray:=by
 obtain⟨_,xs,⟨hx,h2⟩,h3⟩:=h;have e:=FC hx h3
 rcases h2 with⟨rfl,h0⟩|⟨g,o0,cap,cur,rfl,_,hg,h4,h5,h6,h7⟩
 .exact .inl ⟨rfl,List.eq_nil_of_length_eq_zero h0⟩
 .refine .inr ⟨g,o0,cap,cur,rfl,hg,h4,h5,by simpa[Row.size]using h6,λj hj=>⟨?_,frozen_of_row w g _ cur T hg⟩⟩
  have hj:j<l.length:=by simpa using hj
  rw[cell_of_row w g _ cur T (0,0) hg]
  have:xs[j]? =aa (ajl .i64 l[j]):=by rw[e];simp[hj]
  rw[<-h7,ajf]at this;split at this
  .rw[ai9]at this;rw[getElem!_pos l.toArray j (by simpa using hj)];simpa using this
  .cases this
def CX{g o0 cap:Nat}{l d:List Int}{cur:Array Value}{n:Nat}{os:Array Obj}(h:mw 0 F w T aA (.slice (aa ⟨g,o0,ae⟩) l.length cap) l)(hg:w.heap[g]? =aa (.cells cur T (0,0)))(hs:o0+cap<=cur.size)(hc:cap<=maxLen)
 (hl:d.length<=cap)(m:Nat)(hm:m<=d.length)(hw:w'=ajx (ajj (ajl .i64) (ajs w n) g o0 d.toArray) os):mw 0 F w' T aA (.slice (aa ⟨g,o0,ae⟩) m cap) (d.take m):=by
 have Mf:=Pw hw hg;have hp:=Jr (off:=o0) (d:=d.toArray) (cur:=cur) (by simp;omega);refine⟨λk hk=>h.no k (by simpa[bU,aiY]using hk),(d.take m).map (ajl .i64),⟨by simp[Row.size], .inr ⟨g,o0,cap,_,by simp[ajD hm],Nat.zero_le _,Mf,by simp;omega,hc,by simp[ajh,Row.size];omega,?_⟩⟩,λi hi=>?_⟩
 .have:((ajh (ajl .i64) o0 d.toArray cur).toList.drop o0).take m=(d.take m).map (ajl .i64):=by
   rw[show m=min m d.toArray.size by simp[ajD hm],<-List.take_take,hp,List.map_take];simp[ajD hm]
  simpa[Row.size,ajD hm]using this
 .have kF:i<d.length:=by simp at hi;omega
  show((List.map (ajl .i64) (d.take m)).drop (i*1)).take 1=[ajl .i64 (d.take m)[i]]
  rw[Nat.mul_one,aiN (by simpa using hi)];simp
def pU(d:Array Int):∀m,(Go.Lib.compactUpTo d m).length<=m
 |0=>by simp[Go.Lib.compactUpTo]
 |m+1=>by
  have:=pU d m;rw[Go.Lib.compactUpTo_succ,List.length_append]
  split<;>simp<;>omega
theorem wS(l:List Int):(aju l).length<=l.length:=pU _ _
def mV{α:Type}{k o:Nat}{x:α}(h:o≠k):find [(k,x)] o=ae:=by
 have:aiJ k o=ah:=by
  cases hb:aiJ k o with
  |false=>rfl
  |true=>exact absurd (Nat.eq_of_beq_eq_true hb).symm h
 simp[find,this]
def FD{f:FuncId}{r:Row}{fn:List r.den->Option (List r.den)}(hb:∃fn,P.funcs[f]? =aa fn/\(fn.name== "runtime.NumGoroutine")=ah/\fn.body.isNone=ah)
 (hr:r.beq r=af)
 (hc:∀{F:Nat->Prop}{w:World}{v:Value}{l m:List r.den},fn l=aa m->mw 0 F w T r v l->(∀b,F b->b<w.heap.size)->Calls P f #[v] w λe w'=>e= .returned (.tuple #[])/\Ext (bU v) w w'/\mw 0 F w' T r v m):
 gZ P f ⟨⟨[(0, .val ah (.own 0))],[(0, .own T r)],[],1⟩,⟨[],[(0, .own T r)],[],2⟩,fn⟩:=by
 refine⟨hb,λx y r9 args w H F G hlen gW cM eU hG=>?_⟩;have eU:iR H 1:=eU
 match args,hlen with
 |[v],_=>
 have hx:(ir 0 [(0,OS.own T r)] (dh [(0,SS.val ah (.own 0))] (dy [.slice r] x)).2)=[(0,(0, .own T r x))]:=by
  show[(0,(0,(dz (.own T r) [⟨.slice r,x⟩]).1))]=_
  simp only[dz,hr,cond_true]
 have hy:(ir 1 [(0,OS.own T r)] (dh [] (dy [.slice r] y)).2)=[(0,(1, .own T r y))]:=by
  show[(0,(1,(dz (.own T r) [⟨.slice r,y⟩]).1))]=_
  simp only[dz,hr,cond_true]
 have cM:aL (λk=>w.heap.size<=k\/G k) H F w (find [(0,(0,Th.own T r x))]) 1:=by rw[<-hx];exact cM
 have hd:aE H F w (.val ah (.own 0)) v:=gW 0 _ rfl;obtain⟨cs,⟨v',hv,h1,rfl⟩,_,qw⟩:=hd
 obtain rfl:v'=v:=by have:=qw rfl;simpa using this
 have eK:=cM.own rfl hv;obtain⟨v2,nM,cL⟩:=cM.obj 0 0 _ rfl;rw[hv]at nM;obtain rfl:=aiC nM
 refine(hc r9 eK cM.lt).mono λe w' ⟨he,bS,gY⟩=>⟨[],he,rfl,H.bG 1 (.own T r y),F,⟨bS.os,bS.tape,bS.output,bS.size,λk hk hn=>bS.block k hk λhm=>?_⟩,aK.gw (eU 1 (aiH _)).2,λb h=>h,λb h=> .inl h,λt d h=>?_,?_,?_⟩
 .rcases cL.use k hm with h|h
  .omega
  .exact hn h
 .cases h
 .show aL _ _ F w' (find (ir 1 [(0,OS.own T r)] (dh [] (dy [.slice r] y)).2)) 2
  rw[hy];refine⟨λo s t ho=>?_,λo o' s s' t t' u u' dA ho mf=>?_,λm h1 h2=>⟨(eU m (by have:2<=m:=h1;omega)).1,?_⟩,λb hb=>ai1 (cM.lt b hb) bS.size,λb hb=> .inl (ai4 bS.size hb),cM.gl.step (Step.ext bS cM.lt eK.no)⟩
  .obtain⟨rfl,h⟩:o=0/\(1,Th.own T r y)=(s,t):=by
    by_cases h0:o=0
    .subst h0;exact⟨rfl,aiC ho⟩
    .exfalso;have:find [(0,(1,Th.own T r y))] o=ae:=mV h0;rw[this]at ho;cases ho
   cases h;refine⟨v',hv,h1,by simp[aK.bG,Th.base],mw.to _ gY,gY.no,gY.lt,λk hk=>?_⟩;exact cL.use k hk
  .have key:∀o x,find [(0,(1,Th.own T r y))] o=aa x->o=0:=λo x h=>by
    by_cases h0:o=0
    .exact h0
    .have:find [(0,(1,Th.own T r y))] o=ae:=mV h0;rw[this]at h;cases h
   exact absurd ((key o _ ho).trans (key o' _ mf).symm) dA
  .have h1:2<=m:=h1
   show(if m=1 then _ else H.con m)=ae
   rw[aj (by omega)];exact(eU m (by omega)).2
 .intro m hm;have hm:2<=m:=hm;refine⟨(eU m (by omega)).1,?_⟩
  show(if m=1 then _ else H.con m)=ae
  rw[aj (by omega)];exact(eU m (by omega)).2
def Js{f:FuncId}{r:Row}{fn:List r.den->Option (List r.den)}(hb:∃fn,P.funcs[f]? =aa fn/\(fn.name== "runtime.NumGoroutine")=ah/\fn.body.isNone=ah)
 (hr:r.beq r=af)
 (hc:∀{F:Nat->Prop}{w:World}{v:Value}{l m:List r.den},fn l=aa m->mw 0 F w T r v l->(∀b,F b->b<w.heap.size)->Calls P f #[v] w λe w'=>∃v',e= .returned v'/\Ext (bU v) w w'/\mw 0 F w' T r v' m/\∀k,bU v' k->bU v k):
 gZ P f ⟨⟨[(0, .val ah (.own 0))],[(0, .own T r)],[],1⟩,⟨[(0, .val ah (.own 1))],[(1, .own T r)],[],2⟩,fn⟩:=by
 refine⟨hb,λx y r9 args w H F G hlen gW cM eU hG=>?_⟩;have eU:iR H 1:=eU
 match args,hlen with
 |[v],_=>
 have hx:(ir 0 [(0,OS.own T r)] (dh [(0,SS.val ah (.own 0))] (dy [.slice r] x)).2)=[(0,(0, .own T r x))]:=by
  show[(0,(0,(dz (.own T r) [⟨.slice r,x⟩]).1))]=_
  simp only[dz,hr,cond_true]
 have hy:(ir 1 [(1,OS.own T r)] (dh [(0,SS.val ah (.own 1))] (dy [.slice r] y)).2)=[(1,(1, .own T r y))]:=by
  show[(1,(1,(dz (.own T r) [⟨.slice r,y⟩]).1))]=_
  simp only[dz,hr,cond_true]
 have cM:aL (λk=>w.heap.size<=k\/G k) H F w (find [(0,(0,Th.own T r x))]) 1:=by rw[<-hx];exact cM
 have hd:aE H F w (.val ah (.own 0)) v:=gW 0 _ rfl;obtain⟨cs,⟨v',hv,h1,rfl⟩,_,qw⟩:=hd
 obtain rfl:v'=v:=by have:=qw rfl;simpa using this
 have eK:=cM.own rfl hv;obtain⟨v2,nM,cL⟩:=cM.obj 0 0 _ rfl;rw[hv]at nM;obtain rfl:=aiC nM;have zY:=eU 1 (aiH _)
 refine(hc r9 eK cM.lt).mono λe w' ⟨v3,he,bS,gY,LB⟩=>?_
 have Vx:v3.oneCell'=af:=(mC.one gY.2)
 have hle:H.le ((H.bG 1 (.own T r y)).cN 1 v3):=⟨λo u h=>by
  show(if o=1 then aa v3 else H.val o)=aa u
  rw[aj (λe=>by rw[e,zY.1]at h;cases h)]
  exact h,(aK.gw (t:= .own T r y) zY.2).con,(aK.gw (t:= .own T r y) zY.2).sub⟩
 refine⟨[v3],he,rfl,(H.bG 1 (.own T r y)).cN 1 v3,F,⟨bS.os,bS.tape,bS.output,bS.size,λk hk hn=>bS.block k hk λhm=>?_⟩,hle,λb h=>h,λb h=> .inl h,λt d h=>?_,?_,?_⟩
 .rcases cL.use k hm with h|h
  .omega
  .exact hn h
 .have ht:t=0/\d= .val ah (.own 1):=by
   have h:find [(0,aF.val ah (.own 1))] t=aa d:=h;by_cases h0:t=0
   .subst h0;exact⟨rfl,(aiC h).symm⟩
   .have e:find [(0,aF.val ah (.own 1))] t=ae:=mV h0;rw[e]at h;cases h
  obtain⟨rfl,rfl⟩:=ht;exact⟨[v3],⟨v3,by simp[aK.cN],Vx,rfl⟩,rfl,λ_=>rfl⟩
 .show aL _ _ F w' (find (ir 1 [(1,OS.own T r)] (dh [(0,SS.val ah (.own 1))] (dy [.slice r] y)).2)) 2
  rw[hy]
  have key:∀o x,find [(1,(1,Th.own T r y))] o=aa x->o=1/\x=(1,Th.own T r y):=λo x h=>by
   by_cases h0:o=1
   .subst h0;exact⟨rfl,(aiC h).symm⟩
   .have:find [(1,(1,Th.own T r y))] o=ae:=mV h0;rw[this]at h;cases h
  refine⟨λo s t ho=>?_,λo o' s s' t t' u u' dA ho mf=>?_,λm h1 h2=>⟨?_,?_⟩,λb hb=>ai1 (cM.lt b hb) bS.size,λb hb=> .inl (ai4 bS.size hb),cM.gl.step (Step.ext bS cM.lt eK.no)⟩
  .obtain⟨rfl,h⟩:=key o _ ho;cases h;exact⟨v3,by simp[aK.cN],Vx,by simp[aK.bG,aK.cN,Th.base],mw.to _ gY,gY.no,gY.lt,λk hk=>cL.use k (LB k hk)⟩
  .exact absurd ((key o _ ho).1.trans (key o' _ mf).1.symm) dA
  .have h1:2<=m:=h1
   show(if m=1 then _ else H.val m)=ae
   rw[aj (by omega)];exact(eU m (by omega)).1
  .have h1:2<=m:=h1
   show(if m=1 then _ else H.con m)=ae
   rw[aj (by omega)];exact(eU m (by omega)).2
 .intro m hm;have hm:2<=m:=hm;refine⟨?_,?_⟩
  .show(if m=1 then _ else H.val m)=ae
   rw[aj (by omega)];exact(eU m (by omega)).1
  .show(if m=1 then _ else H.con m)=ae
   rw[aj (by omega)];exact(eU m (by omega)).2
def CY(l:List Int):Option (List Int):=if l.length<4611686018427387904 then aa (rm l)else ae
def Px{f:FuncId}(hb:∃fn,P.funcs[f]? =aa fn/\(fn.name== "runtime.NumGoroutine")=ah/\fn.body.isNone=ah)
 (h1:∀(n5 off cap:Nat)(zs:List Int)(w:World),Go.Sort.Holds (ajl .i64) w n5 off zs.toArray->n5<w.heap.size->zs.length<4611686018427387904->
   Calls P f #[.slice (aa ⟨n5,off,ae⟩) zs.length cap] w λe w'=>e= .returned (.tuple #[])/\∃n os,w'=ajx (ajj (ajl .i64) (ajs w n) n5 off (zs.mergeSort λx y=>decide (x<=y)).toArray) os)
 (h2:∀(p:Option Addr)(cap:Nat)(w:World),Calls P f #[.slice p 0 cap] w λe w'=>e= .returned (.tuple #[])/\w'=w):
 gZ P f ⟨⟨[(0, .val ah (.own 0))],[(0, .own T aA)],[],1⟩,⟨[],[(0, .own T aA)],[],2⟩,λx=>CY x⟩:=by
 refine FD (r:=aA) hb rfl λ{F w v l m}hm ho hF=>?_
 have hm:CY l=aa m:=hm;unfold CY at hm;split at hm
 case isFalse=>cases hm
 rename_i hlen;obtain rfl:=aiC hm
 rcases zf ho with⟨rfl,rfl⟩|⟨g,o0,cap,cur,rfl,hg,BE,ON,mh,hh⟩
 .refine(h2 ae 0 w).mono λe w' ⟨he,hw⟩=>⟨he,hw▸⟨rfl,⟨rfl,aiH _⟩,rfl,aiH _,λ_ _ _=>rfl⟩,hw▸?_⟩
  simpa[rm]using ho
 .refine(h1 g o0 cap l w hh (ajc.1 hg).1 hlen).mono λe w' ⟨he,n,os,hw⟩=>⟨he,?_,?_⟩
  .have:=Hf hw;exact⟨this.os,this.tape,this.output,this.size,λk hk hn=>this.block k hk λe=>hn (by simp[bU,aiY,e])⟩
  .have hl:(rm l).length=l.length:=List.length_mergeSort ..;have:=CX (d:=rm l) ho hg mh ON (by omega) (rm l).length (aiH _) hw;rw[List.take_length,hl]at this;exact this
def pV(l:List Int):Option (List Int):=if l.length<=9223372036854775807 then aa (aju l)else ae
def FE{f:FuncId}(hb:∃fn,P.funcs[f]? =aa fn/\(fn.name== "runtime.NumGoroutine")=ah/\fn.body.isNone=ah)
 (h1:∀(n5 off cap:Nat)(zs:List Int)(w:World),Go.Sort.Holds (ajl .i64) w n5 off zs.toArray->zs.length<=9223372036854775807->zs.length<=cap->
   Calls P f #[.slice (aa ⟨n5,off,ae⟩) zs.length cap] w λe w'=>e= .returned (.slice (aa ⟨n5,off,ae⟩) (aju zs).length cap)/\∃q,w'=ajj (ajl .i64) (ajs w q) n5 off (aju zs++aiG (zs.length-(aju zs).length) 0).toArray)
 (h2:∀(p:Option Addr)(cap:Nat)(w:World),Calls P f #[.slice p 0 cap] w λe w'=>e= .returned (.slice p 0 cap)/\w'=w):
 gZ P f ⟨⟨[(0, .val ah (.own 0))],[(0, .own T aA)],[],1⟩,⟨[(0, .val ah (.own 1))],[(1, .own T aA)],[],2⟩,λx=>pV x⟩:=by
 refine Js (r:=aA) hb rfl λ{F w v l m}hm ho hF=>?_
 have hm:pV l=aa m:=hm;unfold pV at hm;split at hm
 case isFalse=>cases hm
 rename_i hlen;obtain rfl:=aiC hm
 rcases zf ho with⟨rfl,rfl⟩|⟨g,o0,cap,cur,rfl,hg,BE,ON,mh,hh⟩
 .refine(h2 ae 0 w).mono λe w' ⟨he,hw⟩=>⟨_,he,hw▸⟨rfl,⟨rfl,aiH _⟩,rfl,aiH _,λ_ _ _=>rfl⟩,hw▸?_,λk hk=>hk⟩
  exact ho
 .have Mg:(aju l).length<=l.length:=wS l
  refine(h1 g o0 cap l w hh hlen BE).mono λe w' ⟨he,n,hw⟩=>⟨_,he,?_,?_,λk hk=>by simpa[bU,aiY]using hk⟩
  all_goals have hw:w'=ajx (ajj (ajl .i64) (ajs w n) g o0 (aju l++aiG (l.length-(aju l).length) 0).toArray) #[]:=by rw[hw,Me]
  .have:=Hf hw;exact⟨this.os,this.tape,this.output,this.size,λk hk hn=>this.block k hk λe=>hn (by simp[bU,aiY,e])⟩
  .have:=CX (d:=aju l++aiG (l.length-(aju l).length) 0) ho hg mh ON (by simp;omega) (aju l).length (by simp) hw;rw[List.take_left]at this;exact this
def qP(x:ByteArray×ByteArray):Option Bool:=if x.2.size=1 then aa (decide (0<=ajH x.1.data.toList (x.2.data.getD 0 0)))else ae
def CZ{f:FuncId}(hb:∃fn,P.funcs[f]? =aa fn/\(fn.name== "runtime.NumGoroutine")=ah/\fn.body.isNone=ah)
 (h1:∀(s:ByteArray)(c:UInt8)(w:World),Calls P f #[.string s, .string ⟨#[c]⟩] w λe w'=>e= .returned (.bool (decide (0<=ajH s.data.toList c)))/\w'=w):
 gZ P f ⟨⟨[(0, .val ah (.leaf .str)),(1, .val ah (.leaf .str))],[],[],0⟩,⟨[(0, .val ah (.leaf .bool))],[],[],0⟩,λx=>qP x⟩:=by
 refine⟨hb,λx y r9 args w H F G hlen gW cM eU hG=>?_⟩
 match args,hlen with
 |[u,v],_=>
 obtain⟨s,t⟩:=x;have r9:qP (s,t)=aa y:=r9;unfold qP at r9;split at r9
 case isFalse=>cases r9
 rename_i mh;obtain rfl:=aiC r9;have hu:aS H F w ah (.leaf .str s) u:=gW 0 _ rfl;have hv:aS H F w ah (.leaf .str t) v:=gW 1 _ rfl;obtain⟨cs,hc,_,h2⟩:=hu;obtain⟨u0,XM,_,Im⟩:=hv;have hc:cs=[.string s]:=hc;have XM:u0=[.string t]:=XM
 have eu:u= .string s:=by have:=(h2 rfl).symm.trans hc;simpa using this
 have ev:v= .string t:=by have:=(Im rfl).symm.trans XM;simpa using this
 subst eu ev
 obtain⟨⟨⟨l⟩⟩,ht⟩:∃t':ByteArray,t'=t:=⟨t,rfl⟩
 match l,ht with
 |[c],ht=>
  subst ht
  refine(h1 s c w).mono λe w' ⟨he,hw⟩=>?_
  subst hw;refine⟨[_],he,rfl,H,F,⟨rfl,⟨rfl,aiH _⟩,rfl,aiH _,λ_ _ _=>rfl⟩,aK.le.refl H,λ_ h=>h,λ_ h=> .inl h,λi d h=>?_,?_,eU⟩
  .have hd:i=0/\d= .val ah (.leaf .bool (decide (0<=ajH s.data.toList c))):=by
    have h:find [(0,aF.val ah (.leaf .bool (decide (0<=ajH s.data.toList c))))] i=aa d:=h;by_cases h0:i=0
    .subst h0;exact⟨rfl,(aiC h).symm⟩
    .rw[mV h0]at h;cases h
   obtain⟨rfl,rfl⟩:=hd;exact aS.nz rfl
  .exact cM
 |[],ht=>subst ht;cases mh
 |_::_::_,ht=>subst ht;simp[ByteArray.size]at mh
end
end
end Go.Proofs.YtfeahmiobbjklaaGreatDoor
