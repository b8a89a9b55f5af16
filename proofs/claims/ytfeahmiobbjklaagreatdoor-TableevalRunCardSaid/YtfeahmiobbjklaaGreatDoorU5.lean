/- Joined texts: Shelf. -/
import Derived.Test.YtfeahmiobbjklaaGreatDoorU4
import Derived.Sort.Grow
import Derived.Lib.SlicesCompact
import Derived.Lib.Bytealg
set_option linter.defProp false
open _root_.Bool renaming false->ag,true->af
open _root_.Option renaming none->ae,some->aa
open _root_.Array renaming getElem?_append_left->asj,getElem?_eq_some_iff->ary
open _root_.Go.Lib renaming compact->arP,indexByte->ar5
open _root_.Go.Sort renaming ahead->arO,grow->arS,mapBlock->arZ,putCells->arF,putRow->arG
open _root_.List.cons renaming injEq->arV
open _root_.List renaming drop_eq_getElem_cons->aqZ,getElem?_drop->ars,getElem?_take->arB,replicate->aqW
open _root_.Nat renaming beq->aqV,le_refl->aqU,le_trans->ark,lt_of_lt_of_le->arh,min_eq_left->ar1
open _root_.Option.some renaming inj->aqP
open _root_.Go.Value renaming int->arI,ownBlock->are
namespace Go.Proofs.YtfeahmiobbjklaaGreatDoor
open Go Go.RowKit
set_option maxRecDepth 100000
set_option linter.unusedSimpArgs false
set_option linter.unusedVariables false
set_option linter.defProp false
section
def uR(l:List Int):List Int:=l.mergeSort λx y=>decide (x<=y)
section
variable {P:Program} {w w':World} {F:Nat->Prop} {T:TypeId}
def QP(w:World):arS w #[]=w:=by
 unfold arS;rw[Array.append_empty]
def Lm{g off:Nat}{d:Array Int}{n:Nat}{os:Array Obj}(h:w'=arS (arG (arI .i64) (arO w n) g off d) os):Ext (λk=>k=g) w w':=by
 subst h;refine⟨rfl,⟨rfl,Nat.le_add_right _ _⟩,rfl,?_,λk hk hn=>?_⟩
 .simp[arS,arG,arZ,arO]
 .simp only[arS];rw[asj (by simpa[arG,arZ,arO]using hk)];simp only[arG,arZ,arO,Array.getElem?_modify];rw[ai (λe=>hn e.symm)]
def Up{g off:Nat}{d:Array Int}{n:Nat}{os:Array Obj}(h:w'=arS (arG (arI .i64) (arO w n) g off d) os){cur:Array Value}(hg:w.heap[g]? =aa (.cells cur T (0,0))):
 w'.heap[g]? =aa (.cells (arF (arI .i64) off d cur) T (0,0)):=by
 subst h;have aF:g<w.heap.size:=(ary.1 hg).1;simp only[arS];rw[asj (by simpa[arG,arZ,arO]using aF)];simp only[arG,arZ,arO,Array.getElem?_modify];rw[aj trivial,hg];rfl
def JD{l:List Int}{xs:List Value}(hx:xs.length=l.length*1)(h:∀i(hi:i<l.length),dy F w az ((xs.drop (i*1)).take 1) l[i]):xs=l.map (arI .i64):=by
 apply List.ext_getElem (by simpa using hx);intro i h1 h2
 have hi:i<l.length:=by simpa using h2
 have:(xs.drop (i*1)).take 1=[arI .i64 l[i]]:=h i hi;rw[Nat.mul_one,aqZ h1,List.take_succ_cons,List.take_zero]at this;simpa only[List.getElem_map,arV,and_true]using this
def NK{off:Nat}{d:Array Int}{cur:Array Value}(h:off+d.size<=cur.size):((arF (arI .i64) off d cur).toList.drop off).take d.size=d.toList.map (arI .i64):=by
 apply List.ext_getElem (by simp[arF];omega);intro i h1 h2
 have hi:i<d.size:=by simpa using h2
 rw[List.getElem_take,List.getElem_drop,List.getElem_map,Array.getElem_toList,Array.getElem_toList];simp only[arF,Array.getElem_mapIdx];rw[aj ⟨by omega,by omega⟩,show off+i-off=i by omega,getElem!_pos d i hi]
def CN{v:Value}{l:List Int}(h:pz 0 F w T az v l):(v= .slice ae 0 0/\l=[])\/∃g o0 cap cur,v= .slice (aa ⟨g,o0,ae⟩) l.length cap/\w.heap[g]? =aa (.cells cur T (0,0))/\l.length<=cap/\cap<=maxLen/\o0+cap<=cur.size/\Go.Sort.Holds (arI .i64) w g o0 l.toArray:=by
 obtain⟨_,xs,⟨hx,h2⟩,h3⟩:=h;have e:=JD hx h3
 rcases h2 with⟨rfl,h0⟩|⟨g,o0,cap,cur,rfl,_,hg,h4,h5,h6,h7⟩
 .exact .inl ⟨rfl,List.eq_nil_of_length_eq_zero h0⟩
 .refine .inr ⟨g,o0,cap,cur,rfl,hg,h4,h5,by simpa[Row.size]using h6,λj hj=>⟨?_,frozen_of_row w g _ cur T hg⟩⟩
  have hj:j<l.length:=by simpa using hj
  rw[cell_of_row w g _ cur T (0,0) hg]
  have:xs[j]? =aa (arI .i64 l[j]):=by rw[e];simp[hj]
  rw[<-h7,arB]at this;split at this
  .rw[ars]at this;rw[getElem!_pos l.toArray j (by simpa using hj)];simpa using this
  .cases this
def GA{g o0 cap:Nat}{l d:List Int}{cur:Array Value}{n:Nat}{os:Array Obj}(h:pz 0 F w T az (.slice (aa ⟨g,o0,ae⟩) l.length cap) l)(hg:w.heap[g]? =aa (.cells cur T (0,0)))(hs:o0+cap<=cur.size)(hc:cap<=maxLen)
 (hl:d.length<=cap)(m:Nat)(hm:m<=d.length)(hw:w'=arS (arG (arI .i64) (arO w n) g o0 d.toArray) os):pz 0 F w' T az (.slice (aa ⟨g,o0,ae⟩) m cap) (d.take m):=by
 have QR:=Up hw hg;have hp:=NK (off:=o0) (d:=d.toArray) (cur:=cur) (by simp;omega);refine⟨λk hk=>h.no k (by simpa[cx,are]using hk),(d.take m).map (arI .i64),⟨by simp[Row.size], .inr ⟨g,o0,cap,_,by simp[ar1 hm],Nat.zero_le _,QR,by simp;omega,hc,by simp[arF,Row.size];omega,?_⟩⟩,λi hi=>?_⟩
 .have:((arF (arI .i64) o0 d.toArray cur).toList.drop o0).take m=(d.take m).map (arI .i64):=by
   rw[show m=min m d.toArray.size by simp[ar1 hm],<-List.take_take,hp,List.map_take];simp[ar1 hm]
  simpa[Row.size,ar1 hm]using this
 .have mO:i<d.length:=by simp at hi;omega
  show((List.map (arI .i64) (d.take m)).drop (i*1)).take 1=[arI .i64 (d.take m)[i]]
  rw[Nat.mul_one,aqZ (by simpa using hi)];simp
def tg(d:Array Int):∀m,(Go.Lib.compactUpTo d m).length<=m
 |0=>by simp[Go.Lib.compactUpTo]
 |m+1=>by
  have:=tg d m;rw[Go.Lib.compactUpTo_succ,List.length_append]
  split<;>simp<;>omega
theorem Aq(l:List Int):(arP l).length<=l.length:=tg _ _
def p3{α:Type}{k o:Nat}{x:α}(h:o≠k):find [(k,x)] o=ae:=by
 have:aqV k o=ag:=by
  cases hb:aqV k o with
  |false=>rfl
  |true=>exact absurd (Nat.eq_of_beq_eq_true hb).symm h
 simp[find,this]
def JE{f:FuncId}{r:Row}{fn:List r.den->Option (List r.den)}(hb:∃fn,P.funcs[f]? =aa fn/\(fn.name== "runtime.NumGoroutine")=ag/\fn.body.isNone=ag)
 (hr:r.beq r=af)
 (hc:∀{F:Nat->Prop}{w:World}{v:Value}{l m:List r.den},fn l=aa m->pz 0 F w T r v l->(∀b,F b->b<w.heap.size)->Calls P f #[v] w λe w'=>e= .returned (.tuple #[])/\Ext (cx v) w w'/\pz 0 F w' T r v m):
 hZ P f ⟨⟨[(0, .val ag (.own 0))],[(0, .own T r)],[],1⟩,⟨[],[(0, .own T r)],[],2⟩,fn⟩:=by
 refine⟨hb,λx y vJ args w H F G hlen jL de gZ hG=>?_⟩;have gZ:kB H 1:=gZ
 match args,hlen with
 |[v],_=>
 have hx:(jW 0 [(0,OS.own T r)] (dU [(0,SS.val ag (.own 0))] (eD [.slice r] x)).2)=[(0,(0, .own T r x))]:=by
  show[(0,(0,(eE (.own T r) [⟨.slice r,x⟩]).1))]=_
  simp only[eE,hr,cond_true]
 have hy:(jW 1 [(0,OS.own T r)] (dU [] (eD [.slice r] y)).2)=[(0,(1, .own T r y))]:=by
  show[(0,(1,(eE (.own T r) [⟨.slice r,y⟩]).1))]=_
  simp only[eE,hr,cond_true]
 have de:aP (λk=>w.heap.size<=k\/G k) H F w (find [(0,(0,Th.own T r x))]) 1:=by rw[<-hx];exact de
 have hd:aH H F w (.val ag (.own 0)) v:=jL 0 _ rfl;obtain⟨cs,⟨v',hv,h1,rfl⟩,_,tP⟩:=hd
 obtain rfl:v'=v:=by have:=tP rfl;simpa using this
 have fU:=de.own rfl hv;obtain⟨v2,qj,dC⟩:=de.obj 0 0 _ rfl;rw[hv]at qj;obtain rfl:=aqP qj
 refine(hc vJ fU de.lt).mono λe w' ⟨he,ct,jK⟩=>⟨[],he,rfl,H.bR 1 (.own T r y),F,⟨ct.os,ct.tape,ct.output,ct.size,λk hk hn=>ct.block k hk λhm=>?_⟩,aN.iU (gZ 1 (aqU _)).2,λb h=>h,λb h=> .inl h,λt d h=>?_,?_,?_⟩
 .rcases dC.use k hm with h|h
  .omega
  .exact hn h
 .cases h
 .show aP _ _ F w' (find (jW 1 [(0,OS.own T r)] (dU [] (eD [.slice r] y)).2)) 2
  rw[hy];refine⟨λo s t ho=>?_,λo o' s s' t t' u u' eG ho pq=>?_,λm h1 h2=>⟨(gZ m (by have:2<=m:=h1;omega)).1,?_⟩,λb hb=>arh (de.lt b hb) ct.size,λb hb=> .inl (ark ct.size hb),de.gl.step (Step.ext ct de.lt fU.no)⟩
  .obtain⟨rfl,h⟩:o=0/\(1,Th.own T r y)=(s,t):=by
    by_cases h0:o=0
    .subst h0;exact⟨rfl,aqP ho⟩
    .exfalso;have:find [(0,(1,Th.own T r y))] o=ae:=p3 h0;rw[this]at ho;cases ho
   cases h;refine⟨v',hv,h1,by simp[aN.bR,Th.base],pz.to _ jK,jK.no,jK.lt,λk hk=>?_⟩;exact dC.use k hk
  .have key:∀o x,find [(0,(1,Th.own T r y))] o=aa x->o=0:=λo x h=>by
    by_cases h0:o=0
    .exact h0
    .have:find [(0,(1,Th.own T r y))] o=ae:=p3 h0;rw[this]at h;cases h
   exact absurd ((key o _ ho).trans (key o' _ pq).symm) eG
  .have h1:2<=m:=h1
   show(if m=1 then _ else H.con m)=ae
   rw[ai (by omega)];exact(gZ m (by omega)).2
 .intro m hm;have hm:2<=m:=hm;refine⟨(gZ m (by omega)).1,?_⟩
  show(if m=1 then _ else H.con m)=ae
  rw[ai (by omega)];exact(gZ m (by omega)).2
def NL{f:FuncId}{r:Row}{fn:List r.den->Option (List r.den)}(hb:∃fn,P.funcs[f]? =aa fn/\(fn.name== "runtime.NumGoroutine")=ag/\fn.body.isNone=ag)
 (hr:r.beq r=af)
 (hc:∀{F:Nat->Prop}{w:World}{v:Value}{l m:List r.den},fn l=aa m->pz 0 F w T r v l->(∀b,F b->b<w.heap.size)->Calls P f #[v] w λe w'=>∃v',e= .returned v'/\Ext (cx v) w w'/\pz 0 F w' T r v' m/\∀k,cx v' k->cx v k):
 hZ P f ⟨⟨[(0, .val ag (.own 0))],[(0, .own T r)],[],1⟩,⟨[(0, .val ag (.own 1))],[(1, .own T r)],[],2⟩,fn⟩:=by
 refine⟨hb,λx y vJ args w H F G hlen jL de gZ hG=>?_⟩;have gZ:kB H 1:=gZ
 match args,hlen with
 |[v],_=>
 have hx:(jW 0 [(0,OS.own T r)] (dU [(0,SS.val ag (.own 0))] (eD [.slice r] x)).2)=[(0,(0, .own T r x))]:=by
  show[(0,(0,(eE (.own T r) [⟨.slice r,x⟩]).1))]=_
  simp only[eE,hr,cond_true]
 have hy:(jW 1 [(1,OS.own T r)] (dU [(0,SS.val ag (.own 1))] (eD [.slice r] y)).2)=[(1,(1, .own T r y))]:=by
  show[(1,(1,(eE (.own T r) [⟨.slice r,y⟩]).1))]=_
  simp only[eE,hr,cond_true]
 have de:aP (λk=>w.heap.size<=k\/G k) H F w (find [(0,(0,Th.own T r x))]) 1:=by rw[<-hx];exact de
 have hd:aH H F w (.val ag (.own 0)) v:=jL 0 _ rfl;obtain⟨cs,⟨v',hv,h1,rfl⟩,_,tP⟩:=hd
 obtain rfl:v'=v:=by have:=tP rfl;simpa using this
 have fU:=de.own rfl hv;obtain⟨v2,qj,dC⟩:=de.obj 0 0 _ rfl;rw[hv]at qj;obtain rfl:=aqP qj;have DA:=gZ 1 (aqU _)
 refine(hc vJ fU de.lt).mono λe w' ⟨v3,he,ct,jK,Qf⟩=>?_
 have h13:v3.oneCell'=af:=(pE.one jK.2)
 have hle:H.le ((H.bR 1 (.own T r y)).dh 1 v3):=⟨λo u h=>by
  show(if o=1 then aa v3 else H.val o)=aa u
  rw[ai (λe=>by rw[e,DA.1]at h;cases h)]
  exact h,(aN.iU (t:= .own T r y) DA.2).con,(aN.iU (t:= .own T r y) DA.2).sub⟩
 refine⟨[v3],he,rfl,(H.bR 1 (.own T r y)).dh 1 v3,F,⟨ct.os,ct.tape,ct.output,ct.size,λk hk hn=>ct.block k hk λhm=>?_⟩,hle,λb h=>h,λb h=> .inl h,λt d h=>?_,?_,?_⟩
 .rcases dC.use k hm with h|h
  .omega
  .exact hn h
 .have ht:t=0/\d= .val ag (.own 1):=by
   have h:find [(0,aI.val ag (.own 1))] t=aa d:=h;by_cases h0:t=0
   .subst h0;exact⟨rfl,(aqP h).symm⟩
   .have e:find [(0,aI.val ag (.own 1))] t=ae:=p3 h0;rw[e]at h;cases h
  obtain⟨rfl,rfl⟩:=ht;exact⟨[v3],⟨v3,by simp[aN.dh],h13,rfl⟩,rfl,λ_=>rfl⟩
 .show aP _ _ F w' (find (jW 1 [(1,OS.own T r)] (dU [(0,SS.val ag (.own 1))] (eD [.slice r] y)).2)) 2
  rw[hy]
  have key:∀o x,find [(1,(1,Th.own T r y))] o=aa x->o=1/\x=(1,Th.own T r y):=λo x h=>by
   by_cases h0:o=1
   .subst h0;exact⟨rfl,(aqP h).symm⟩
   .have:find [(1,(1,Th.own T r y))] o=ae:=p3 h0;rw[this]at h;cases h
  refine⟨λo s t ho=>?_,λo o' s s' t t' u u' eG ho pq=>?_,λm h1 h2=>⟨?_,?_⟩,λb hb=>arh (de.lt b hb) ct.size,λb hb=> .inl (ark ct.size hb),de.gl.step (Step.ext ct de.lt fU.no)⟩
  .obtain⟨rfl,h⟩:=key o _ ho;cases h;exact⟨v3,by simp[aN.dh],h13,by simp[aN.bR,aN.dh,Th.base],pz.to _ jK,jK.no,jK.lt,λk hk=>dC.use k (Qf k hk)⟩
  .exact absurd ((key o _ ho).1.trans (key o' _ pq).1.symm) eG
  .have h1:2<=m:=h1
   show(if m=1 then _ else H.val m)=ae
   rw[ai (by omega)];exact(gZ m (by omega)).1
  .have h1:2<=m:=h1
   show(if m=1 then _ else H.con m)=ae
   rw[ai (by omega)];exact(gZ m (by omega)).2
 .intro m hm;have hm:2<=m:=hm;refine⟨?_,?_⟩
  .show(if m=1 then _ else H.val m)=ae
   rw[ai (by omega)];exact(gZ m (by omega)).1
  .show(if m=1 then _ else H.con m)=ae
   rw[ai (by omega)];exact(gZ m (by omega)).2
def GB(l:List Int):Option (List Int):=if l.length<4611686018427387904 then aa (uR l)else ae
def Uq{f:FuncId}(hb:∃fn,P.funcs[f]? =aa fn/\(fn.name== "runtime.NumGoroutine")=ag/\fn.body.isNone=ag)
 (h1:∀(q7 off cap:Nat)(zs:List Int)(w:World),Go.Sort.Holds (arI .i64) w q7 off zs.toArray->q7<w.heap.size->zs.length<4611686018427387904->
   Calls P f #[.slice (aa ⟨q7,off,ae⟩) zs.length cap] w λe w'=>e= .returned (.tuple #[])/\∃n os,w'=arS (arG (arI .i64) (arO w n) q7 off (zs.mergeSort λx y=>decide (x<=y)).toArray) os)
 (h2:∀(p:Option Addr)(cap:Nat)(w:World),Calls P f #[.slice p 0 cap] w λe w'=>e= .returned (.tuple #[])/\w'=w):
 hZ P f ⟨⟨[(0, .val ag (.own 0))],[(0, .own T az)],[],1⟩,⟨[],[(0, .own T az)],[],2⟩,λx=>GB x⟩:=by
 refine JE (r:=az) hb rfl λ{F w v l m}hm ho hF=>?_
 have hm:GB l=aa m:=hm;unfold GB at hm;split at hm
 case isFalse=>cases hm
 rename_i hlen;obtain rfl:=aqP hm
 rcases CN ho with⟨rfl,rfl⟩|⟨g,o0,cap,cur,rfl,hg,Ff,TJ,po,hh⟩
 .refine(h2 ae 0 w).mono λe w' ⟨he,hw⟩=>⟨he,hw▸⟨rfl,⟨rfl,aqU _⟩,rfl,aqU _,λ_ _ _=>rfl⟩,hw▸?_⟩
  simpa[uR]using ho
 .refine(h1 g o0 cap l w hh (ary.1 hg).1 hlen).mono λe w' ⟨he,n,os,hw⟩=>⟨he,?_,?_⟩
  .have:=Lm hw;exact⟨this.os,this.tape,this.output,this.size,λk hk hn=>this.block k hk λe=>hn (by simp[cx,are,e])⟩
  .have hl:(uR l).length=l.length:=List.length_mergeSort ..;have:=GA (d:=uR l) ho hg po TJ (by omega) (uR l).length (aqU _) hw;rw[List.take_length,hl]at this;exact this
def th(l:List Int):Option (List Int):=if l.length<=9223372036854775807 then aa (arP l)else ae
def JF{f:FuncId}(hb:∃fn,P.funcs[f]? =aa fn/\(fn.name== "runtime.NumGoroutine")=ag/\fn.body.isNone=ag)
 (h1:∀(q7 off cap:Nat)(zs:List Int)(w:World),Go.Sort.Holds (arI .i64) w q7 off zs.toArray->zs.length<=9223372036854775807->zs.length<=cap->
   Calls P f #[.slice (aa ⟨q7,off,ae⟩) zs.length cap] w λe w'=>e= .returned (.slice (aa ⟨q7,off,ae⟩) (arP zs).length cap)/\∃q,w'=arG (arI .i64) (arO w q) q7 off (arP zs++aqW (zs.length-(arP zs).length) 0).toArray)
 (h2:∀(p:Option Addr)(cap:Nat)(w:World),Calls P f #[.slice p 0 cap] w λe w'=>e= .returned (.slice p 0 cap)/\w'=w):
 hZ P f ⟨⟨[(0, .val ag (.own 0))],[(0, .own T az)],[],1⟩,⟨[(0, .val ag (.own 1))],[(1, .own T az)],[],2⟩,λx=>th x⟩:=by
 refine NL (r:=az) hb rfl λ{F w v l m}hm ho hF=>?_
 have hm:th l=aa m:=hm;unfold th at hm;split at hm
 case isFalse=>cases hm
 rename_i hlen;obtain rfl:=aqP hm
 rcases CN ho with⟨rfl,rfl⟩|⟨g,o0,cap,cur,rfl,hg,Ff,TJ,po,hh⟩
 .refine(h2 ae 0 w).mono λe w' ⟨he,hw⟩=>⟨_,he,hw▸⟨rfl,⟨rfl,aqU _⟩,rfl,aqU _,λ_ _ _=>rfl⟩,hw▸?_,λk hk=>hk⟩
  exact ho
 .have Ln:(arP l).length<=l.length:=Aq l
  refine(h1 g o0 cap l w hh hlen Ff).mono λe w' ⟨he,n,hw⟩=>⟨_,he,?_,?_,λk hk=>by simpa[cx,are]using hk⟩
  all_goals have hw:w'=arS (arG (arI .i64) (arO w n) g o0 (arP l++aqW (l.length-(arP l).length) 0).toArray) #[]:=by rw[hw,QP]
  .have:=Lm hw;exact⟨this.os,this.tape,this.output,this.size,λk hk hn=>this.block k hk λe=>hn (by simp[cx,are,e])⟩
  .have:=GA (d:=arP l++aqW (l.length-(arP l).length) 0) ho hg po TJ (by simp;omega) (arP l).length (by simp) hw;rw[List.take_left]at this;exact this
def ui(x:ByteArray×ByteArray):Option Bool:=if x.2.size=1 then aa (decide (0<=ar5 x.1.data.toList (x.2.data.getD 0 0)))else ae
def GC{f:FuncId}(hb:∃fn,P.funcs[f]? =aa fn/\(fn.name== "runtime.NumGoroutine")=ag/\fn.body.isNone=ag)
 (h1:∀(s:ByteArray)(c:UInt8)(w:World),Calls P f #[.string s, .string ⟨#[c]⟩] w λe w'=>e= .returned (.bool (decide (0<=ar5 s.data.toList c)))/\w'=w):
 hZ P f ⟨⟨[(0, .val ag (.leaf .str)),(1, .val ag (.leaf .str))],[],[],0⟩,⟨[(0, .val ag (.leaf .bool))],[],[],0⟩,λx=>ui x⟩:=by
 refine⟨hb,λx y vJ args w H F G hlen jL de gZ hG=>?_⟩
 match args,hlen with
 |[u,v],_=>
 obtain⟨s,t⟩:=x;have vJ:ui (s,t)=aa y:=vJ;unfold ui at vJ;split at vJ
 case isFalse=>cases vJ
 rename_i po;obtain rfl:=aqP vJ;have hu:bg H F w ag (.leaf .str s) u:=jL 0 _ rfl;have hv:bg H F w ag (.leaf .str t) v:=jL 1 _ rfl;obtain⟨cs,hc,_,h2⟩:=hu;obtain⟨yA,hc',_,MG⟩:=hv;have hc:cs=[.string s]:=hc;have hc':yA=[.string t]:=hc'
 have eu:u= .string s:=by have:=(h2 rfl).symm.trans hc;simpa using this
 have ev:v= .string t:=by have:=(MG rfl).symm.trans hc';simpa using this
 subst eu ev
 obtain⟨⟨⟨l⟩⟩,ht⟩:∃t':ByteArray,t'=t:=⟨t,rfl⟩
 match l,ht with
 |[c],ht=>
  subst ht
  refine(h1 s c w).mono λe w' ⟨he,hw⟩=>?_
  subst hw;refine⟨[_],he,rfl,H,F,⟨rfl,⟨rfl,aqU _⟩,rfl,aqU _,λ_ _ _=>rfl⟩,aN.le.refl H,λ_ h=>h,λ_ h=> .inl h,λi d h=>?_,?_,gZ⟩
  .have hd:i=0/\d= .val ag (.leaf .bool (decide (0<=ar5 s.data.toList c))):=by
    have h:find [(0,aI.val ag (.leaf .bool (decide (0<=ar5 s.data.toList c))))] i=aa d:=h;by_cases h0:i=0
    .subst h0;exact⟨rfl,(aqP h).symm⟩
    .rw[p3 h0]at h;cases h
   obtain⟨rfl,rfl⟩:=hd;exact bg.qm rfl
  .exact de
 |[],ht=>subst ht;cases po
 |_::_::_,ht=>subst ht;simp[ByteArray.size]at po
end
end
end Go.Proofs.YtfeahmiobbjklaaGreatDoor
