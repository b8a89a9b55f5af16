/- Joined texts: Shelf. -/
import Derived.Test.YtleifhfeahnocaaGreatDoorU4
import Derived.Sort.Grow
import Derived.Lib.SlicesCompact
import Derived.Lib.Bytealg
set_option linter.defProp false
open _root_.Bool renaming false->ag,true->af
open _root_.Option renaming none->ae,some->aa
open _root_.Array renaming getElem?_eq_some_iff->aja
open _root_.Go.Lib renaming compact->aji,indexByte->ajY
open _root_.Go.Sort renaming ahead->ajN,grow->aj4,mapBlock->akm,putCells->ake,putRow->ajF
open _root_.List.cons renaming injEq->ajw
open _root_.List renaming drop_eq_getElem_cons->ai5,getElem?_drop->ajE,getElem?_take->ajI,replicate->aiN,take_length->aiS
open _root_.Nat renaming beq->aiK,le_refl->aiM,le_trans->aiY,lt_of_lt_of_le->ai4,min_eq_left->ajV,zero_le->ai6
open _root_.Option.some renaming inj->aiF
open _root_.Go.Value renaming int->ajm,ownBlock->aiT
namespace Go.Proofs.YtleifhfeahnocaaGreatDoor
open Go Go.RowKit
set_option maxRecDepth 100000
set_option linter.unusedSimpArgs false
set_option linter.unusedVariables false
set_option linter.defProp false
section
def lX(l:List Int):List Int:=l.mergeSort λx y=>decide (x<=y)
section
variable {P:Program} {w w':World} {F:Nat->Prop} {T:TypeId}
def C4(w:World):aj4 w #[]=w:=by
 unfold aj4;rw[Array.append_empty]
def AX{g off:Nat}{d:Array Int}{n:Nat}{os:Array Obj}(h:w'=aj4 (ajF (ajm .i64) (ajN w n) g off d) os):Ext (λk=>k=g) w w':=by
 subst h;refine⟨rfl,rfl,rfl,?_,λk hk hn=>?_⟩
 .simp[aj4,ajF,akm,ajN]
 .simp only[aj4];rw[Array.getElem?_append_left (by simpa[ajF,akm,ajN]using hk)];simp only[ajF,akm,ajN,Array.getElem?_modify];rw[ai (λe=>hn e.symm)]
def OB{g off:Nat}{d:Array Int}{n:Nat}{os:Array Obj}(h:w'=aj4 (ajF (ajm .i64) (ajN w n) g off d) os){cur:Array Value}(hg:w.heap[g]? =aa (.cells cur T (0,0))):
 w'.heap[g]? =aa (.cells (ake (ajm .i64) off d cur) T (0,0)):=by
 subst h;have aH:g<w.heap.size:=(aja.1 hg).1;simp only[aj4];rw[Array.getElem?_append_left (by simpa[ajF,akm,ajN]using aH)];simp only[ajF,akm,ajN,Array.getElem?_modify];rw[aj trivial,hg];rfl
def Fj{l:List Int}{xs:List Value}(hx:xs.length=l.length*1)(h:∀i(hi:i<l.length),cG F w aB ((xs.drop (i*1)).take 1) l[i]):xs=l.map (ajm .i64):=by
 apply List.ext_getElem (by simpa using hx);intro i h1 h2
 have hi:i<l.length:=by simpa using h2
 have:(xs.drop (i*1)).take 1=[ajm .i64 l[i]]:=h i hi;rw[Nat.mul_one,ai5 h1,List.take_succ_cons,List.take_zero]at this;simpa only[List.getElem_map,ajw,and_true]using this
def Jd{off:Nat}{d:Array Int}{cur:Array Value}(h:off+d.size<=cur.size):((ake (ajm .i64) off d cur).toList.drop off).take d.size=d.toList.map (ajm .i64):=by
 apply List.ext_getElem (by simp[ake];omega);intro i h1 h2
 have hi:i<d.size:=by simpa using h2
 rw[List.getElem_take,List.getElem_drop,List.getElem_map,Array.getElem_toList,Array.getElem_toList];simp only[ake,Array.getElem_mapIdx];rw[aj ⟨by omega,by omega⟩,show off+i-off=i by omega,getElem!_pos d i hi]
def ud{v:Value}{l:List Int}(h:Own 0 F w T aB v l):(v= .slice ae 0 0/\l=[])\/∃g o0 cap cur,v= .slice (aa ⟨g,o0,ae⟩) l.length cap/\w.heap[g]? =aa (.cells cur T (0,0))/\l.length<=cap/\cap<=maxLen/\o0+cap<=cur.size/\Go.Sort.Holds (ajm .i64) w g o0 l.toArray:=by
 obtain⟨_,xs,⟨hx,h2⟩,h3⟩:=h;have e:=Fj hx h3
 rcases h2 with⟨rfl,h0⟩|⟨g,o0,cap,cur,rfl,_,hg,h4,h5,h6,h7⟩
 .exact .inl ⟨rfl,List.eq_nil_of_length_eq_zero h0⟩
 .refine .inr ⟨g,o0,cap,cur,rfl,hg,h4,h5,by simpa[Row.size]using h6,λj hj=>⟨?_,frozen_of_row w g _ cur T hg⟩⟩
  have hj:j<l.length:=by simpa using hj
  rw[cell_of_row w g _ cur T (0,0) hg]
  have:xs[j]? =aa (ajm .i64 l[j]):=by rw[e];simp[hj]
  rw[<-h7,ajI]at this;split at this
  .rw[ajE]at this;rw[getElem!_pos l.toArray j (by simpa using hj)];simpa using this
  .cases this
def wS{g o0 cap:Nat}{l d:List Int}{cur:Array Value}{n:Nat}{os:Array Obj}(h:Own 0 F w T aB (.slice (aa ⟨g,o0,ae⟩) l.length cap) l)(hg:w.heap[g]? =aa (.cells cur T (0,0)))(hs:o0+cap<=cur.size)(hc:cap<=maxLen)
 (hl:d.length<=cap)(m:Nat)(hm:m<=d.length)(hw:w'=aj4 (ajF (ajm .i64) (ajN w n) g o0 d.toArray) os):Own 0 F w' T aB (.slice (aa ⟨g,o0,ae⟩) m cap) (d.take m):=by
 have Rs:=OB hw hg;have hp:=Jd (off:=o0) (d:=d.toArray) (cur:=cur) (by simp;omega);refine⟨λk hk=>h.no k (by simpa[bF,aiT]using hk),(d.take m).map (ajm .i64),⟨by simp[Row.size], .inr ⟨g,o0,cap,_,by simp[ajV hm],ai6 _,Rs,by simp;omega,hc,by simp[ake,Row.size];omega,?_⟩⟩,λi hi=>?_⟩
 .have:((ake (ajm .i64) o0 d.toArray cur).toList.drop o0).take m=(d.take m).map (ajm .i64):=by
   rw[show m=min m d.toArray.size by simp[ajV hm],<-List.take_take,hp,List.map_take];simp[ajV hm]
  simpa[Row.size,ajV hm]using this
 .have pJ:i<d.length:=by simp at hi;omega
  show((List.map (ajm .i64) (d.take m)).drop (i*1)).take 1=[ajm .i64 (d.take m)[i]]
  rw[Nat.mul_one,ai5 (by simpa using hi)];simp
def qg(d:Array Int):∀m,(Go.Lib.compactUpTo d m).length<=m
 |0=>by simp[Go.Lib.compactUpTo]
 |m+1=>by
  have:=qg d m;rw[Go.Lib.compactUpTo_succ,List.length_append]
  split<;>simp<;>omega
theorem wT(l:List Int):(aji l).length<=l.length:=qg _ _
def nE{α:Type}{k o:Nat}{x:α}(h:o≠k):find [(k,x)] o=ae:=by
 have:aiK k o=ag:=by
  cases hb:aiK k o with
  |false=>rfl
  |true=>exact absurd (Nat.eq_of_beq_eq_true hb).symm h
 simp[find,this]
def Fk{f:FuncId}{r:Row}{fn:List r.den->Option (List r.den)}(hb:∃fn,P.funcs[f]? =aa fn/\(fn.name== "runtime.NumGoroutine")=ag/\fn.body.isNone=ag)
 (hr:r.beq r=af)
 (hc:∀{F:Nat->Prop}{w:World}{v:Value}{l m:List r.den},fn l=aa m->Own 0 F w T r v l->(∀b,F b->b<w.heap.size)->Calls P f #[v] w λe w'=>e= .returned (.tuple #[])/\Ext (bF v) w w'/\Own 0 F w' T r v m):
 fN P f ⟨⟨[(0, .val ag (.own 0))],[(0, .own T r)],[],1⟩,⟨[],[(0, .own T r)],[],2⟩,fn⟩:=by
 refine⟨hb,λx y rC args w H F G hlen gN cH eV hG=>?_⟩;have eV:jd H 1:=eV
 match args,hlen with
 |[v],_=>
 have hx:(iL 0 [(0,OS.own T r)] (de [(0,SS.val ag (.own 0))] (dG [.slice r] x)).2)=[(0,(0, .own T r x))]:=by
  show[(0,(0,(cD (.own T r) [⟨.slice r,x⟩]).1))]=_
  simp only[cD,hr,cond_true]
 have hy:(iL 1 [(0,OS.own T r)] (de [] (dG [.slice r] y)).2)=[(0,(1, .own T r y))]:=by
  show[(0,(1,(cD (.own T r) [⟨.slice r,y⟩]).1))]=_
  simp only[cD,hr,cond_true]
 have cH:aL (λk=>w.heap.size<=k\/G k) H F w (find [(0,(0,Th.own T r x))]) 1:=by rw[<-hx];exact cH
 have hd:aG H F w (.val ag (.own 0)) v:=gN 0 _ rfl;obtain⟨cs,⟨v',hv,h1,rfl⟩,_,rB⟩:=hd
 obtain rfl:v'=v:=by have:=rB rfl;simpa using this
 have ed:=cH.own rfl hv;obtain⟨v2,si,cP⟩:=cH.obj 0 0 _ rfl;rw[hv]at si;obtain rfl:=aiF si
 refine(hc rC ed cH.lt).mono λe w' ⟨he,bW,gP⟩=>⟨[],he,rfl,H.bR 1 (.own T r y),F,⟨bW.os,bW.tape,bW.output,bW.size,λk hk hn=>bW.block k hk λhm=>?_⟩,aK.gD (eV 1 (aiM _)).2,λb h=>h,λb h=> .inl h,λt d h=>?_,?_,?_⟩
 .rcases cP.use k hm with h|h
  .omega
  .exact hn h
 .cases h
 .show aL _ _ F w' (find (iL 1 [(0,OS.own T r)] (de [] (dG [.slice r] y)).2)) 2
  rw[hy];refine⟨λo s t ho=>?_,λo o' s s' t t' u u' du ho jS=>?_,λm h1 h2=>⟨(eV m (by have:2<=m:=h1;omega)).1,?_⟩,λb hb=>ai4 (cH.lt b hb) bW.size,λb hb=> .inl (aiY bW.size hb),cH.gl.step (Step.ext bW cH.lt ed.no)⟩
  .obtain⟨rfl,h⟩:o=0/\(1,Th.own T r y)=(s,t):=by
    by_cases h0:o=0
    .subst h0;exact⟨rfl,aiF ho⟩
    .exfalso;have:find [(0,(1,Th.own T r y))] o=ae:=nE h0;rw[this]at ho;cases ho
   cases h;refine⟨v',hv,h1,by simp[aK.bR,Th.base],Own.to _ gP,gP.no,gP.lt,λk hk=>?_⟩;exact cP.use k hk
  .have key:∀o x,find [(0,(1,Th.own T r y))] o=aa x->o=0:=λo x h=>by
    by_cases h0:o=0
    .exact h0
    .have:find [(0,(1,Th.own T r y))] o=ae:=nE h0;rw[this]at h;cases h
   exact absurd ((key o _ ho).trans (key o' _ jS).symm) du
  .have h1:2<=m:=h1
   show(if m=1 then _ else H.con m)=ae
   rw[ai (by omega)];exact(eV m (by omega)).2
 .intro m hm;have hm:2<=m:=hm;refine⟨(eV m (by omega)).1,?_⟩
  show(if m=1 then _ else H.con m)=ae
  rw[ai (by omega)];exact(eV m (by omega)).2
def Je{f:FuncId}{r:Row}{fn:List r.den->Option (List r.den)}(hb:∃fn,P.funcs[f]? =aa fn/\(fn.name== "runtime.NumGoroutine")=ag/\fn.body.isNone=ag)
 (hr:r.beq r=af)
 (hc:∀{F:Nat->Prop}{w:World}{v:Value}{l m:List r.den},fn l=aa m->Own 0 F w T r v l->(∀b,F b->b<w.heap.size)->Calls P f #[v] w λe w'=>∃v',e= .returned v'/\Ext (bF v) w w'/\Own 0 F w' T r v' m/\∀k,bF v' k->bF v k):
 fN P f ⟨⟨[(0, .val ag (.own 0))],[(0, .own T r)],[],1⟩,⟨[(0, .val ag (.own 1))],[(1, .own T r)],[],2⟩,fn⟩:=by
 refine⟨hb,λx y rC args w H F G hlen gN cH eV hG=>?_⟩;have eV:jd H 1:=eV
 match args,hlen with
 |[v],_=>
 have hx:(iL 0 [(0,OS.own T r)] (de [(0,SS.val ag (.own 0))] (dG [.slice r] x)).2)=[(0,(0, .own T r x))]:=by
  show[(0,(0,(cD (.own T r) [⟨.slice r,x⟩]).1))]=_
  simp only[cD,hr,cond_true]
 have hy:(iL 1 [(1,OS.own T r)] (de [(0,SS.val ag (.own 1))] (dG [.slice r] y)).2)=[(1,(1, .own T r y))]:=by
  show[(1,(1,(cD (.own T r) [⟨.slice r,y⟩]).1))]=_
  simp only[cD,hr,cond_true]
 have cH:aL (λk=>w.heap.size<=k\/G k) H F w (find [(0,(0,Th.own T r x))]) 1:=by rw[<-hx];exact cH
 have hd:aG H F w (.val ag (.own 0)) v:=gN 0 _ rfl;obtain⟨cs,⟨v',hv,h1,rfl⟩,_,rB⟩:=hd
 obtain rfl:v'=v:=by have:=rB rfl;simpa using this
 have ed:=cH.own rfl hv;obtain⟨v2,si,cP⟩:=cH.obj 0 0 _ rfl;rw[hv]at si;obtain rfl:=aiF si;have xM:=eV 1 (aiM _)
 refine(hc rC ed cH.lt).mono λe w' ⟨v3,he,bW,gP,Cp⟩=>?_
 have TN:v3.oneCell'=af:=(lU.one gP.2)
 have hle:H.le ((H.bR 1 (.own T r y)).cE 1 v3):=⟨λo u h=>by
  show(if o=1 then aa v3 else H.val o)=aa u
  rw[ai (λe=>by rw[e,xM.1]at h;cases h)]
  exact h,(aK.gD (t:= .own T r y) xM.2).con,(aK.gD (t:= .own T r y) xM.2).sub⟩
 refine⟨[v3],he,rfl,(H.bR 1 (.own T r y)).cE 1 v3,F,⟨bW.os,bW.tape,bW.output,bW.size,λk hk hn=>bW.block k hk λhm=>?_⟩,hle,λb h=>h,λb h=> .inl h,λt d h=>?_,?_,?_⟩
 .rcases cP.use k hm with h|h
  .omega
  .exact hn h
 .have ht:t=0/\d= .val ag (.own 1):=by
   have h:find [(0,aI.val ag (.own 1))] t=aa d:=h;by_cases h0:t=0
   .subst h0;exact⟨rfl,(aiF h).symm⟩
   .have e:find [(0,aI.val ag (.own 1))] t=ae:=nE h0;rw[e]at h;cases h
  obtain⟨rfl,rfl⟩:=ht;exact⟨[v3],⟨v3,by simp[aK.cE],TN,rfl⟩,rfl,λ_=>rfl⟩
 .show aL _ _ F w' (find (iL 1 [(1,OS.own T r)] (de [(0,SS.val ag (.own 1))] (dG [.slice r] y)).2)) 2
  rw[hy]
  have key:∀o x,find [(1,(1,Th.own T r y))] o=aa x->o=1/\x=(1,Th.own T r y):=λo x h=>by
   by_cases h0:o=1
   .subst h0;exact⟨rfl,(aiF h).symm⟩
   .have:find [(1,(1,Th.own T r y))] o=ae:=nE h0;rw[this]at h;cases h
  refine⟨λo s t ho=>?_,λo o' s s' t t' u u' du ho jS=>?_,λm h1 h2=>⟨?_,?_⟩,λb hb=>ai4 (cH.lt b hb) bW.size,λb hb=> .inl (aiY bW.size hb),cH.gl.step (Step.ext bW cH.lt ed.no)⟩
  .obtain⟨rfl,h⟩:=key o _ ho;cases h;exact⟨v3,by simp[aK.cE],TN,by simp[aK.bR,aK.cE,Th.base],Own.to _ gP,gP.no,gP.lt,λk hk=>cP.use k (Cp k hk)⟩
  .exact absurd ((key o _ ho).1.trans (key o' _ jS).1.symm) du
  .have h1:2<=m:=h1
   show(if m=1 then _ else H.val m)=ae
   rw[ai (by omega)];exact(eV m (by omega)).1
  .have h1:2<=m:=h1
   show(if m=1 then _ else H.con m)=ae
   rw[ai (by omega)];exact(eV m (by omega)).2
 .intro m hm;have hm:2<=m:=hm;refine⟨?_,?_⟩
  .show(if m=1 then _ else H.val m)=ae
   rw[ai (by omega)];exact(eV m (by omega)).1
  .show(if m=1 then _ else H.con m)=ae
   rw[ai (by omega)];exact(eV m (by omega)).2
def zh(l:List Int):Option (List Int):=if l.length<4611686018427387904 then aa (lX l)else ae
def OC{f:FuncId}(hb:∃fn,P.funcs[f]? =aa fn/\(fn.name== "runtime.NumGoroutine")=ag/\fn.body.isNone=ag)
 (h1:∀(ny off cap:Nat)(zs:List Int)(w:World),Go.Sort.Holds (ajm .i64) w ny off zs.toArray->ny<w.heap.size->zs.length<4611686018427387904->
   Calls P f #[.slice (aa ⟨ny,off,ae⟩) zs.length cap] w λe w'=>e= .returned (.tuple #[])/\∃n os,w'=aj4 (ajF (ajm .i64) (ajN w n) ny off (zs.mergeSort λx y=>decide (x<=y)).toArray) os)
 (h2:∀(p:Option Addr)(cap:Nat)(w:World),Calls P f #[.slice p 0 cap] w λe w'=>e= .returned (.tuple #[])/\w'=w):
 fN P f ⟨⟨[(0, .val ag (.own 0))],[(0, .own T aB)],[],1⟩,⟨[],[(0, .own T aB)],[],2⟩,λx=>zh x⟩:=by
 refine Fk (r:=aB) hb rfl λ{F w v l m}hm ho hF=>?_
 have hm:zh l=aa m:=hm;unfold zh at hm;split at hm
 case isFalse=>cases hm
 rename_i hlen;obtain rfl:=aiF hm
 rcases ud ho with⟨rfl,rfl⟩|⟨g,o0,cap,cur,rfl,hg,vg,Nq,kP,hh⟩
 .refine(h2 ae 0 w).mono λe w' ⟨he,hw⟩=>⟨he,hw▸⟨rfl,rfl,rfl,aiM _,λ_ _ _=>rfl⟩,hw▸?_⟩
  simpa[lX]using ho
 .refine(h1 g o0 cap l w hh (aja.1 hg).1 hlen).mono λe w' ⟨he,n,os,hw⟩=>⟨he,?_,?_⟩
  .have:=AX hw;exact⟨this.os,this.tape,this.output,this.size,λk hk hn=>this.block k hk λe=>hn (by simp[bF,aiT,e])⟩
  .have hl:(lX l).length=l.length:=List.length_mergeSort ..;have:=wS (d:=lX l) ho hg kP Nq (by omega) (lX l).length (aiM _) hw;rw[aiS,hl]at this;exact this
def oV(l:List Int):Option (List Int):=if l.length<=9223372036854775807 then aa (aji l)else ae
def Fl{f:FuncId}(hb:∃fn,P.funcs[f]? =aa fn/\(fn.name== "runtime.NumGoroutine")=ag/\fn.body.isNone=ag)
 (h1:∀(ny off cap:Nat)(zs:List Int)(w:World),Go.Sort.Holds (ajm .i64) w ny off zs.toArray->zs.length<=9223372036854775807->zs.length<=cap->
   Calls P f #[.slice (aa ⟨ny,off,ae⟩) zs.length cap] w λe w'=>e= .returned (.slice (aa ⟨ny,off,ae⟩) (aji zs).length cap)/\∃q,w'=ajF (ajm .i64) (ajN w q) ny off (aji zs++aiN (zs.length-(aji zs).length) 0).toArray)
 (h2:∀(p:Option Addr)(cap:Nat)(w:World),Calls P f #[.slice p 0 cap] w λe w'=>e= .returned (.slice p 0 cap)/\w'=w):
 fN P f ⟨⟨[(0, .val ag (.own 0))],[(0, .own T aB)],[],1⟩,⟨[(0, .val ag (.own 1))],[(1, .own T aB)],[],2⟩,λx=>oV x⟩:=by
 refine Je (r:=aB) hb rfl λ{F w v l m}hm ho hF=>?_
 have hm:oV l=aa m:=hm;unfold oV at hm;split at hm
 case isFalse=>cases hm
 rename_i hlen;obtain rfl:=aiF hm
 rcases ud ho with⟨rfl,rfl⟩|⟨g,o0,cap,cur,rfl,hg,vg,Nq,kP,hh⟩
 .refine(h2 ae 0 w).mono λe w' ⟨he,hw⟩=>⟨_,he,hw▸⟨rfl,rfl,rfl,aiM _,λ_ _ _=>rfl⟩,hw▸?_,λk hk=>hk⟩
  exact ho
 .have QT:(aji l).length<=l.length:=wT l
  refine(h1 g o0 cap l w hh hlen vg).mono λe w' ⟨he,n,hw⟩=>⟨_,he,?_,?_,λk hk=>by simpa[bF,aiT]using hk⟩
  all_goals have hw:w'=aj4 (ajF (ajm .i64) (ajN w n) g o0 (aji l++aiN (l.length-(aji l).length) 0).toArray) #[]:=by rw[hw,C4]
  .have:=AX hw;exact⟨this.os,this.tape,this.output,this.size,λk hk hn=>this.block k hk λe=>hn (by simp[bF,aiT,e])⟩
  .have:=wS (d:=aji l++aiN (l.length-(aji l).length) 0) ho hg kP Nq (by simp;omega) (aji l).length (by simp) hw;rw[List.take_left]at this;exact this
def qT(x:ByteArray×ByteArray):Option Bool:=if x.2.size=1 then aa (decide (0<=ajY x.1.data.toList (x.2.data.getD 0 0)))else ae
def C5{f:FuncId}(hb:∃fn,P.funcs[f]? =aa fn/\(fn.name== "runtime.NumGoroutine")=ag/\fn.body.isNone=ag)
 (h1:∀(s:ByteArray)(c:UInt8)(w:World),Calls P f #[.string s, .string ⟨#[c]⟩] w λe w'=>e= .returned (.bool (decide (0<=ajY s.data.toList c)))/\w'=w):
 fN P f ⟨⟨[(0, .val ag (.leaf .str)),(1, .val ag (.leaf .str))],[],[],0⟩,⟨[(0, .val ag (.leaf .bool))],[],[],0⟩,λx=>qT x⟩:=by
 refine⟨hb,λx y rC args w H F G hlen gN cH eV hG=>?_⟩
 match args,hlen with
 |[u,v],_=>
 obtain⟨s,t⟩:=x;have rC:qT (s,t)=aa y:=rC;unfold qT at rC;split at rC
 case isFalse=>cases rC
 rename_i kP;obtain rfl:=aiF rC;have hu:aW H F w ag (.leaf .str s) u:=gN 0 _ rfl;have hv:aW H F w ag (.leaf .str t) v:=gN 1 _ rfl;obtain⟨cs,hc,_,h2⟩:=hu;obtain⟨ra,K6,_,J6⟩:=hv;have hc:cs=[.string s]:=hc;have K6:ra=[.string t]:=K6
 have eu:u= .string s:=by have:=(h2 rfl).symm.trans hc;simpa using this
 have ev:v= .string t:=by have:=(J6 rfl).symm.trans K6;simpa using this
 subst eu ev
 obtain⟨⟨⟨l⟩⟩,ht⟩:∃t':ByteArray,t'=t:=⟨t,rfl⟩
 match l,ht with
 |[c],ht=>
  subst ht
  refine(h1 s c w).mono λe w' ⟨he,hw⟩=>?_
  subst hw;refine⟨[_],he,rfl,H,F,⟨rfl,rfl,rfl,aiM _,λ_ _ _=>rfl⟩,aK.le.refl H,λ_ h=>h,λ_ h=> .inl h,λi d h=>?_,?_,eV⟩
  .have hd:i=0/\d= .val ag (.leaf .bool (decide (0<=ajY s.data.toList c))):=by
    have h:find [(0,aI.val ag (.leaf .bool (decide (0<=ajY s.data.toList c))))] i=aa d:=h;by_cases h0:i=0
    .subst h0;exact⟨rfl,(aiF h).symm⟩
    .rw[nE h0]at h;cases h
   obtain⟨rfl,rfl⟩:=hd;exact aW.mD rfl
  .exact cH
 |[],ht=>subst ht;cases kP
 |_::_::_,ht=>subst ht;simp[ByteArray.size]at kP
end
end
end Go.Proofs.YtleifhfeahnocaaGreatDoor
