/- Joined texts: Shelf. -/
import Derived.Test.YtfeahmiobbjklaaGreatDoorU4
import Derived.Sort.Grow
import Derived.Lib.SlicesCompact
import Derived.Lib.Bytealg
set_option linter.defProp false
open _root_.Bool renaming false->ag,true->af
open _root_.Option renaming none->ae,some->aa
open _root_.Array renaming getElem?_append_left->ahJ,getElem?_eq_some_iff->agZ
open _root_.Go.Lib renaming compact->ahr
open _root_.Go.Sort renaming ahead->ahf,grow->ahi,mapBlock->aho,putCells->ag6,putRow->ag8
open _root_.List.cons renaming injEq->ahl
open _root_.List renaming getElem?_drop->agU,getElem?_take->ag7,replicate->agv
open _root_.Nat renaming beq->agu,le_refl->agt,le_trans->agR,lt_of_lt_of_le->agK,min_eq_left->ahs
open _root_.Option.some renaming inj->agq
open _root_.Go.Value renaming int->ahb,ownBlock->agI
namespace Go.Proofs.YtfeahmiobbjklaaGreatDoor
open Go Go.RowKit
set_option maxRecDepth 100000
set_option linter.unusedSimpArgs false
set_option linter.unusedVariables false
set_option linter.defProp false
section
def Bv(l:List Int):List Int:=l.mergeSort λx y=>decide (x<=y)
section
variable {P:Program} {w w':World} {F:Nat->Prop} {T:TypeId}
def Ko(w:World):ahi w #[]=w:=by
 unfold ahi;rw[Array.append_empty]
def FA{g off:Nat}{d:Array Int}{n:Nat}{os:Array Obj}(h:w'=ahi (ag8 (ahb .i64) (ahf w n) g off d) os):Ext (λk=>k=g) w w':=by
 subst h;refine⟨rfl,⟨rfl,Nat.le_add_right _ _⟩,rfl,?_,λk hk hn=>?_⟩
 .simp[ahi,ag8,aho,ahf]
 .simp only[ahi];rw[ahJ (by simpa[ag8,aho,ahf]using hk)];simp only[ag8,aho,ahf,Array.getElem?_modify];rw[ai (λe=>hn e.symm)]
def MZ{g off:Nat}{d:Array Int}{n:Nat}{os:Array Obj}(h:w'=ahi (ag8 (ahb .i64) (ahf w n) g off d) os){cur:Array Value}(hg:w.heap[g]? =aa (.cells cur T (0,0))):
 w'.heap[g]? =aa (.cells (ag6 (ahb .i64) off d cur) T (0,0)):=by
 subst h;have bi:g<w.heap.size:=(agZ.1 hg).1;simp only[ahi];rw[ahJ (by simpa[ag8,aho,ahf]using bi)];simp only[ag8,aho,ahf,Array.getElem?_modify];rw[aj trivial,hg];rfl
def D6{l:List Int}{xs:List Value}(hx:xs.length=l.length*1)(h:∀i(hi:i<l.length),cF F w ay ((xs.drop (i*1)).take 1) l[i]):xs=l.map (ahb .i64):=by
 apply List.ext_getElem (by simpa using hx);intro i h1 h2
 have hi:i<l.length:=by simpa using h2
 have:(xs.drop (i*1)).take 1=[ahb .i64 l[i]]:=h i hi;rw[Nat.mul_one,List.drop_eq_getElem_cons h1,List.take_succ_cons,List.take_zero]at this;simpa only[List.getElem_map,ahl,and_true]using this
def HF{off:Nat}{d:Array Int}{cur:Array Value}(h:off+d.size<=cur.size):((ag6 (ahb .i64) off d cur).toList.drop off).take d.size=d.toList.map (ahb .i64):=by
 apply List.ext_getElem (by simp[ag6];omega);intro i h1 h2
 have hi:i<d.size:=by simpa using h2
 rw[List.getElem_take,List.getElem_drop,List.getElem_map,Array.getElem_toList,Array.getElem_toList];simp only[ag6,Array.getElem_mapIdx];rw[aj ⟨by omega,by omega⟩,show off+i-off=i by omega,getElem!_pos d i hi]
def xW{v:Value}{l:List Int}(h:lJ 0 F w T ay v l):(v= .slice ae 0 0/\l=[])\/∃g o0 cap cur,v= .slice (aa ⟨g,o0,ae⟩) l.length cap/\w.heap[g]? =aa (.cells cur T (0,0))/\l.length<=cap/\cap<=maxLen/\o0+cap<=cur.size/\Go.Sort.Holds (ahb .i64) w g o0 l.toArray:=by
 obtain⟨_,xs,⟨hx,h2⟩,h3⟩:=h;have e:=D6 hx h3
 rcases h2 with⟨rfl,h0⟩|⟨g,o0,cap,cur,rfl,_,hg,h4,h5,h6,h7⟩
 .exact .inl ⟨rfl,List.eq_nil_of_length_eq_zero h0⟩
 .refine .inr ⟨g,o0,cap,cur,rfl,hg,h4,h5,by simpa[Row.size]using h6,λj hj=>⟨?_,frozen_of_row w g _ cur T hg⟩⟩
  have hj:j<l.length:=by simpa using hj
  rw[cell_of_row w g _ cur T (0,0) hg]
  have:xs[j]? =aa (ahb .i64 l[j]):=by rw[e];simp[hj]
  rw[<-h7,ag7]at this;split at this
  .rw[agU]at this;rw[getElem!_pos l.toArray j (by simpa using hj)];simpa using this
  .cases this
def Bw{g o0 cap:Nat}{l d:List Int}{cur:Array Value}{n:Nat}{os:Array Obj}(h:lJ 0 F w T ay (.slice (aa ⟨g,o0,ae⟩) l.length cap) l)(hg:w.heap[g]? =aa (.cells cur T (0,0)))(hs:o0+cap<=cur.size)(hc:cap<=maxLen)
 (hl:d.length<=cap)(m:Nat)(hm:m<=d.length)(hw:w'=ahi (ag8 (ahb .i64) (ahf w n) g o0 d.toArray) os):lJ 0 F w' T ay (.slice (aa ⟨g,o0,ae⟩) m cap) (d.take m):=by
 have Py:=MZ hw hg;have hp:=HF (off:=o0) (d:=d.toArray) (cur:=cur) (by simp;omega);refine⟨λk hk=>h.no k (by simpa[bF,agI]using hk),(d.take m).map (ahb .i64),⟨by simp[Row.size], .inr ⟨g,o0,cap,_,by simp[ahs hm],Nat.zero_le _,Py,by simp;omega,hc,by simp[ag6,Row.size];omega,?_⟩⟩,λi hi=>?_⟩
 .have:((ag6 (ahb .i64) o0 d.toArray cur).toList.drop o0).take m=(d.take m).map (ahb .i64):=by
   rw[show m=min m d.toArray.size by simp[ahs hm],<-List.take_take,hp,List.map_take];simp[ahs hm]
  simpa[Row.size,ahs hm]using this
 .have jJ:i<d.length:=by simp at hi;omega
  show((List.map (ahb .i64) (d.take m)).drop (i*1)).take 1=[ahb .i64 (d.take m)[i]]
  rw[Nat.mul_one,List.drop_eq_getElem_cons (by simpa using hi)];simp
def pB(d:Array Int):∀m,(Go.Lib.compactUpTo d m).length<=m
 |0=>by simp[Go.Lib.compactUpTo]
 |m+1=>by
  have:=pB d m;rw[Go.Lib.compactUpTo_succ,List.length_append]
  split<;>simp<;>omega
def D7(l:List Int):(ahr l).length<=l.length:=pB _ _
def mc{α:Type}{k o:Nat}{x:α}(h:o≠k):find [(k,x)] o=ae:=by
 have:agu k o=ag:=by
  cases hb:agu k o with
  |false=>rfl
  |true=>exact absurd (Nat.eq_of_beq_eq_true hb).symm h
 simp[find,this]
def D8{f:FuncId}{r:Row}{fn:List r.den->Option (List r.den)}(hb:∃fn,P.funcs[f]? =aa fn/\(fn.name== "runtime.NumGoroutine")=ag/\fn.body.isNone=ag)
 (hr:r.beq r=af)
 (hc:∀{F:Nat->Prop}{w:World}{v:Value}{l m:List r.den},fn l=aa m->lJ 0 F w T r v l->(∀b,F b->b<w.heap.size)->Calls P f #[v] w λe w'=>e= .returned (.tuple #[])/\Ext (bF v) w w'/\lJ 0 F w' T r v m):
 fL P f ⟨⟨[(0, .val ag (.own 0))],[(0, .own T r)],[],1⟩,⟨[],[(0, .own T r)],[],2⟩,fn⟩:=by
 refine⟨hb,λx y rv args w H F G hlen gE cA fg hG=>?_⟩;have fg:gY H 1:=fg
 match args,hlen with
 |[v],_=>
 have hx:(gL 0 [(0,OS.own T r)] (cS [(0,SS.val ag (.own 0))] (c7 [.slice r] x)).2)=[(0,(0, .own T r x))]:=by
  show[(0,(0,(c9 (.own T r) [⟨.slice r,x⟩]).1))]=_
  simp only[c9,hr,cond_true]
 have hy:(gL 1 [(0,OS.own T r)] (cS [] (c7 [.slice r] y)).2)=[(0,(1, .own T r y))]:=by
  show[(0,(1,(c9 (.own T r) [⟨.slice r,y⟩]).1))]=_
  simp only[c9,hr,cond_true]
 have cA:aI (λk=>w.heap.size<=k\/G k) H F w (find [(0,(0,Th.own T r x))]) 1:=by rw[<-hx];exact cA
 have hd:aB H F w (.val ag (.own 0)) v:=gE 0 _ rfl;obtain⟨cs,⟨v',hv,h1,rfl⟩,_,qQ⟩:=hd
 obtain rfl:v'=v:=by have:=qQ rfl;simpa using this
 have dS:=cA.own rfl hv;obtain⟨v2,mD,cL⟩:=cA.obj 0 0 _ rfl;rw[hv]at mD;obtain rfl:=agq mD
 refine(hc rv dS cA.lt).mono λe w' ⟨he,bC,gy⟩=>⟨[],he,rfl,H.bk 1 (.own T r y),F,⟨bC.os,bC.tape,bC.output,bC.size,λk hk hn=>bC.block k hk λhm=>?_⟩,aG.fJ (fg 1 (agt _)).2,λb h=>h,λb h=> .inl h,λt d h=>?_,?_,?_⟩
 .rcases cL.use k hm with h|h
  .omega
  .exact hn h
 .cases h
 .show aI _ _ F w' (find (gL 1 [(0,OS.own T r)] (cS [] (c7 [.slice r] y)).2)) 2
  rw[hy];refine⟨λo s t ho=>?_,λo o' s s' t t' u u' dJ ho lD=>?_,λm h1 h2=>⟨(fg m (by have:2<=m:=h1;omega)).1,?_⟩,λb hb=>agK (cA.lt b hb) bC.size,λb hb=> .inl (agR bC.size hb),cA.gl.step (Step.ext bC cA.lt dS.no)⟩
  .obtain⟨rfl,h⟩:o=0/\(1,Th.own T r y)=(s,t):=by
    by_cases h0:o=0
    .subst h0;exact⟨rfl,agq ho⟩
    .exfalso;have:find [(0,(1,Th.own T r y))] o=ae:=mc h0;rw[this]at ho;cases ho
   cases h;refine⟨v',hv,h1,by simp[aG.bk,Th.base],lJ.to _ gy,gy.no,gy.lt,λk hk=>?_⟩;exact cL.use k hk
  .have key:∀o x,find [(0,(1,Th.own T r y))] o=aa x->o=0:=λo x h=>by
    by_cases h0:o=0
    .exact h0
    .have:find [(0,(1,Th.own T r y))] o=ae:=mc h0;rw[this]at h;cases h
   exact absurd ((key o _ ho).trans (key o' _ lD).symm) dJ
  .have h1:2<=m:=h1
   show(if m=1 then _ else H.con m)=ae
   rw[ai (by omega)];exact(fg m (by omega)).2
 .intro m hm;have hm:2<=m:=hm;refine⟨(fg m (by omega)).1,?_⟩
  show(if m=1 then _ else H.con m)=ae
  rw[ai (by omega)];exact(fg m (by omega)).2
def HG{f:FuncId}{r:Row}{fn:List r.den->Option (List r.den)}(hb:∃fn,P.funcs[f]? =aa fn/\(fn.name== "runtime.NumGoroutine")=ag/\fn.body.isNone=ag)
 (hr:r.beq r=af)
 (hc:∀{F:Nat->Prop}{w:World}{v:Value}{l m:List r.den},fn l=aa m->lJ 0 F w T r v l->(∀b,F b->b<w.heap.size)->Calls P f #[v] w λe w'=>∃v',e= .returned v'/\Ext (bF v) w w'/\lJ 0 F w' T r v' m/\∀k,bF v' k->bF v k):
 fL P f ⟨⟨[(0, .val ag (.own 0))],[(0, .own T r)],[],1⟩,⟨[(0, .val ag (.own 1))],[(1, .own T r)],[],2⟩,fn⟩:=by
 refine⟨hb,λx y rv args w H F G hlen gE cA fg hG=>?_⟩;have fg:gY H 1:=fg
 match args,hlen with
 |[v],_=>
 have hx:(gL 0 [(0,OS.own T r)] (cS [(0,SS.val ag (.own 0))] (c7 [.slice r] x)).2)=[(0,(0, .own T r x))]:=by
  show[(0,(0,(c9 (.own T r) [⟨.slice r,x⟩]).1))]=_
  simp only[c9,hr,cond_true]
 have hy:(gL 1 [(1,OS.own T r)] (cS [(0,SS.val ag (.own 1))] (c7 [.slice r] y)).2)=[(1,(1, .own T r y))]:=by
  show[(1,(1,(c9 (.own T r) [⟨.slice r,y⟩]).1))]=_
  simp only[c9,hr,cond_true]
 have cA:aI (λk=>w.heap.size<=k\/G k) H F w (find [(0,(0,Th.own T r x))]) 1:=by rw[<-hx];exact cA
 have hd:aB H F w (.val ag (.own 0)) v:=gE 0 _ rfl;obtain⟨cs,⟨v',hv,h1,rfl⟩,_,qQ⟩:=hd
 obtain rfl:v'=v:=by have:=qQ rfl;simpa using this
 have dS:=cA.own rfl hv;obtain⟨v2,mD,cL⟩:=cA.obj 0 0 _ rfl;rw[hv]at mD;obtain rfl:=agq mD;have yF:=fg 1 (agt _)
 refine(hc rv dS cA.lt).mono λe w' ⟨v3,he,bC,gy,JN⟩=>?_
 have Wl:v3.oneCell'=af:=(lR.one gy.2)
 have hle:H.le ((H.bk 1 (.own T r y)).cB 1 v3):=⟨λo u h=>by
  show(if o=1 then aa v3 else H.val o)=aa u
  rw[ai (λe=>by rw[e,yF.1]at h;cases h)]
  exact h,(aG.fJ (t:= .own T r y) yF.2).con,(aG.fJ (t:= .own T r y) yF.2).sub⟩
 refine⟨[v3],he,rfl,(H.bk 1 (.own T r y)).cB 1 v3,F,⟨bC.os,bC.tape,bC.output,bC.size,λk hk hn=>bC.block k hk λhm=>?_⟩,hle,λb h=>h,λb h=> .inl h,λt d h=>?_,?_,?_⟩
 .rcases cL.use k hm with h|h
  .omega
  .exact hn h
 .have ht:t=0/\d= .val ag (.own 1):=by
   have h:find [(0,aC.val ag (.own 1))] t=aa d:=h;by_cases h0:t=0
   .subst h0;exact⟨rfl,(agq h).symm⟩
   .have e:find [(0,aC.val ag (.own 1))] t=ae:=mc h0;rw[e]at h;cases h
  obtain⟨rfl,rfl⟩:=ht;exact⟨[v3],⟨v3,by simp[aG.cB],Wl,rfl⟩,rfl,λ_=>rfl⟩
 .show aI _ _ F w' (find (gL 1 [(1,OS.own T r)] (cS [(0,SS.val ag (.own 1))] (c7 [.slice r] y)).2)) 2
  rw[hy]
  have key:∀o x,find [(1,(1,Th.own T r y))] o=aa x->o=1/\x=(1,Th.own T r y):=λo x h=>by
   by_cases h0:o=1
   .subst h0;exact⟨rfl,(agq h).symm⟩
   .have:find [(1,(1,Th.own T r y))] o=ae:=mc h0;rw[this]at h;cases h
  refine⟨λo s t ho=>?_,λo o' s s' t t' u u' dJ ho lD=>?_,λm h1 h2=>⟨?_,?_⟩,λb hb=>agK (cA.lt b hb) bC.size,λb hb=> .inl (agR bC.size hb),cA.gl.step (Step.ext bC cA.lt dS.no)⟩
  .obtain⟨rfl,h⟩:=key o _ ho;cases h;exact⟨v3,by simp[aG.cB],Wl,by simp[aG.bk,aG.cB,Th.base],lJ.to _ gy,gy.no,gy.lt,λk hk=>cL.use k (JN k hk)⟩
  .exact absurd ((key o _ ho).1.trans (key o' _ lD).1.symm) dJ
  .have h1:2<=m:=h1
   show(if m=1 then _ else H.val m)=ae
   rw[ai (by omega)];exact(fg m (by omega)).1
  .have h1:2<=m:=h1
   show(if m=1 then _ else H.con m)=ae
   rw[ai (by omega)];exact(fg m (by omega)).2
 .intro m hm;have hm:2<=m:=hm;refine⟨?_,?_⟩
  .show(if m=1 then _ else H.val m)=ae
   rw[ai (by omega)];exact(fg m (by omega)).1
  .show(if m=1 then _ else H.con m)=ae
   rw[ai (by omega)];exact(fg m (by omega)).2
def FB(l:List Int):Option (List Int):=if l.length<4611686018427387904 then aa (Bv l)else ae
def M0{f:FuncId}(hb:∃fn,P.funcs[f]? =aa fn/\(fn.name== "runtime.NumGoroutine")=ag/\fn.body.isNone=ag)
 (h1:∀(nA off cap:Nat)(zs:List Int)(w:World),Go.Sort.Holds (ahb .i64) w nA off zs.toArray->nA<w.heap.size->zs.length<4611686018427387904->
   Calls P f #[.slice (aa ⟨nA,off,ae⟩) zs.length cap] w λe w'=>e= .returned (.tuple #[])/\∃n os,w'=ahi (ag8 (ahb .i64) (ahf w n) nA off (zs.mergeSort λx y=>decide (x<=y)).toArray) os)
 (h2:∀(p:Option Addr)(cap:Nat)(w:World),Calls P f #[.slice p 0 cap] w λe w'=>e= .returned (.tuple #[])/\w'=w):
 fL P f ⟨⟨[(0, .val ag (.own 0))],[(0, .own T ay)],[],1⟩,⟨[],[(0, .own T ay)],[],2⟩,λx=>FB x⟩:=by
 refine D8 (r:=ay) hb rfl λ{F w v l m}hm ho hF=>?_
 have hm:FB l=aa m:=hm;unfold FB at hm;split at hm
 case isFalse=>cases hm
 rename_i hlen;obtain rfl:=agq hm
 rcases xW ho with⟨rfl,rfl⟩|⟨g,o0,cap,cur,rfl,hg,Af,Mo,mz,hh⟩
 .refine(h2 ae 0 w).mono λe w' ⟨he,hw⟩=>⟨he,hw▸⟨rfl,⟨rfl,agt _⟩,rfl,agt _,λ_ _ _=>rfl⟩,hw▸?_⟩
  simpa[Bv]using ho
 .refine(h1 g o0 cap l w hh (agZ.1 hg).1 hlen).mono λe w' ⟨he,n,os,hw⟩=>⟨he,?_,?_⟩
  .have:=FA hw;exact⟨this.os,this.tape,this.output,this.size,λk hk hn=>this.block k hk λe=>hn (by simp[bF,agI,e])⟩
  .have hl:(Bv l).length=l.length:=List.length_mergeSort ..;have:=Bw (d:=Bv l) ho hg mz Mo (by omega) (Bv l).length (agt _) hw;rw[List.take_length,hl]at this;exact this
def r3(l:List Int):Option (List Int):=if l.length<=9223372036854775807 then aa (ahr l)else ae
def D9{f:FuncId}(hb:∃fn,P.funcs[f]? =aa fn/\(fn.name== "runtime.NumGoroutine")=ag/\fn.body.isNone=ag)
 (h1:∀(nA off cap:Nat)(zs:List Int)(w:World),Go.Sort.Holds (ahb .i64) w nA off zs.toArray->zs.length<=9223372036854775807->zs.length<=cap->
   Calls P f #[.slice (aa ⟨nA,off,ae⟩) zs.length cap] w λe w'=>e= .returned (.slice (aa ⟨nA,off,ae⟩) (ahr zs).length cap)/\∃q,w'=ag8 (ahb .i64) (ahf w q) nA off (ahr zs++agv (zs.length-(ahr zs).length) 0).toArray)
 (h2:∀(p:Option Addr)(cap:Nat)(w:World),Calls P f #[.slice p 0 cap] w λe w'=>e= .returned (.slice p 0 cap)/\w'=w):
 fL P f ⟨⟨[(0, .val ag (.own 0))],[(0, .own T ay)],[],1⟩,⟨[(0, .val ag (.own 1))],[(1, .own T ay)],[],2⟩,λx=>r3 x⟩:=by
 refine HG (r:=ay) hb rfl λ{F w v l m}hm ho hF=>?_
 have hm:r3 l=aa m:=hm;unfold r3 at hm;split at hm
 case isFalse=>cases hm
 rename_i hlen;obtain rfl:=agq hm
 rcases xW ho with⟨rfl,rfl⟩|⟨g,o0,cap,cur,rfl,hg,Af,Mo,mz,hh⟩
 .refine(h2 ae 0 w).mono λe w' ⟨he,hw⟩=>⟨_,he,hw▸⟨rfl,⟨rfl,agt _⟩,rfl,agt _,λ_ _ _=>rfl⟩,hw▸?_,λk hk=>hk⟩
  exact ho
 .have Pz:(ahr l).length<=l.length:=D7 l
  refine(h1 g o0 cap l w hh hlen Af).mono λe w' ⟨he,n,hw⟩=>⟨_,he,?_,?_,λk hk=>by simpa[bF,agI]using hk⟩
  all_goals have hw:w'=ahi (ag8 (ahb .i64) (ahf w n) g o0 (ahr l++agv (l.length-(ahr l).length) 0).toArray) #[]:=by rw[hw,Ko]
  .have:=FA hw;exact⟨this.os,this.tape,this.output,this.size,λk hk hn=>this.block k hk λe=>hn (by simp[bF,agI,e])⟩
  .have:=Bw (d:=ahr l++agv (l.length-(ahr l).length) 0) ho hg mz Mo (by simp;omega) (ahr l).length (by simp) hw;rw[List.take_left]at this;exact this
def qn(x:ByteArray×ByteArray):Option Bool:=if x.2.size=1 then aa (decide (0<=Go.Lib.indexByte x.1.data.toList (x.2.data.getD 0 0)))else ae
def Bx{f:FuncId}(hb:∃fn,P.funcs[f]? =aa fn/\(fn.name== "runtime.NumGoroutine")=ag/\fn.body.isNone=ag)
 (h1:∀(s:ByteArray)(c:UInt8)(w:World),Calls P f #[.string s, .string ⟨#[c]⟩] w λe w'=>e= .returned (.bool (decide (0<=Go.Lib.indexByte s.data.toList c)))/\w'=w):
 fL P f ⟨⟨[(0, .val ag (.leaf .str)),(1, .val ag (.leaf .str))],[],[],0⟩,⟨[(0, .val ag (.leaf .bool))],[],[],0⟩,λx=>qn x⟩:=by
 refine⟨hb,λx y rv args w H F G hlen gE cA fg hG=>?_⟩
 match args,hlen with
 |[u,v],_=>
 obtain⟨s,t⟩:=x;have rv:qn (s,t)=aa y:=rv;unfold qn at rv;split at rv
 case isFalse=>cases rv
 rename_i mz;obtain rfl:=agq rv;have hu:aO H F w ag (.leaf .str s) u:=gE 0 _ rfl;have hv:aO H F w ag (.leaf .str t) v:=gE 1 _ rfl;obtain⟨cs,hc,_,h2⟩:=hu;obtain⟨uk,UW,_,GD⟩:=hv;have hc:cs=[.string s]:=hc;have UW:uk=[.string t]:=UW
 have eu:u= .string s:=by have:=(h2 rfl).symm.trans hc;simpa using this
 have ev:v= .string t:=by have:=(GD rfl).symm.trans UW;simpa using this
 subst eu ev
 obtain⟨⟨⟨l⟩⟩,ht⟩:∃t':ByteArray,t'=t:=⟨t,rfl⟩
 match l,ht with
 |[c],ht=>
  subst ht
  refine(h1 s c w).mono λe w' ⟨he,hw⟩=>?_
  subst hw;refine⟨[_],he,rfl,H,F,⟨rfl,⟨rfl,agt _⟩,rfl,agt _,λ_ _ _=>rfl⟩,aG.le.refl H,λ_ h=>h,λ_ h=> .inl h,λi d h=>?_,?_,fg⟩
  .have hd:i=0/\d= .val ag (.leaf .bool (decide (0<=Go.Lib.indexByte s.data.toList c))):=by
    have h:find [(0,aC.val ag (.leaf .bool (decide (0<=Go.Lib.indexByte s.data.toList c))))] i=aa d:=h;by_cases h0:i=0
    .subst h0;exact⟨rfl,(agq h).symm⟩
    .rw[mc h0]at h;cases h
   obtain⟨rfl,rfl⟩:=hd;exact aO.nD rfl
  .exact cA
 |[],ht=>subst ht;cases mz
 |_::_::_,ht=>subst ht;simp[ByteArray.size]at mz
end
end
end Go.Proofs.YtfeahmiobbjklaaGreatDoor
