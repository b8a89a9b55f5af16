/- Joined texts: Shelf. -/
import Derived.Test.YtfeahmiobbjklaaGreatDoorU4
import Derived.Sort.Grow
import Derived.Lib.SlicesCompact
import Derived.Lib.Bytealg
set_option linter.defProp false
open _root_.Bool renaming false->ag,true->af
open _root_.Option renaming none->ae,some->aa
open _root_.Array renaming getElem?_append_left->ahM,getElem?_eq_some_iff->ag6
open _root_.Go.Lib renaming compact->ahn,indexByte->ahA
open _root_.Go.Sort renaming ahead->ahm,grow->ahp,mapBlock->ahv,putCells->ahd,putRow->ahe
open _root_.List.cons renaming injEq->aht
open _root_.List renaming drop_eq_getElem_cons->agJ,getElem?_drop->ag3,getElem?_take->ag9,replicate->agE
open _root_.Nat renaming beq->agC,le_refl->agB,le_trans->agW,lt_of_lt_of_le->agV,min_eq_left->ahw
open _root_.Option.some renaming inj->agx
open _root_.Go.Value renaming int->ahg,ownBlock->agR
namespace Go.Proofs.YtfeahmiobbjklaaGreatDoor
open Go Go.RowKit
set_option maxRecDepth 100000
set_option linter.unusedSimpArgs false
set_option linter.unusedVariables false
set_option linter.defProp false
section
def qA(l:List Int):List Int:=l.mergeSort λx y=>decide (x<=y)
section
variable {P:Program} {w w':World} {F:Nat->Prop} {T:TypeId}
def KT(w:World):ahp w #[]=w:=by
 unfold ahp;rw[Array.append_empty]
def Gf{g off:Nat}{d:Array Int}{n:Nat}{os:Array Obj}(h:w'=ahp (ahe (ahg .i64) (ahm w n) g off d) os):Ext (λk=>k=g) w w':=by
 subst h;refine⟨rfl,⟨rfl,Nat.le_add_right _ _⟩,rfl,?_,λk hk hn=>?_⟩
 .simp[ahp,ahe,ahv,ahm]
 .simp only[ahp];rw[ahM (by simpa[ahe,ahv,ahm]using hk)];simp only[ahe,ahv,ahm,Array.getElem?_modify];rw[ai (λe=>hn e.symm)]
def NI{g off:Nat}{d:Array Int}{n:Nat}{os:Array Obj}(h:w'=ahp (ahe (ahg .i64) (ahm w n) g off d) os){cur:Array Value}(hg:w.heap[g]? =aa (.cells cur T (0,0))):
 w'.heap[g]? =aa (.cells (ahd (ahg .i64) off d cur) T (0,0)):=by
 subst h;have aH:g<w.heap.size:=(ag6.1 hg).1;simp only[ahp];rw[ahM (by simpa[ahe,ahv,ahm]using aH)];simp only[ahe,ahv,ahm,Array.getElem?_modify];rw[aj trivial,hg];rfl
def EE{l:List Int}{xs:List Value}(hx:xs.length=l.length*1)(h:∀i(hi:i<l.length),cD F w az ((xs.drop (i*1)).take 1) l[i]):xs=l.map (ahg .i64):=by
 apply List.ext_getElem (by simpa using hx);intro i h1 h2
 have hi:i<l.length:=by simpa using h2
 have:(xs.drop (i*1)).take 1=[ahg .i64 l[i]]:=h i hi;rw[Nat.mul_one,agJ h1,List.take_succ_cons,List.take_zero]at this;simpa only[List.getElem_map,aht,and_true]using this
def If{off:Nat}{d:Array Int}{cur:Array Value}(h:off+d.size<=cur.size):((ahd (ahg .i64) off d cur).toList.drop off).take d.size=d.toList.map (ahg .i64):=by
 apply List.ext_getElem (by simp[ahd];omega);intro i h1 h2
 have hi:i<d.size:=by simpa using h2
 rw[List.getElem_take,List.getElem_drop,List.getElem_map,Array.getElem_toList,Array.getElem_toList];simp only[ahd,Array.getElem_mapIdx];rw[aj ⟨by omega,by omega⟩,show off+i-off=i by omega,getElem!_pos d i hi]
def yq{v:Value}{l:List Int}(h:lO 0 F w T az v l):(v= .slice ae 0 0/\l=[])\/∃g o0 cap cur,v= .slice (aa ⟨g,o0,ae⟩) l.length cap/\w.heap[g]? =aa (.cells cur T (0,0))/\l.length<=cap/\cap<=maxLen/\o0+cap<=cur.size/\Go.Sort.Holds (ahg .i64) w g o0 l.toArray:=by
 obtain⟨_,xs,⟨hx,h2⟩,h3⟩:=h;have e:=EE hx h3
 rcases h2 with⟨rfl,h0⟩|⟨g,o0,cap,cur,rfl,_,hg,h4,h5,h6,h7⟩
 .exact .inl ⟨rfl,List.eq_nil_of_length_eq_zero h0⟩
 .refine .inr ⟨g,o0,cap,cur,rfl,hg,h4,h5,by simpa[Row.size]using h6,λj hj=>⟨?_,frozen_of_row w g _ cur T hg⟩⟩
  have hj:j<l.length:=by simpa using hj
  rw[cell_of_row w g _ cur T (0,0) hg]
  have:xs[j]? =aa (ahg .i64 l[j]):=by rw[e];simp[hj]
  rw[<-h7,ag9]at this;split at this
  .rw[ag3]at this;rw[getElem!_pos l.toArray j (by simpa using hj)];simpa using this
  .cases this
def B4{g o0 cap:Nat}{l d:List Int}{cur:Array Value}{n:Nat}{os:Array Obj}(h:lO 0 F w T az (.slice (aa ⟨g,o0,ae⟩) l.length cap) l)(hg:w.heap[g]? =aa (.cells cur T (0,0)))(hs:o0+cap<=cur.size)(hc:cap<=maxLen)
 (hl:d.length<=cap)(m:Nat)(hm:m<=d.length)(hw:w'=ahp (ahe (ahg .i64) (ahm w n) g o0 d.toArray) os):lO 0 F w' T az (.slice (aa ⟨g,o0,ae⟩) m cap) (d.take m):=by
 have KU:=NI hw hg;have hp:=If (off:=o0) (d:=d.toArray) (cur:=cur) (by simp;omega);refine⟨λk hk=>h.no k (by simpa[bP,agR]using hk),(d.take m).map (ahg .i64),⟨by simp[Row.size], .inr ⟨g,o0,cap,_,by simp[ahw hm],Nat.zero_le _,KU,by simp;omega,hc,by simp[ahd,Row.size];omega,?_⟩⟩,λi hi=>?_⟩
 .have:((ahd (ahg .i64) o0 d.toArray cur).toList.drop o0).take m=(d.take m).map (ahg .i64):=by
   rw[show m=min m d.toArray.size by simp[ahw hm],<-List.take_take,hp,List.map_take];simp[ahw hm]
  simpa[Row.size,ahw hm]using this
 .have kW:i<d.length:=by simp at hi;omega
  show((List.map (ahg .i64) (d.take m)).drop (i*1)).take 1=[ahg .i64 (d.take m)[i]]
  rw[Nat.mul_one,agJ (by simpa using hi)];simp
def pe(d:Array Int):∀m,(Go.Lib.compactUpTo d m).length<=m
 |0=>by simp[Go.Lib.compactUpTo]
 |m+1=>by
  have:=pe d m;rw[Go.Lib.compactUpTo_succ,List.length_append]
  split<;>simp<;>omega
theorem wc(l:List Int):(ahn l).length<=l.length:=pe _ _
def mo{α:Type}{k o:Nat}{x:α}(h:o≠k):find [(k,x)] o=ae:=by
 have:agC k o=ag:=by
  cases hb:agC k o with
  |false=>rfl
  |true=>exact absurd (Nat.eq_of_beq_eq_true hb).symm h
 simp[find,this]
def EF{f:FuncId}{r:Row}{fn:List r.den->Option (List r.den)}(hb:∃fn,P.funcs[f]? =aa fn/\(fn.name== "runtime.NumGoroutine")=ag/\fn.body.isNone=ag)
 (hr:r.beq r=af)
 (hc:∀{F:Nat->Prop}{w:World}{v:Value}{l m:List r.den},fn l=aa m->lO 0 F w T r v l->(∀b,F b->b<w.heap.size)->Calls P f #[v] w λe w'=>e= .returned (.tuple #[])/\Ext (bP v) w w'/\lO 0 F w' T r v m):
 gD P f ⟨⟨[(0, .val ag (.own 0))],[(0, .own T r)],[],1⟩,⟨[],[(0, .own T r)],[],2⟩,fn⟩:=by
 refine⟨hb,λx y ry args w H F G hlen gN cz fh hG=>?_⟩;have fh:iz H 1:=fh
 match args,hlen with
 |[v],_=>
 have hx:(gO 0 [(0,OS.own T r)] (cU [(0,SS.val ag (.own 0))] (dc [.slice r] x)).2)=[(0,(0, .own T r x))]:=by
  show[(0,(0,(de (.own T r) [⟨.slice r,x⟩]).1))]=_
  simp only[de,hr,cond_true]
 have hy:(gO 1 [(0,OS.own T r)] (cU [] (dc [.slice r] y)).2)=[(0,(1, .own T r y))]:=by
  show[(0,(1,(de (.own T r) [⟨.slice r,y⟩]).1))]=_
  simp only[de,hr,cond_true]
 have cz:aJ (λk=>w.heap.size<=k\/G k) H F w (find [(0,(0,Th.own T r x))]) 1:=by rw[<-hx];exact cz
 have hd:aC H F w (.val ag (.own 0)) v:=gN 0 _ rfl;obtain⟨cs,⟨v',hv,h1,rfl⟩,_,pP⟩:=hd
 obtain rfl:v'=v:=by have:=pP rfl;simpa using this
 have dY:=cz.own rfl hv;obtain⟨v2,na,cG⟩:=cz.obj 0 0 _ rfl;rw[hv]at na;obtain rfl:=agx na
 refine(hc ry dY cz.lt).mono λe w' ⟨he,bO,gC⟩=>⟨[],he,rfl,H.bC 1 (.own T r y),F,⟨bO.os,bO.tape,bO.output,bO.size,λk hk hn=>bO.block k hk λhm=>?_⟩,aI.fS (fh 1 (agB _)).2,λb h=>h,λb h=> .inl h,λt d h=>?_,?_,?_⟩
 .rcases cG.use k hm with h|h
  .omega
  .exact hn h
 .cases h
 .show aJ _ _ F w' (find (gO 1 [(0,OS.own T r)] (cU [] (dc [.slice r] y)).2)) 2
  rw[hy];refine⟨λo s t ho=>?_,λo o' s s' t t' u u' du ho lI=>?_,λm h1 h2=>⟨(fh m (by have:2<=m:=h1;omega)).1,?_⟩,λb hb=>agV (cz.lt b hb) bO.size,λb hb=> .inl (agW bO.size hb),cz.gl.step (Step.ext bO cz.lt dY.no)⟩
  .obtain⟨rfl,h⟩:o=0/\(1,Th.own T r y)=(s,t):=by
    by_cases h0:o=0
    .subst h0;exact⟨rfl,agx ho⟩
    .exfalso;have:find [(0,(1,Th.own T r y))] o=ae:=mo h0;rw[this]at ho;cases ho
   cases h;refine⟨v',hv,h1,by simp[aI.bC,Th.base],lO.to _ gC,gC.no,gC.lt,λk hk=>?_⟩;exact cG.use k hk
  .have key:∀o x,find [(0,(1,Th.own T r y))] o=aa x->o=0:=λo x h=>by
    by_cases h0:o=0
    .exact h0
    .have:find [(0,(1,Th.own T r y))] o=ae:=mo h0;rw[this]at h;cases h
   exact absurd ((key o _ ho).trans (key o' _ lI).symm) du
  .have h1:2<=m:=h1
   show(if m=1 then _ else H.con m)=ae
   rw[ai (by omega)];exact(fh m (by omega)).2
 .intro m hm;have hm:2<=m:=hm;refine⟨(fh m (by omega)).1,?_⟩
  show(if m=1 then _ else H.con m)=ae
  rw[ai (by omega)];exact(fh m (by omega)).2
def Ig{f:FuncId}{r:Row}{fn:List r.den->Option (List r.den)}(hb:∃fn,P.funcs[f]? =aa fn/\(fn.name== "runtime.NumGoroutine")=ag/\fn.body.isNone=ag)
 (hr:r.beq r=af)
 (hc:∀{F:Nat->Prop}{w:World}{v:Value}{l m:List r.den},fn l=aa m->lO 0 F w T r v l->(∀b,F b->b<w.heap.size)->Calls P f #[v] w λe w'=>∃v',e= .returned v'/\Ext (bP v) w w'/\lO 0 F w' T r v' m/\∀k,bP v' k->bP v k):
 gD P f ⟨⟨[(0, .val ag (.own 0))],[(0, .own T r)],[],1⟩,⟨[(0, .val ag (.own 1))],[(1, .own T r)],[],2⟩,fn⟩:=by
 refine⟨hb,λx y ry args w H F G hlen gN cz fh hG=>?_⟩;have fh:iz H 1:=fh
 match args,hlen with
 |[v],_=>
 have hx:(gO 0 [(0,OS.own T r)] (cU [(0,SS.val ag (.own 0))] (dc [.slice r] x)).2)=[(0,(0, .own T r x))]:=by
  show[(0,(0,(de (.own T r) [⟨.slice r,x⟩]).1))]=_
  simp only[de,hr,cond_true]
 have hy:(gO 1 [(1,OS.own T r)] (cU [(0,SS.val ag (.own 1))] (dc [.slice r] y)).2)=[(1,(1, .own T r y))]:=by
  show[(1,(1,(de (.own T r) [⟨.slice r,y⟩]).1))]=_
  simp only[de,hr,cond_true]
 have cz:aJ (λk=>w.heap.size<=k\/G k) H F w (find [(0,(0,Th.own T r x))]) 1:=by rw[<-hx];exact cz
 have hd:aC H F w (.val ag (.own 0)) v:=gN 0 _ rfl;obtain⟨cs,⟨v',hv,h1,rfl⟩,_,pP⟩:=hd
 obtain rfl:v'=v:=by have:=pP rfl;simpa using this
 have dY:=cz.own rfl hv;obtain⟨v2,na,cG⟩:=cz.obj 0 0 _ rfl;rw[hv]at na;obtain rfl:=agx na;have yY:=fh 1 (agB _)
 refine(hc ry dY cz.lt).mono λe w' ⟨v3,he,bO,gC,Kj⟩=>?_
 have Xi:v3.oneCell'=af:=(lU.one gC.2)
 have hle:H.le ((H.bC 1 (.own T r y)).cA 1 v3):=⟨λo u h=>by
  show(if o=1 then aa v3 else H.val o)=aa u
  rw[ai (λe=>by rw[e,yY.1]at h;cases h)]
  exact h,(aI.fS (t:= .own T r y) yY.2).con,(aI.fS (t:= .own T r y) yY.2).sub⟩
 refine⟨[v3],he,rfl,(H.bC 1 (.own T r y)).cA 1 v3,F,⟨bO.os,bO.tape,bO.output,bO.size,λk hk hn=>bO.block k hk λhm=>?_⟩,hle,λb h=>h,λb h=> .inl h,λt d h=>?_,?_,?_⟩
 .rcases cG.use k hm with h|h
  .omega
  .exact hn h
 .have ht:t=0/\d= .val ag (.own 1):=by
   have h:find [(0,aD.val ag (.own 1))] t=aa d:=h;by_cases h0:t=0
   .subst h0;exact⟨rfl,(agx h).symm⟩
   .have e:find [(0,aD.val ag (.own 1))] t=ae:=mo h0;rw[e]at h;cases h
  obtain⟨rfl,rfl⟩:=ht;exact⟨[v3],⟨v3,by simp[aI.cA],Xi,rfl⟩,rfl,λ_=>rfl⟩
 .show aJ _ _ F w' (find (gO 1 [(1,OS.own T r)] (cU [(0,SS.val ag (.own 1))] (dc [.slice r] y)).2)) 2
  rw[hy]
  have key:∀o x,find [(1,(1,Th.own T r y))] o=aa x->o=1/\x=(1,Th.own T r y):=λo x h=>by
   by_cases h0:o=1
   .subst h0;exact⟨rfl,(agx h).symm⟩
   .have:find [(1,(1,Th.own T r y))] o=ae:=mo h0;rw[this]at h;cases h
  refine⟨λo s t ho=>?_,λo o' s s' t t' u u' du ho lI=>?_,λm h1 h2=>⟨?_,?_⟩,λb hb=>agV (cz.lt b hb) bO.size,λb hb=> .inl (agW bO.size hb),cz.gl.step (Step.ext bO cz.lt dY.no)⟩
  .obtain⟨rfl,h⟩:=key o _ ho;cases h;exact⟨v3,by simp[aI.cA],Xi,by simp[aI.bC,aI.cA,Th.base],lO.to _ gC,gC.no,gC.lt,λk hk=>cG.use k (Kj k hk)⟩
  .exact absurd ((key o _ ho).1.trans (key o' _ lI).1.symm) du
  .have h1:2<=m:=h1
   show(if m=1 then _ else H.val m)=ae
   rw[ai (by omega)];exact(fh m (by omega)).1
  .have h1:2<=m:=h1
   show(if m=1 then _ else H.con m)=ae
   rw[ai (by omega)];exact(fh m (by omega)).2
 .intro m hm;have hm:2<=m:=hm;refine⟨?_,?_⟩
  .show(if m=1 then _ else H.val m)=ae
   rw[ai (by omega)];exact(fh m (by omega)).1
  .show(if m=1 then _ else H.con m)=ae
   rw[ai (by omega)];exact(fh m (by omega)).2
def B5(l:List Int):Option (List Int):=if l.length<4611686018427387904 then aa (qA l)else ae
def NJ{f:FuncId}(hb:∃fn,P.funcs[f]? =aa fn/\(fn.name== "runtime.NumGoroutine")=ag/\fn.body.isNone=ag)
 (h1:∀(nv off cap:Nat)(zs:List Int)(w:World),Go.Sort.Holds (ahg .i64) w nv off zs.toArray->nv<w.heap.size->zs.length<4611686018427387904->
   Calls P f #[.slice (aa ⟨nv,off,ae⟩) zs.length cap] w λe w'=>e= .returned (.tuple #[])/\∃n os,w'=ahp (ahe (ahg .i64) (ahm w n) nv off (zs.mergeSort λx y=>decide (x<=y)).toArray) os)
 (h2:∀(p:Option Addr)(cap:Nat)(w:World),Calls P f #[.slice p 0 cap] w λe w'=>e= .returned (.tuple #[])/\w'=w):
 gD P f ⟨⟨[(0, .val ag (.own 0))],[(0, .own T az)],[],1⟩,⟨[],[(0, .own T az)],[],2⟩,λx=>B5 x⟩:=by
 refine EF (r:=az) hb rfl λ{F w v l m}hm ho hF=>?_
 have hm:B5 l=aa m:=hm;unfold B5 at hm;split at hm
 case isFalse=>cases hm
 rename_i hlen;obtain rfl:=agx hm
 rcases yq ho with⟨rfl,rfl⟩|⟨g,o0,cap,cur,rfl,hg,AM,M6,lJ,hh⟩
 .refine(h2 ae 0 w).mono λe w' ⟨he,hw⟩=>⟨he,hw▸⟨rfl,⟨rfl,agB _⟩,rfl,agB _,λ_ _ _=>rfl⟩,hw▸?_⟩
  simpa[qA]using ho
 .refine(h1 g o0 cap l w hh (ag6.1 hg).1 hlen).mono λe w' ⟨he,n,os,hw⟩=>⟨he,?_,?_⟩
  .have:=Gf hw;exact⟨this.os,this.tape,this.output,this.size,λk hk hn=>this.block k hk λe=>hn (by simp[bP,agR,e])⟩
  .have hl:(qA l).length=l.length:=List.length_mergeSort ..;have:=B4 (d:=qA l) ho hg lJ M6 (by omega) (qA l).length (agB _) hw;rw[List.take_length,hl]at this;exact this
def pf(l:List Int):Option (List Int):=if l.length<=9223372036854775807 then aa (ahn l)else ae
def EG{f:FuncId}(hb:∃fn,P.funcs[f]? =aa fn/\(fn.name== "runtime.NumGoroutine")=ag/\fn.body.isNone=ag)
 (h1:∀(nv off cap:Nat)(zs:List Int)(w:World),Go.Sort.Holds (ahg .i64) w nv off zs.toArray->zs.length<=9223372036854775807->zs.length<=cap->
   Calls P f #[.slice (aa ⟨nv,off,ae⟩) zs.length cap] w λe w'=>e= .returned (.slice (aa ⟨nv,off,ae⟩) (ahn zs).length cap)/\∃q,w'=ahe (ahg .i64) (ahm w q) nv off (ahn zs++agE (zs.length-(ahn zs).length) 0).toArray)
 (h2:∀(p:Option Addr)(cap:Nat)(w:World),Calls P f #[.slice p 0 cap] w λe w'=>e= .returned (.slice p 0 cap)/\w'=w):
 gD P f ⟨⟨[(0, .val ag (.own 0))],[(0, .own T az)],[],1⟩,⟨[(0, .val ag (.own 1))],[(1, .own T az)],[],2⟩,λx=>pf x⟩:=by
 refine Ig (r:=az) hb rfl λ{F w v l m}hm ho hF=>?_
 have hm:pf l=aa m:=hm;unfold pf at hm;split at hm
 case isFalse=>cases hm
 rename_i hlen;obtain rfl:=agx hm
 rcases yq ho with⟨rfl,rfl⟩|⟨g,o0,cap,cur,rfl,hg,AM,M6,lJ,hh⟩
 .refine(h2 ae 0 w).mono λe w' ⟨he,hw⟩=>⟨_,he,hw▸⟨rfl,⟨rfl,agB _⟩,rfl,agB _,λ_ _ _=>rfl⟩,hw▸?_,λk hk=>hk⟩
  exact ho
 .have KV:(ahn l).length<=l.length:=wc l
  refine(h1 g o0 cap l w hh hlen AM).mono λe w' ⟨he,n,hw⟩=>⟨_,he,?_,?_,λk hk=>by simpa[bP,agR]using hk⟩
  all_goals have hw:w'=ahp (ahe (ahg .i64) (ahm w n) g o0 (ahn l++agE (l.length-(ahn l).length) 0).toArray) #[]:=by rw[hw,KT]
  .have:=Gf hw;exact⟨this.os,this.tape,this.output,this.size,λk hk hn=>this.block k hk λe=>hn (by simp[bP,agR,e])⟩
  .have:=B4 (d:=ahn l++agE (l.length-(ahn l).length) 0) ho hg lJ M6 (by simp;omega) (ahn l).length (by simp) hw;rw[List.take_left]at this;exact this
def qb(x:ByteArray×ByteArray):Option Bool:=if x.2.size=1 then aa (decide (0<=ahA x.1.data.toList (x.2.data.getD 0 0)))else ae
def B6{f:FuncId}(hb:∃fn,P.funcs[f]? =aa fn/\(fn.name== "runtime.NumGoroutine")=ag/\fn.body.isNone=ag)
 (h1:∀(s:ByteArray)(c:UInt8)(w:World),Calls P f #[.string s, .string ⟨#[c]⟩] w λe w'=>e= .returned (.bool (decide (0<=ahA s.data.toList c)))/\w'=w):
 gD P f ⟨⟨[(0, .val ag (.leaf .str)),(1, .val ag (.leaf .str))],[],[],0⟩,⟨[(0, .val ag (.leaf .bool))],[],[],0⟩,λx=>qb x⟩:=by
 refine⟨hb,λx y ry args w H F G hlen gN cz fh hG=>?_⟩
 match args,hlen with
 |[u,v],_=>
 obtain⟨s,t⟩:=x;have ry:qb (s,t)=aa y:=ry;unfold qb at ry;split at ry
 case isFalse=>cases ry
 rename_i lJ;obtain rfl:=agx ry;have hu:aO H F w ag (.leaf .str s) u:=gN 0 _ rfl;have hv:aO H F w ag (.leaf .str t) v:=gN 1 _ rfl;obtain⟨cs,hc,_,h2⟩:=hu;obtain⟨uj,VD,_,G3⟩:=hv;have hc:cs=[.string s]:=hc;have VD:uj=[.string t]:=VD
 have eu:u= .string s:=by have:=(h2 rfl).symm.trans hc;simpa using this
 have ev:v= .string t:=by have:=(G3 rfl).symm.trans VD;simpa using this
 subst eu ev
 obtain⟨⟨⟨l⟩⟩,ht⟩:∃t':ByteArray,t'=t:=⟨t,rfl⟩
 match l,ht with
 |[c],ht=>
  subst ht
  refine(h1 s c w).mono λe w' ⟨he,hw⟩=>?_
  subst hw;refine⟨[_],he,rfl,H,F,⟨rfl,⟨rfl,agB _⟩,rfl,agB _,λ_ _ _=>rfl⟩,aI.le.refl H,λ_ h=>h,λ_ h=> .inl h,λi d h=>?_,?_,fh⟩
  .have hd:i=0/\d= .val ag (.leaf .bool (decide (0<=ahA s.data.toList c))):=by
    have h:find [(0,aD.val ag (.leaf .bool (decide (0<=ahA s.data.toList c))))] i=aa d:=h;by_cases h0:i=0
    .subst h0;exact⟨rfl,(agx h).symm⟩
    .rw[mo h0]at h;cases h
   obtain⟨rfl,rfl⟩:=hd;exact aO.mI rfl
  .exact cz
 |[],ht=>subst ht;cases lJ
 |_::_::_,ht=>subst ht;simp[ByteArray.size]at lJ
end
end
end Go.Proofs.YtfeahmiobbjklaaGreatDoor
