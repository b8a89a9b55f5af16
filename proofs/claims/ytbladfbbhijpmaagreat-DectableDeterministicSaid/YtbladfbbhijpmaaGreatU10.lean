/- Joined texts: TW TX TY TZ TQ TR P31b TK TM TO P31c. -/
import Derived.Test.YtbladfbbhijpmaaGreatU8
import Derived.Test.YtbladfbbhijpmaaGreatU1
import Derived.Test.YtbladfbbhijpmaaGreatU9
open _root_.Bool renaming false->aaM,true->aaL,false_eq_true->Y8,and_eq_true->ZE
open _root_.Int renaming eq_ofNat_of_zero_le->Y9,toNat_natCast->Y4
open _root_.Go.IntKind renaming i64->YW
open _root_.List renaming append_assoc->Zp,foldl_cons->ZT,getElem?_eq_getElem->YX,getElem_mem->Y0,length_cons->Ze,length_filter_le->aaa,length_map->Z5,mem_append->Y7,mem_filter->Zt,mem_range->Zn,mem_singleton->Y5,range->Y1,replicate->Zq,take_length->Zh,length_append->Zf,mem_cons->Y6,map_append->ZU,take_append_getElem->Zk,length_take->Zr,mem_cons_of_mem->Zm,mem_cons_self->Zz,getElem?_eq_some_iff->Zd,getElem_of_mem->ZJ
open _root_.Option renaming bind_some->YV,none->aaK
open _root_.Nat renaming le_refl->YY,lt_succ_iff_lt_or_eq->Zb,le_trans->Zj,add_mul->ZH,mul_le_mul_right->Zg
open _root_.Option.some renaming inj->YU
open _root_.ByteArray renaming empty->aaB
open _root_.Classical renaming not_not->aai
open _root_.Prod.mk renaming injEq->ZV
namespace Go.Proofs.YtbladfbbhijpmaaGreat
open Go Go.RowKit
set_option maxRecDepth 100000
set_option linter.unusedSimpArgs false
set_option linter.unusedVariables false
set_option linter.defProp false
section
namespace L.S
def at'{α:Type}(d:α)(l:List α)(i:Int):α:=(l[i.toNat]?).getD d
theorem jb{α:Type}(d:α){l:List α}{i:Int}(h0:0<=i)(h:i<l.length):idx l i=some (at' d l i):=by
 unfold idx at';rw[aaP h0,YX (by omega)];rfl
structure V(p q:List Int):Prop where
 len:p.length=q.length
 n8:p.length<=8
 par:∀i:Nat,i<p.length->-1<=at' 0 p i/\at' 0 p i<i
theorem wD(N:Nat)(p q:List Int):M.jE N p q=M.cg N p q:=by
 unfold M.jE M.cg
 congr 3
 funext s
 congr 1
 cases hp:idx p s<;>cases hq:idx q s<;>rfl
theorem yQ{N:Nat}(p q:List Int)(hN:10<=N):∃e,M.cg N p q=some e/\(e=0->V p q):=by
 unfold M.cg;by_cases h1:(p.length:Int)=q.length
 .rw[aaO (by simpa using h1)];by_cases h2:8<(p.length:Int)
  .rw[aaP (by simpa using h2)];exact⟨_,rfl,by omega⟩
  .rw[aaO (by simpa using h2)];refine pY (I:=λs:Int=>0<=s/\s<=p.length/\∀i:Nat,(i:Int)<s->-1<=at' 0 p i/\at' 0 p i<i) (μ:=λs=>(p.length-s).toNat) (Q:=λe=>e=0->V p q) ?_ N 0 ⟨by omega,by omega,λi hi=>by omega⟩ (by omega)
   rintro s ⟨h3,h4,h5⟩
   by_cases h6:s<(p.length:Int)
   .rw[aaP (by simpa using h6),jb 0 h3 h6,jb 0 h3 (by omega)];simp only[YV];by_cases h7:at' 0 p s< -1
    .rw[aaP (by simpa using h7)];exact .inr ⟨9,rfl,by omega⟩
    .rw[aaO (by simpa using h7)];by_cases h8:s<=at' 0 p s
     .simp only[YV,h8,decide_true,if_true];exact .inr ⟨9,rfl,by omega⟩
     .simp only[YV,h8,decide_false,Y8,if_false]
      have fin:(∃s',(some (Sum.inl (YW.wrap (s+1))):Option (Int⊕Int))=some (.inl s')/\(0<=s'/\s'<=p.length/\∀i:Nat,(i:Int)<s'->-1<=at' 0 p i/\at' 0 p i<i)/\((p.length:Int)-s').toNat<((p.length:Int)-s).toNat):=by
       rw[ed (by omega) (by omega)];refine⟨s+1,rfl,⟨by omega,by omega,λi hi=>?_⟩,by omega⟩;by_cases e:(i:Int)<s
       .exact h5 i e
       .have:(i:Int)=s:=by omega
        rw[this];omega
      by_cases h9:at' 0 q s<0
      .simp only[h9,decide_true,if_true,YV];exact .inr ⟨3,rfl,by omega⟩
      .simp only[h9,decide_false,Y8,if_false,YV];by_cases OA:9<at' 0 q s
       .simp only[OA,decide_true,if_true];exact .inr ⟨3,rfl,by omega⟩
       .simp only[OA,decide_false,Y8,if_false];exact .inl fin
   .rw[aaO (by simpa using h6)];exact .inr ⟨0,rfl,λ_=>⟨by omega,by omega,λi hi=>h5 i (by omega)⟩⟩
 .rw[aaP (by simpa using h1)];exact⟨_,rfl,by omega⟩
def ch(p:List Int)(i:Int):List Int:=((Y1 p.length).filter λj:Nat=>decide (at' 0 p (j:Int)=i)).map (λj:Nat=>(j:Int))
theorem Md{p:List Int}{i c:Int}:c∈ch p i↔0<=c/\c<p.length/\at' 0 p c=i:=by
 unfold ch;simp only[List.mem_map,Zt,Zn,aaW];constructor
 .rintro⟨j,⟨h1,h2⟩,rfl⟩;exact⟨by omega,by omega,h2⟩
 .rintro⟨h1,h2,h3⟩
  obtain⟨j,rfl⟩:=Y9 h1;exact⟨j,⟨by omega,h3⟩,rfl⟩
theorem HH(p:List Int)(i:Int):(ch p i).length<=p.length:=by
 unfold ch;rw[Z5];have:=aaa (λj:Nat=>decide (at' 0 p (j:Int)=i)) (Y1 p.length);simpa using this
theorem qH{N:Nat}{p:List Int}(i:Int)(hn:p.length<=8)(hN:10<=N):M.cG N p i=some (ch p i):=by
 unfold M.cG;refine rl (λk:Nat=>((k:Int),(((Y1 k).filter λj:Nat=>decide (at' 0 p (j:Int)=i)).map (λj:Nat=>(j:Int)):List Int))) p.length _ rfl ?_ ?_ (by omega)
 .intro k hk
  have hw:YW.wrap ((k:Int)+1)=((k+1:Nat):Int):=by rw[ed]<;>omega
  simp only;rw[aaP (by simp;omega),jb 0 (by omega) (by omega),YV,hw,ic];by_cases h:at' 0 p (k:Int)=i
  .rw[aaP (by simpa using h),fK,YV,aaP (by simpa using h)]
   .simp
   .simp only[Z5,Ze,List.length_nil];have:=aaa (λj:Nat=>decide (at' 0 p (j:Int)=i)) (Y1 k);simp at this;omega
  .rw[aaO (by simpa using h),aaO (by simpa using h)];simp
 .simp only;rw[aaO (by simp)];rfl
theorem wE(N:Nat)(p:List Int)(i:Int):M.mo N p i=M.cG N p i:=rfl
def step(o:Int->Int)(q:List Int)(b:List Int)(c:Int):List Int:=
 if o c= -1 then b else
 match b with
 |[]=>[c]
 |x::r=>if at' 0 q x<at' 0 q c then[c]else if at' 0 q c=at' 0 q x then(x::r)++[c]else x::r
def lO(o:Int->Int)(q:List Int)(l:List Int):List Int:=l.foldl (step o q) []
structure Inv(o:Int->Int)(q:List Int)(l b:List Int):Prop where
 sub:b.Sublist l
 live:∀c,c∈b->o c≠-1
 max:∀d,d∈l->o d≠-1->b≠[]/\∀c,c∈b->at' 0 q d<=at' 0 q c
 all:∀d,d∈l->o d≠-1->(∀c,c∈b->at' 0 q d=at' 0 q c)->d∈b
theorem wF{α:Type}{d a:α}{l:List α}:at' d (a::l) 0=a:=rfl
theorem sw{o:Int->Int}{q l b:List Int}{c:Int}(h:Inv o q l b):Inv o q (l++[c]) (step o q b c):=by
 obtain⟨h1,h2,h3,h4⟩:=h
 have qj:∀x∈b,∀y∈b,at' 0 q x=at' 0 q y:=λx hx y hy=>by
  have a1:=(h3 x (h1.subset hx) (h2 x hx)).2 y hy;have a2:=(h3 y (h1.subset hy) (h2 y hy)).2 x hx;omega
 unfold step;by_cases hd:o c= -1
 .rw[aaP hd];refine⟨h1.trans (List.sublist_append_left _ _),h2,λd hm hl=>?_,λd hm hl=>?_⟩
  .rcases Y7.1 hm with hm|hm
   .exact h3 d hm hl
   .rw[Y5.1 hm]at hl;exact absurd hd hl
  .rcases Y7.1 hm with hm|hm
   .exact h4 d hm hl
   .rw[Y5.1 hm]at hl;exact absurd hd hl
 .rw[aaO hd]
  cases b with
  |nil=>
   have Ku:∀d,d∈l->¬o d≠-1:=λd hm hl=>(h3 d hm hl).1 rfl
   refine⟨(List.sublist_append_right _ _),?_,λd hm hl=>⟨by simp,?_⟩,λd hm hl hh=>?_⟩
   .intro x hx;rw[Y5.1 hx];exact hd
   .intro x hx;rw[Y5.1 hx]
    rcases Y7.1 hm with hm|hm
    .exact absurd hl (Ku d hm)
    .rw[Y5.1 hm];exact Int.le_refl _
   .rcases Y7.1 hm with hm|hm
    .exact absurd hl (Ku d hm)
    .exact hm
  |cons a b=>
   simp only;by_cases ai:at' 0 q a<at' 0 q c
   .rw[aaP ai];refine⟨(List.sublist_append_right _ _),?_,λd hm hl=>⟨by simp,?_⟩,λd hm hl hh=>?_⟩
    .intro x hx;rw[Y5.1 hx];exact hd
    .intro x hx;rw[Y5.1 hx]
     rcases Y7.1 hm with hm|hm
     .have:=(h3 d hm hl).2 a (by simp);omega
     .rw[Y5.1 hm];exact Int.le_refl _
    .rcases Y7.1 hm with hm|hm
     .have:=(h3 d hm hl).2 a (by simp);have:=hh c (by simp);omega
     .exact hm
   .rw[aaO ai];by_cases he:at' 0 q c=at' 0 q a
    .rw[aaP he];refine⟨List.Sublist.append h1 (List.Sublist.refl _),?_,λd hm hl=>⟨by simp,?_⟩,λd hm hl hh=>?_⟩
     .intro x hx
      rcases Y7.1 hx with hx|hx
      .exact h2 x hx
      .rw[Y5.1 hx];exact hd
     .intro x hx
      have HZ:at' 0 q x=at' 0 q a:=by
       rcases Y7.1 hx with hx|hx
       .exact qj x hx a (by simp)
       .rw[Y5.1 hx];exact he
      rcases Y7.1 hm with hm|hm
      .have:=(h3 d hm hl).2 a (by simp);omega
      .rw[Y5.1 hm];omega
     .rcases Y7.1 hm with hm|hm
      .exact List.mem_append_left _ (h4 d hm hl λx hx=>hh x (List.mem_append_left _ hx))
      .exact List.mem_append_right _ hm
    .rw[aaO he];refine⟨h1.trans (List.sublist_append_left _ _),h2,λd hm hl=>⟨by simp,?_⟩,λd hm hl hh=>?_⟩
     .intro x hx
      rcases Y7.1 hm with hm|hm
      .exact(h3 d hm hl).2 x hx
      .rw[Y5.1 hm,qj x hx a (by simp)];omega
     .rcases Y7.1 hm with hm|hm
      .exact h4 d hm hl hh
      .have:=hh a (by simp);rw[Y5.1 hm]at this;exact absurd this he
theorem yR{o:Int->Int}{q:List Int}:∀(m l b:List Int),Inv o q l b->Inv o q (l++m) (m.foldl (step o q) b)
 |[],l,b,h=>by simpa using h
 |c::m,l,b,h=>by
  have:=yR m (l++[c]) _ (sw (c:=c) h);rw[Zp]at this;exact this
theorem mE(o:Int->Int)(q l:List Int):Inv o q l (lO o q l):=by
 have:=yR (o:=o) (q:=q) l [] [] ⟨List.Sublist.refl _,by simp,by simp,by simp⟩;rw[List.nil_append]at this;exact this
theorem oj{o o':Int->Int}{q:List Int}:∀(l b:List Int),(∀c,c∈l->o c=o' c)->l.foldl (step o q) b=l.foldl (step o' q) b
 |[],_,_=>rfl
 |c::l,b,h=>by
  have:step o q b c=step o' q b c:=by unfold step;rw[h c (by simp)]
  rw[ZT,ZT,this]
  exact oj l _ λd hd=>h d (by simp[hd])
def qV(o:Int->Int)(b:List Int):Int:=if(b.length:Int)=0 then-1 else if(b.length:Int)=1 then o (at' 0 b 0)else-2
def out(p q:List Int)(a:List Bool):Nat->Int->Int
 |0,_=> -1
 |k+1,i=>
  let c:=qV (out p q a k) (lO (out p q a k) q (ch p i))
  if c= -1/\at' aaM a i=aaL then i else c
def cout(p q:List Int)(a:List Bool)(k:Nat)(i:Int):Int:=qV (out p q a k) (lO (out p q a k) q (ch p i))
theorem o5(p q:List Int)(a:List Bool)(k:Nat)(i:Int):out p q a (k+1) i=if cout p q a k i= -1/\at' aaM a i=aaL then i else cout p q a k i:=rfl
theorem mF{p q:List Int}(hv:V p q){i c:Int}(h:c∈ch p i):i<c/\0<=c/\c<8/\c<p.length:=by
 obtain⟨h1,h2,h3⟩:=Md.1 h;have:=hv.n8;obtain⟨j,rfl⟩:=Y9 h1;have:=(hv.par j (by omega)).2;omega
theorem sO{o o':Int->Int}{b:List Int}(h:∀c,c∈b->o c=o' c):qV o b=qV o' b:=by
 cases b with
 |nil=>rfl
 |cons x b=>unfold qV;rw[wF,h x (by simp)]
theorem sP{p q:List Int}{a:List Bool}{k k':Nat}{i:Int}(h:∀c,c∈ch p i->out p q a k c=out p q a k' c):cout p q a k i=cout p q a k' i:=by
 unfold cout;have:lO (out p q a k) q (ch p i)=lO (out p q a k') q (ch p i):=oj _ _ h;rw[this]
 exact sO λc hc=>h c ((mE _ _ _).sub.subset hc)
theorem sQ{p q:List Int}(hv:V p q)(a:List Bool):∀(k:Nat)(i:Int),8<k+i->out p q a k i=out p q a (k+1) i\/8<=i
 |0,i,h=> .inr (by omega)
 |k+1,i,h=>by
  by_cases h8:8<=i
  .exact .inr h8
  .left
   rw[o5,o5 p q a (k+1),sP (k:=k) (k':=k+1)];intro c hc;have:=mF hv hc;exact(sQ hv a k c (by omega)).resolve_right (by omega)
def O(p q:List Int)(a:List Bool)(i:Int):Int:=out p q a 16 i
def C(p q:List Int)(a:List Bool)(i:Int):Int:=qV (O p q a) (lO (O p q a) q (ch p i))
theorem Kv{p q:List Int}(hv:V p q)(a:List Bool):∀(d k:Nat)(i:Int),8<k+i->i<8->d+k=16->out p q a k i=O p q a i
 |0,k,i,_,_,hd=>by
  obtain rfl:k=16:=by omega
  rfl
 |d+1,k,i,h,h8,hd=>by
  rw[(sQ hv a k i h).resolve_right (by omega)];exact Kv hv a d (k+1) i (by omega) h8 (by omega)
theorem OW{p q:List Int}(hv:V p q)(a:List Bool){k:Nat}{i:Int}(h:7<k+i)(hk:k<=16):cout p q a k i=C p q a i:=by
 show _=cout p q a 16 i
 refine sP λc hc=>?_
 have:=mF hv hc;exact Kv hv a (16-k) k c (by omega) (by omega) (by omega)
theorem Tf{p q:List Int}(hv:V p q)(a:List Bool){i:Int}(h0: -1<=i):O p q a i=if C p q a i= -1/\at' aaM a i=aaL then i else C p q a i:=by
 unfold O;rw[o5,OW hv a (by omega) (by omega)]
theorem uW{q b:List Int}{c y:Int}{o:Int->Int}(hy:o c=y)(hb:∀x,x∈b->0<=x/\x<q.length)(hl:b.length<=8)(hc:0<=c/\c<q.length):
 (if(decide (y=(-1:Int)))=aaL then
some b
else
(((if(decide ((0:Int)<(b.length:Int)))=aaL then
(idx q c).bind λx8=>
(idx b (0:Int)).bind λx9=>
(idx q x9).bind λrk=>
some (decide (rk<x8))
else
some aaM):Option (Bool)).bind λj7=>
(if j7=aaL then
(eG b (0:Int) (0:Int)).bind λGR=>
some GR
else
some b):Option (List Int)).bind λj6=>
((if(decide ((j6.length:Int)=(0:Int)))=aaL then
some aaL
else
(idx q c).bind λsz=>
(idx j6 (0:Int)).bind λET=>
(idx q ET).bind λIo=>
some (decide (sz=Io))):Option (Bool)).bind λv8=>
(if v8=aaL then
(b7 j6 ([c]:List Int)).bind λLB=>
some LB
else
some j6))=some (step o q b c):=by
 subst hy;unfold step;by_cases h:o c= -1
 .simp only[h,decide_true,if_true]
 .simp only[h,decide_false,Y8,if_false];rw[jb 0 hc.1 hc.2]
  cases b with
  |nil=>simp[b7]
  |cons x r=>
   have hx:=hb x (by simp)
   have h0:(0:Int)<((x::r).length:Int):=by simp only[Ze];omega
   have h1:¬((x::r).length:Int)=0:=by omega
   simp only[h0,decide_true,if_true,YV,oQ,jb 0 hx.1 hx.2]
   have zu:eG (x::r) (0:Int) (0:Int)=some []:=by
    unfold eG;rw[aaP (by omega)];rfl
   by_cases ai:at' 0 q x<at' 0 q c
   .rw[zu];simp[ai,b7]
   .simp only[ai,decide_false,Y8,if_false,YV,h1,oQ,jb 0 hx.1 hx.2];by_cases he:at' 0 q c=at' 0 q x
    .simp only[he,decide_true,if_true];rw[fK (by simp at hl⊢;omega)];rfl
    .simp only[he,decide_false,Y8,if_false]
theorem HI{q b:List Int}{c y:Int}{o:Int->Int}(hy:o c=y)(hb:∀x,x∈b->0<=x/\x<q.length)(hl:b.length<=8)(hc:0<=c/\c<q.length):
 (if(decide (y=(-1:Int)))=aaL then
some b
else
(((if(decide ((0:Int)<(b.length:Int)))=aaL then
(idx q c).bind λx8=>
(idx b (0:Int)).bind λx9=>
(idx q x9).bind λrk=>
some (decide (rk<x8))
else
some aaM):Option (Bool)).bind λj7=>
(if j7=aaL then
some ([]:List Int)
else
some b):Option (List Int)).bind λj6=>
((if(decide ((j6.length:Int)=(0:Int)))=aaL then
some aaL
else
(idx q c).bind λsz=>
(idx j6 (0:Int)).bind λET=>
(idx q ET).bind λIo=>
some (decide (sz=Io))):Option (Bool)).bind λv8=>
(if v8=aaL then
(b7 j6 ([c]:List Int)).bind λLB=>
some LB
else
some j6))=some (step o q b c):=by
 rw[<-uW hy hb hl hc];rfl
theorem o6{l:List Int}{o:Int->Int}{q:List Int}{k:Nat}:((l.take k).foldl (step o q) []).Sublist l:=(mE o q (l.take k)).sub.trans (List.take_sublist _ _)
theorem JG{N:Nat}{p q r:List Int}(hv:V p q)(hr:r.length=p.length)(i:Int)(hN:20<=N):M.cP N (p,(q,r)) i=some (lO (at' 0 r) q (ch p i)):=by
 have h8:=hv.n8;have hl:=HH p i;unfold M.cP;simp only;rw[qH i h8 (by omega),YV];refine rl (λk:Nat=>((k:Int),((ch p i).take k).foldl (step (at' 0 r) q) [])) (ch p i).length _ rfl ?_ ?_ (by omega)
 .intro k hk
  have hw:YW.wrap ((k:Int)+1)=((k+1:Nat):Int):=by rw[ed]<;>omega
  have hc:=mF hv (Y0 hk);have hq:=hv.len;simp only;rw[aaP (by simp;omega),ao hk,YV,jb 0 hc.2.1 (by omega),YV,hw];have hb:=uW (q:=q) (b:=((ch p i).take k).foldl (step (at' 0 r) q) []) (c:=(ch p i)[k]) (o:=at' 0 r) rfl (λx hx=>by have:=mF hv (o6.subset hx);omega) (by have:=(o6 (l:=ch p i) (o:=at' 0 r) (q:=q) (k:=k)).length_le;omega) ⟨hc.2.1,by omega⟩;rw[hb,YV,List.take_succ_eq_append_getElem hk,List.foldl_append];rfl
 .simp only;rw[aaO (by simp),Zh];rfl
theorem JH{p q:List Int}(hv:V p q){o:Int->Int}{i c:Int}(h:c∈lO o q (ch p i)):i<c/\0<=c/\c<8/\c<p.length:=mF hv ((mE o q _).sub.subset h)
theorem nF{N:Nat}{p q r:List Int}(hv:V p q)(hr:r.length=p.length)(i:Int)(hN:20<=N):M.bw N (p,(q,r)) i=some (qV (at' 0 r) (lO (at' 0 r) q (ch p i))):=by
 unfold M.bw qV;rw[JG hv hr i hN,YV]
 cases hb:lO (at' 0 r) q (ch p i)with
 |nil=>simp
 |cons x b=>
  have hx:=JH hv (o:=at' 0 r) (i:=i) (c:=x) (by rw[hb];simp)
  have h1:¬((x::b).length:Int)=0:=by simp;omega
  simp only[h1,decide_false,Y8,if_false,oQ,YV,wF,jb 0 hx.2.1 (show x<(r.length:Int) by omega)];by_cases h2:((x::b).length:Int)=1
  .simp only[h2,decide_true,if_true]
  .simp only[h2,decide_false,Y8,if_false]
theorem Cq{p q r:List Int}(hv:V p q){a:List Bool}{i:Int}(h:∀c,i<c->0<=c->c<p.length->at' 0 r c=O p q a c):qV (at' 0 r) (lO (at' 0 r) q (ch p i))=C p q a i:=by
 unfold C
 have h':∀c,c∈ch p i->at' 0 r c=O p q a c:=λc hc=>by
  have:=mF hv hc;exact h c this.1 this.2.1 this.2.2.2
 have:lO (at' 0 r) q (ch p i)=lO (O p q a) q (ch p i):=oj _ _ h';rw[this]
 exact sO λc hc=>h' c ((mE _ _ _).sub.subset hc)
def outs(p q:List Int)(a:List Bool)(k:Nat):List Int:=(Y1 p.length).map λj=>if p.length<=j+k then O p q a (j:Int)else 0
theorem HJ{n:Nat}{f:Nat->Int}{c:Int}(h0:0<=c)(h:c<n):at' 0 ((Y1 n).map f) c=f c.toNat:=by
 unfold at';rw[List.getElem?_map,List.getElem?_range (by omega)];rfl
theorem yS{N:Nat}{p q:List Int}{a:List Bool}(hv:V p q)(ha:a.length=p.length)(hN:20<=N):M.da N p q a=some (outs p q a p.length):=by
 have h8:=hv.n8;unfold M.da
 have h0:tO (p.length:Int) (0:Int)=some (Zq p.length 0):=by
  unfold tO;rw[aaP (by omega)];simp
 rw[h0,YV];refine rl (λk:Nat=>((p.length:Int)-1-(k:Int),outs p q a k)) p.length _ ?_ ?_ ?_ (by omega)
 .rw[ed (by omega) (by omega)]
  have:outs p q a 0=Zq p.length 0:=by
   unfold outs
   refine List.ext_getElem (by simp) λj h1 h2=>?_
   simp at h2;rw[List.getElem_map,List.getElem_range,List.getElem_replicate,aaO (by omega)]
  rw[this];simp
 .intro k hk
  have hlen:(outs p q a k).length=p.length:=by simp[outs]
  have hO:=Tf hv a (i:=(p.length:Int)-1-(k:Int)) (by omega);generalize hi:(p.length:Int)-1-(k:Int)=i at*
  have hc:qV (at' 0 (outs p q a k)) (lO (at' 0 (outs p q a k)) q (ch p i))=C p q a i:=Cq hv λc h1 h2 h3=>by
   unfold outs;rw[HJ h2 h3,aaP (by omega),Int.toNat_of_nonneg h2]
  simp only;rw[aaP (by simp;omega),nF hv hlen i hN,YV,hc,jb 0 (by omega) (by omega),YV]
  have kT:∀v,bz (bz (outs p q a k) i v) i (O p q a i)=outs p q a (k+1)/\(v=O p q a i->bz (outs p q a k) i v=outs p q a (k+1)):=by
   intro v
   have e:bz (outs p q a k) i (O p q a i)=outs p q a (k+1):=by
    unfold bz outs;rw[iI]
    refine List.map_congr_left λj hj=>?_
    have:=Zn.1 hj;by_cases h:j=i.toNat
    .rw[aaP h,aaP (by omega),h,Int.toNat_of_nonneg (by omega)]
    .rw[aaO h];by_cases h':p.length<=j+k
     .rw[aaP h',aaP (by omega)]
     .rw[aaO h',aaO (by omega)]
   refine⟨?_,λh=>h▸e⟩;unfold bz at e⊢;rw[List.set_set];exact e
  have k0:∀v,idx (bz (outs p q a k) i v) i=some v:=by
   intro v;unfold bz;rw[jb v (by omega) (by simp;omega)];unfold at';rw[List.getElem?_set_self (by omega)];rfl
  have hw:YW.wrap (i-1)=(p.length:Int)-1-((k+1:Nat):Int):=by rw[ed]<;>omega
  rw[k0,hw];simp only[YV];rw[jb aaM (by omega) (by omega)];simp only[YV];by_cases h1:C p q a i= -1
  .rw[aaP (by simpa using h1),YV];by_cases h2:at' aaM a i=aaL
   .rw[aaP h2];rw[aaP ⟨h1,h2⟩]at hO;have:=(kT (C p q a i)).1;rw[hO]at this;rw[this];rfl
   .rw[aaO h2];rw[aaO (λh=>h2 h.2)]at hO;rw[(kT (C p q a i)).2 hO.symm];rfl
  .rw[aaO (by simpa using h1),YV,aaO (by simp)];rw[aaO (λh=>h1 h.1)]at hO;rw[(kT (C p q a i)).2 hO.symm];rfl
 .simp only;rw[aaO (by simp;omega)]
theorem JI{p q:List Int}{a:List Bool}{c:Int}(h0:0<=c)(h:c<p.length):at' 0 (outs p q a p.length) c=O p q a c:=by
 unfold outs;rw[HJ h0 h,aaP (by omega),Int.toNat_of_nonneg h0]
theorem HK{p q:List Int}{a:List Bool}{k:Nat}:(outs p q a k).length=p.length:=by simp[outs]
theorem Kw(e:Int)(y:Bool){α:Type}(k:Bool->Option α):((if(!decide (e=(0:Int)))=aaL then some aaL else some y:Option Bool).bind k)=k (!decide (e=0)||y):=by
 cases decide (e=0)<;>rfl
theorem wG{N:Nat}(hN:20<=N)(p q:List Int)(a:List Bool):(M.bG N p q a=some (-1)/\M.hZ N p q a=some (-1))\/
 (V p q/\a.length=p.length/\M.bG N p q a=some (C p q a (-1))/\M.hZ N p q a=M.jF N p q a (-1)):=by
 obtain⟨e,he,hv⟩:=yQ (N:=N) p q (by omega);unfold M.bG M.hZ;rw[wD,he];simp only[YV];rw[Kw,Kw];by_cases h:(!decide (e=0)||(!decide ((a.length:Int)=(p.length:Int))))=aaL
 .left
  rw[aaP h,aaP h];exact⟨rfl,rfl⟩
 .right
  have h1:e=0:=by simp at h;exact h.1
  have h2:a.length=p.length:=by simp at h;omega
  have hv:=hv h1;rw[aaO h,aaO h,yS hv h2 hN];simp only[YV];rw[nF hv HK (-1) hN];refine⟨hv,h2,?_,?_⟩
  .exact aaV some (Cq hv λc _ h0 h=>JI h0 h)
  .cases M.jF N p q a (-1)<;>rfl
section
variable {p q:List Int} {a:List Bool} (hv:V p q) (ha:a.length=p.length)
include hv ha
theorem OX{N:Nat}{o:Int->Int}{i:Int}(hN:20<=N)(ho:∀c,c∈ch p i->M.cJ bd N p q a c=some (o c)):M.ln bd (N+1) p q a i=some (lO o q (ch p i)):=by
 have h8:=hv.n8;have hl:=HH p i;unfold M.ln;rw[wE,qH i h8 (by unfold bd;omega),YV];refine rl (λk:Nat=>((k:Int),((ch p i).take k).foldl (step o q) [])) (ch p i).length _ rfl ?_ ?_ (by unfold bd;omega)
 .intro k hk
  have hw:YW.wrap ((k:Int)+1)=((k+1:Nat):Int):=by rw[ed]<;>omega
  have hc:=mF hv (Y0 hk);have hq:=hv.len;simp only;rw[aaP (by simp;omega),ao hk,YV,ho _ (Y0 hk),YV,hw];have hb:=HI (q:=q) (b:=((ch p i).take k).foldl (step o q) []) (c:=(ch p i)[k]) (o:=o) rfl (λx hx=>by have:=mF hv (o6.subset hx);omega) (by have:=(o6 (l:=ch p i) (o:=o) (q:=q) (k:=k)).length_le;omega) ⟨hc.2.1,by omega⟩;simp only[YV];rw[hb,YV,List.take_succ_eq_append_getElem hk,List.foldl_append];rfl
 .simp only;rw[aaO (by simp),Zh];rfl
theorem uX{N:Nat}{o:Int->Int}{i:Int}(hN:20<=N)(ho:∀c,c∈ch p i->M.cJ bd N p q a c=some (o c))(ij:∀c,c∈ch p i->M.cJ bd (N+1) p q a c=some (o c)):M.eD bd (N+2) p q a i=some (qV o (lO o q (ch p i))):=by
 unfold M.eD;rw[OX hv ha hN ho,YV];unfold qV
 cases hb:lO o q (ch p i)with
 |nil=>simp
 |cons x b=>
  have hx:=(mE o q (ch p i)).sub.subset (show x∈lO o q (ch p i) by rw[hb];simp)
  have h1:¬((x::b).length:Int)=0:=by simp only[Ze];omega
  simp only[h1,decide_false,Y8,if_false,oQ,YV,wF];by_cases h2:1<((x::b).length:Int)
  .simp only[h2,decide_true,if_true];rw[aaO (by omega)]
  .simp only[h2,decide_false,Y8,if_false];rw[ij x hx,aaP (by simp only[Ze]at h1 h2⊢;omega)];rfl
theorem sR:∀(k N:Nat)(i:Int),8<k+i->0<=i->i<p.length->3*k+30<=N->M.cJ bd N p q a i=some (out p q a k i)
 |0,N,i,h,_,h2,_=>by have:=hv.n8;omega
 |k+1,N,i,h,h0,h2,hN=>by
  obtain⟨N,rfl⟩:∃n,N=n+3:=⟨N-3,by omega⟩
  unfold M.cJ;rw[uX hv ha (o:=out p q a k) (by omega) (λc hc=>?_) (λc hc=>?_),YV,o5]
  .show _=some (if cout p q a k i= -1/\at' aaM a i=aaL then i else cout p q a k i)
   show Option.bind (if decide (cout p q a k i= -1)=aaL then _ else _) _=_
   rw[jb aaM h0 (by omega)];simp only[YV];by_cases h1:cout p q a k i= -1
   .simp only[h1,decide_true,if_true,YV,true_and];by_cases h3:at' aaM a i=aaL
    .rw[aaP h3,aaP h3]
    .rw[aaO h3,aaO h3];exact aaV some h1
   .simp only[h1,decide_false,Y8,if_false,YV,false_and];rfl
  .have:=mF hv hc;exact sR k N c (by omega) (by omega) (by omega) (by omega)
  .have:=mF hv hc;exact sR k (N+1) c (by omega) (by omega) (by omega) (by omega)
theorem Tg{N:Nat}{i:Int}(h0:0<=i)(h:i<p.length)(hN:90<=N):M.cJ bd N p q a i=some (O p q a i):=sR hv ha 16 N i (by omega) h0 h (by omega)
theorem wH{N:Nat}{i:Int}(hN:100<=N):M.eD bd N p q a i=some (C p q a i):=by
 obtain⟨N,rfl⟩:∃n,N=n+2:=⟨N-2,by omega⟩
 refine uX hv ha (by omega) (λc hc=>?_) λc hc=>?_
 all_goals
  have:=mF hv hc;exact Tg hv ha (by omega) (by omega) (by omega)
end
theorem Me(p q:List Int)(a:List Bool):M.bG bd p q a=M.hZ bd p q a:=by
 rcases wG (N:=bd) (by unfold bd;omega) p q a with⟨h1,h2⟩|⟨hv,ha,h1,h2⟩
 .rw[h1,h2]
 .rw[h1,h2];exact(wH hv ha (N:=bd) (by unfold bd;omega)).symm
end L.S
end
namespace L
def Pl(n:Nat)(v:Int):Prop:=v= -1\/v= -2\/0<=v/\v<(n:Int)
theorem yT(p:List Int)(i:Int)(hl:p.length<=8):Wp (M.cG bd p i) λr=>r.length<=p.length/\∀x∈r,(0:Int)<=x/\x<(p.length:Int):=by
 unfold M.cG
 refine Wp.count (λs=>s.1) p.length (λk s=>s.2.length<=k/\∀x∈s.2,(0:Int)<=x/\x<(p.length:Int)) (by omega) rfl ⟨YY _,λx h=>by cases h⟩ λk s hk hs hJ=>?_
 obtain⟨c,l⟩:=s;obtain⟨j1,j2⟩:=hJ;dsimp only at hs j1 j2;subst hs
 refine Wp.dec (λai=>?_) λhge=> .some ⟨by dsimp only;omega,j2⟩
 have ai:k<p.length:=by dsimp only at ai;omega
 dsimp only
 refine Wp.seq (λj=>j.length<=k+1/\∀x∈j,(0:Int)<=x/\x<(p.length:Int)) ?_ λj hj=> .some ⟨ai,cX (m:=p.length) (by omega) ai,hj⟩
 rw[ao ai,YV]
 refine Wp.dec (λ_=>?_) λ_=> .some ⟨by omega,j2⟩
 rw[fK (by simp;omega),YV];refine .some ⟨by simp;omega,λx hx=>?_⟩
 rcases Y7.1 hx with h|h
 .exact j2 x h
 .obtain rfl:x=(k:Int):=by simpa using h
  omega
theorem JJ{p q r:List Int}(i:Int)(hl:p.length<=8)(hq:q.length=p.length)(hr:r.length=p.length):Wp (M.cP bd (p,(q,r)) i) λb=>∀x∈b,(0:Int)<=x/\x<(p.length:Int):=by
 unfold M.cP
 refine Wp.seq _ (yT p i hl) λy hy=>?_
 obtain⟨y1,y2⟩:=hy
 refine Wp.count (λs=>s.1) y.length (λk s=>s.2.length<=k/\∀x∈s.2,(0:Int)<=x/\x<(p.length:Int)) (by omega) rfl ⟨YY _,λx h=>by cases h⟩ λk s hk hs hJ=>?_
 obtain⟨c,l⟩:=s;obtain⟨j1,j2⟩:=hJ;dsimp only at hs j1 j2;subst hs
 refine Wp.dec (λai=>?_) λhge=> .some j2
 have ai:k<y.length:=by dsimp only at ai;omega
 dsimp only
 refine Wp.seq (λj=>j.length<=k+1/\∀x∈j,(0:Int)<=x/\x<(p.length:Int)) ?_ λj hj=> .some ⟨ai,cX (m:=y.length) (by omega) ai,hj⟩
 have hv:=y2 _ (Y0 ai);rw[ao ai,YV];generalize y[k]=v at hv⊢
 have at_:∀{l:List Int}{u:Int},l.length=p.length->(0:Int)<=u/\u<(p.length:Int)->∃z,idx l u=some z:=λ{l u}h h'=>by
  obtain⟨z,hz,_⟩:=sN (l:=l) (i:=u) h'.1 (by omega);exact⟨z,hz⟩
 obtain⟨z1,e1⟩:=at_ hr hv;obtain⟨z2,e2⟩:=at_ hq hv
 have hd:∀{l:List Int},0<l.length->(∀x∈l,(0:Int)<=x/\x<(p.length:Int))->∃u z,idx l (0:Int)=some u/\idx q u=some z:=λ{l}h h'=>by
  obtain⟨u,hu,hm⟩:=sN (l:=l) (i:=0) (Int.le_refl _) (by omega);obtain⟨z,hz⟩:=at_ hq (h' u hm);exact⟨u,z,hu,hz⟩
 rw[e1,YV]
 refine Wp.dec (λ_=> .some ⟨by omega,j2⟩) λ_=>?_
 refine Wp.seq (λj=>j.length<=k/\∀x∈j,(0:Int)<=x/\x<(p.length:Int)) ?_ λl6 h6=>?_
 .refine Wp.seq (λ_=>True) ?_ λj7 _=>?_
  .refine Wp.dec (λh=>?_) λ_=> .some trivial
   obtain⟨u,z,hu,hz⟩:=hd (l:=l) (by omega) j2;rw[e2,YV,hu,YV,hz];exact .some trivial
  .refine Wp.ite (λ_=>?_) λ_=> .some ⟨j1,j2⟩
   rw[rm (l:=l) (i:=0) (j:=0) 0 0 rfl rfl (YY _) (Nat.zero_le _),YV];exact .some ⟨by simp,by simp⟩
 .obtain⟨g1,g2⟩:=h6
  refine Wp.seq (λ_=>True) ?_ λv8 _=>?_
  .refine Wp.dec (λ_=> .some trivial) λh=>?_
   obtain⟨u,z,hu,hz⟩:=hd (l:=l6) (by omega) g2;rw[e2,YV,hu,YV,hz];exact .some trivial
  .refine Wp.ite (λ_=>?_) λ_=> .some ⟨by omega,g2⟩
   rw[fK (by simp;omega),YV];refine .some ⟨by simp;omega,λx hx=>?_⟩
   rcases Y7.1 hx with h|h
   .exact g2 x h
   .obtain rfl:x=v:=by simpa using h
    exact hv
theorem Cr{p q r:List Int}(i:Int)(hl:p.length<=8)(hq:q.length=p.length)(hr:r.length=p.length)(hp:∀x∈r,Pl p.length x):Wp (M.bw bd (p,(q,r)) i) (Pl p.length):=by
 unfold M.bw
 refine Wp.seq _ (JJ i hl hq hr) λb hb=>?_
 refine Wp.dec (λ_=> .some (.inl rfl)) λh0=>?_
 refine Wp.dec (λh1=>?_) λ_=> .some (.inr (.inl rfl))
 obtain⟨u,hu,hm⟩:=sN (l:=b) (i:=0) (Int.le_refl _) (by omega);have:=hb u hm;obtain⟨z,hz,XL⟩:=sN (l:=r) (i:=u) this.1 (by omega);rw[hu,YV];dsimp only;rw[hz,YV];exact .some (hp z XL)
theorem yU{α:Type}{l:List α}{i:Int}{y x:α}(h:x∈bz l i y):x∈l\/x=y:=by
 unfold bz at h;exact List.mem_or_eq_of_mem_set h
theorem JK{p q:List Int}{a:List Bool}(hl:p.length<=8)(hq:q.length=p.length)(ha:a.length=p.length):Wp (M.da bd p q a) λr=>r.length=p.length/\∀x∈r,Pl p.length x:=by
 unfold M.da;rw[wp_bind];refine lq.2 ⟨by omega,?_⟩;rw[Y4]
 have hw:∀n:Nat,n<=8->YW.wrap ((n:Int)-1)=(n:Int)-1:=λn h=>ed (by omega) (by omega)
 refine Wp.loop (λs=>(∃k:Nat,s.1=(k:Int)-1/\k<=p.length)/\s.2.length=p.length/\∀x∈s.2,Pl p.length x) (λs=>(s.1+1).toNat) ⟨⟨p.length,hw _ hl,YY _⟩,by simp,λx hx=>?_⟩ ?_ ?_
 .rw[List.mem_replicate]at hx;exact .inr (.inr ⟨by omega,by omega⟩)
 .dsimp only;rw[hw _ hl];unfold bd;omega
 .rintro⟨c,l⟩ ⟨⟨k,hk,Ez⟩,j1,j2⟩
  dsimp only at hk j1 j2;subst hk
  refine Wp.dec (λai=>?_) λhge=> .some ⟨j1,j2⟩
  obtain⟨m,rfl⟩:∃m,k=m+1:=⟨k-1,by dsimp only at ai;omega⟩
  have hm:(((m+1:Nat):Int)-1)=(m:Int):=by omega
  rw[hm]
  have Ib:m<p.length:=by omega
  dsimp only
  refine Wp.seq (λj=>j.length=p.length/\∀x∈j,Pl p.length x) ?_ λj hj=> .some ⟨⟨⟨m,by rw[hw _ (by omega)],by omega⟩,hj⟩,by dsimp only;rw[hw _ (by omega)];omega⟩
  refine Wp.seq _ (Cr (m:Int) hl hq j1 j2) λv hv=>?_
  have s1:(bz l (m:Int) v).length=p.length:=by rw[cm];exact j1
  have s2:∀x∈bz l (m:Int) v,Pl p.length x:=λx hx=>by
   rcases yU hx with h|rfl
   .exact j2 x h
   .exact hv
  rw[ao (show m<l.length by omega),YV]
  refine Wp.seq (λ_=>True) ?_ λj6 _=>?_
  .rw[ao (show m<(bz l (m:Int) v).length by omega),YV]
   refine Wp.dec (λ_=>?_) λ_=> .some trivial
   rw[ao (show m<a.length by omega),YV];exact .some trivial
  .refine Wp.ite (λ_=>?_) λ_=> .some ⟨s1,s2⟩
   rw[ao (show m<(bz l (m:Int) v).length by omega),YV];refine .some ⟨by rw[cm];exact s1,λx hx=>?_⟩
   rcases yU hx with h|rfl
   .exact s2 x h
   .exact .inr (.inr ⟨by omega,by omega⟩)
theorem EC(p q:List Int)(a:List Bool)(hp:p.length<=100000):Wp (M.bG bd p q a) (Pl p.length):=by
 unfold M.bG
 have hV:Wp (M.cg bd p q) λc=>c=0->p.length<=8/\q.length=p.length:=by
  unfold M.cg
  refine Wp.pZ (λ_=> .some λh=>by cases h) λh1=>?_
  refine Wp.dec (λ_=> .some λh=>by cases h) λh2=>?_
  have hq:q.length=p.length:=by omega
  refine Wp.count (λs=>s) p.length (λ_ _=>True) (by omega) rfl trivial λk s hk hs _=>?_
  obtain rfl:s=_:=hs
  refine Wp.dec (λai=>?_) λhge=> .some λ_=>⟨by omega,hq⟩
  have ai:k<p.length:=by omega
  rw[ao ai,YV]
  refine Wp.seq (λ_=>True) (Wp.dec (λ_=> .some trivial) λ_=> .some trivial) λj3 _=>?_
  refine Wp.ite (λ_=> .some λh=>by cases h) λ_=>?_
  refine Wp.seq (λ_=>True) ?_ λj4 _=>?_
  .rw[ao (show k<q.length by omega),YV]
   exact Wp.dec (λ_=> .some trivial) λ_=> .some trivial
  .exact Wp.ite (λ_=> .some λh=>by cases h) λ_=> .some ⟨ai,cX (m:=p.length) (by omega) ai,trivial⟩
 refine Wp.seq (λj=>j=aaM->p.length<=8/\q.length=p.length/\a.length=p.length) ?_ λj hj=>?_
 .refine Wp.seq _ hV λc hc=>?_
  refine Wp.pZ (λ_=> .some λh=>by cases h) λh=> .some λg=>?_
  obtain⟨h1,h2⟩:=hc h;refine⟨h1,h2,?_⟩
  have:(a.length:Int)=(p.length:Int):=by simpa using g
  omega
 .cases j with
  |true=>rw[aaP rfl];exact .some (.inl rfl)
  |false=>
   obtain⟨h1,h2,h3⟩:=hj rfl;rw[aaO (by decide)]
   refine Wp.seq _ (JK h1 h2 h3) λr hr=>?_
   rw[wp_bind]
   exact(Cr (-1) h1 h2 hr.1 hr.2).mono λy hy=> .some hy
abbrev nq:Type:=List aa.den
theorem HL(a b:nq)(hl:a.length<=100000):M.be bd a b=some (decide (a=b)):=by
 unfold M.be;refine Wp.eq (Wp.pZ (λh=> .some ?_) λh=>?_)
 .exact(aaS λe=>h (by rw[e])).symm
 .have h:a.length=b.length:=by omega
  refine Wp.count (λs=>s) a.length (λk _=>∀i,∀h1:i<a.length,∀h2:i<b.length,i<k->a[i]=b[i]) (by omega) rfl (λi _ _ hi=>absurd hi (by omega)) λk s hk hs hJ=>?_
  subst hs;refine .dec (λai=>?_) (λhge=> .some ?_)
  .have ai:k<a.length:=by omega
   refine .bind (.idx k rfl ai (.bind (.idx k rfl (by omega) (.ite (λh1=> .some ?_) (λh1=> .some ⟨ai,aF (by omega),λi rC sX hi=>?_⟩)))))
   .have h1:ku aa a[k] (b[k]'(by omega))=aaM:=by simpa using h1
    have h1:=pc.1 h1;exact(aaS λe=>h1 (by simp only[e])).symm
   .rcases Zb.1 hi with hi|rfl
    .exact hJ i rC sX hi
    .exact kY.1 (by simpa using h1)
  .have:k=a.length:=by omega
   subst this;exact(aaR (List.ext_getElem h λi h1 h2=>hJ i h1 h2 h1)).symm
theorem Cs(a b:nq)(hl:a.length<=100000):M.jD bd a b=some (decide (a=b)):=by
 unfold M.jD;refine Wp.eq (Wp.pZ (λh=> .some ?_) λh=>?_)
 .exact(aaS λe=>h (by rw[e])).symm
 .have h:a.length=b.length:=by omega
  refine Wp.count (λs=>s) a.length (λk _=>∀i,∀h1:i<a.length,∀h2:i<b.length,i<k->a[i]=b[i]) (by omega) rfl (λi _ _ hi=>absurd hi (by omega)) λk s hk hs hJ=>?_
  subst hs
  refine Wp.seq (λj=>j=decide (k<a.length)) (.dec (λh1=> .some ?_) (λh1=> .some ?_)) λj hj=>?_
  .exact decide_eq_decide.2 (by omega)
  .exact(aaS (by omega)).symm
  .subst hj;refine .dec (λai=>?_) (λhge=> .some ?_)
   .refine .bind (.idx k rfl ai (.bind (.idx k rfl (by omega) (.ite (λh1=> .some ?_) (λh1=> .some ⟨ai,aF (by omega),λi rC sX hi=>?_⟩)))))
    .have h1:ku aa a[k] (b[k]'(by omega))=aaM:=by simpa using h1
     have h1:=pc.1 h1;exact(aaS λe=>h1 (by simp only[e])).symm
    .rcases Zb.1 hi with hi|rfl
     .exact hJ i rC sX hi
     .exact kY.1 (by simpa using h1)
   .have:k=a.length:=by omega
    subst this;exact(aaR (List.ext_getElem h λi h1 h2=>hJ i h1 h2 h1)).symm
def dF(g:nq)(C:List nq):Int:=lv (λx=>decide (x=g)) C
theorem ED(C:List nq)(g:nq)(hC:C.length<=100000)(hl:∀x∈C,x.length<=100000):M.c9 bd C g=some (dF g C):=by
 unfold M.c9 dF;refine oX (by unfold maxLen;omega) (λk h=>?_) ?_
 .rw[iJ h,aaP rfl,ao h,YV,HL _ _ (hl _ (Y0 h)),YV]
 .simp only[eE,decide_false,Y8,if_false]
theorem yV(C:List nq)(g:nq)(hC:C.length<=100000)(hl:∀x∈C,x.length<=100000):M.lm bd C g=some (dF g C):=by
 unfold M.lm dF;refine oX (by unfold maxLen;omega) (λk h=>?_) ?_
 .rw[iJ h,aaP rfl,ao h,YV,Cs _ _ (hl _ (Y0 h)),YV]
 .simp only[eE,decide_false,Y8,if_false]
theorem sS{g:nq}{C X:List nq}(h:0<=dF g C):dF g (C++X)=dF g C:=by
 obtain⟨x,hx,hp⟩:=eK.1 h;unfold dF lv;have h1:C.findIdx (λx=>decide (x=g))<C.length:=List.findIdx_lt_length.2 ⟨x,hx,hp⟩;rw[List.findIdx_append,aaP h1,aaP h1,aaP (by simp;omega)]
theorem sT{g:nq}{C:List nq}(h:¬0<=dF g C):dF g (C++[g])=(C.length:Int):=by
 refine oW (by simp) (by simp) λj hj Ie=>?_
 rw[List.getElem_append_left hj]
 exact aaS λe=>h (eK.2 ⟨_,Y0 hj,by rw[e];simp⟩)
def gd(rules:List fT)(i:Nat):nq:=match rules[i]? with
 |some r=>r.2.2.2.2.2.1
 |none=>[]
def cK(rules:List fT)(s:List nq×List Int)(i:Nat):List nq×List Int:=if(gd rules i).length=0 then s else if 0<=dF (gd rules i) s.1 then s else(s.1++[gd rules i],s.2++[(i:Int)])
def dB(rules:List fT)(C:List nq)(i:Nat):Int:=if(gd rules i).length=0 then-1 else dF (gd rules i) C
theorem qe(rules:List fT)(T:List Nat):∀s:List nq×List Int,∃X,(T.foldl (cK rules) s).1=s.1++X/\(T.foldl (cK rules) s).1.length<=s.1.length+T.length:=by
 induction T with
 |nil=>exact λs=>⟨[],by simp,by simp⟩
 |cons i T ih=>
  intro s;obtain⟨X,hX,hl⟩:=ih (cK rules s i)
  have:∃Y,(cK rules s i).1=s.1++Y/\Y.length<=1:=by
   unfold cK;split
   .exact⟨[],by simp,by simp⟩
   .split
    .exact⟨[],by simp,by simp⟩
    .exact⟨[gd rules i],rfl,by simp⟩
  obtain⟨Y,hY,YJ⟩:=this;rw[ZT];refine⟨Y++X,by rw[hX,hY,Zp],?_⟩;rw[hY]at hl;simp only[Zf,Ze]at hl⊢;omega
theorem uY(rules:List fT)(s:List nq×List Int)(i:Nat)(h:(gd rules i).length≠0):0<=dF (gd rules i) (cK rules s i).1:=by
 unfold cK;rw[aaO h];split
 .assumption
 .rename_i g
  show 0<=dF _ (s.1++[_])
  rw[sT g];omega
theorem Bd(rules:List fT)(s:List nq×List Int)(T:List Nat)(i:Nat)(h:(gd rules i).length≠0->0<=dF (gd rules i) s.1):dB rules (T.foldl (cK rules) s).1 i=dB rules s.1 i:=by
 unfold dB;by_cases g:(gd rules i).length=0
 .rw[aaP g,aaP g]
 .rw[aaO g,aaO g];obtain⟨X,hX,_⟩:=qe rules T s;rw[hX,sS (h g)]
theorem qf(rules:List fT)(T:List Nat):∀s:List nq×List Int,∀i∈T,(gd rules i).length≠0->0<=dF (gd rules i) (T.foldl (cK rules) s).1:=by
 induction T with
 |nil=>intro s i hi;simp at hi
 |cons j T ih=>
  intro s i hi h;rw[ZT]
  rcases Y6.1 hi with rfl|hi
  .obtain⟨X,hX,_⟩:=qe rules T (cK rules s i);rw[hX,sS (uY rules s i h)];exact uY rules s i h
  .exact ih _ i hi h
theorem EE(rules:List fT)(T:List Nat):∀s:List nq×List Int,∀x∈(T.foldl (cK rules) s).1,x∈s.1\/∃i,x=gd rules i:=by
 induction T with
 |nil=>exact λs x hx=> .inl hx
 |cons j T ih=>
  intro s x hx;rw[ZT]at hx
  rcases ih _ x hx with h|h
  .unfold cK at h;split at h
   .exact .inl h
   .split at h
    .exact .inl h
    .rcases Y7.1 h with h|h
     .exact .inl h
     .exact .inr ⟨j,Y5.1 h⟩
  .exact .inr h
end L
namespace L
def bt(c b:Int):Bool:=decide (ak .and .i64 (bW .i64 c b) 1=1)
def flag(c b:Int):Bool:=if b<0 then aaL else bt c b
theorem Be{c b:Int}(h:0<=b):zC .i64 c b=some (bW .i64 c b):=by unfold zC;rw[aaO (by omega)]
noncomputable def tJ(p q:List Int)(a:List Bool):Int:=(M.bG bd p q a).getD 0
theorem o7(p q:List Int)(a:List Bool)(hp:p.length<=100000):M.bG bd p q a=some (tJ p q a)/\Pl p.length (tJ p q a):=(EC p q a hp).getD 0
def HM(T:List Int)(s:Int):Int:=if 0<=s then(T[s.toNat]?).getD 0 else s
noncomputable def oc(T p q B:List Int)(c:Int):Int:=HM T (tJ p q (B.map (flag c)))
theorem rp{T:List Int}{s:Int}(h0:0<=s)(h1:s<(T.length:Int)):idx T s=some (HM T s):=by
 obtain⟨k,rfl⟩:=Y9 h0
 have hk:k<T.length:=by omega
 rw[ao hk];unfold HM;rw[aaP h0,Y4,YX hk];rfl
theorem EF{T p q B:List Int}{n:Nat}(hn:n<=8)(hT:T.length<=100000)(hp:p.length=T.length)(hB:B.length=T.length):M.bH bd T p q B (n:Int)=some ((Y1 (2 ^ n)).map λc:Nat=>oc T p q B (c:Int)):=by
 have h8:=lN hn;unfold M.bH;rw[jk (by omega),YV]
 have OT:((2 ^ n:Nat):Int)<=4294967296:=by have:((2 ^ n:Nat):Int)<=256:=by exact_mod_cast h8
                                           exact Int.le_trans this (by decide)
 refine Wp.eq (.bind (lq.2 ⟨⟨Int.natCast_nonneg _,OT⟩, .bind (lq.2 ⟨by omega,?_⟩)⟩));rw[Y4,Y4];generalize hK:2 ^ n=K at*
 have oE:∀{α:Type}(m:Nat)(z:α),Zq m z=(Y1 m).map λ_=>z:=λm z=>by
  apply List.ext_getElem (by simp);intro i h1 h2;simp
 refine Wp.count (λs=>s.1) K (λc s=>s.2.1=((Y1 K).map λj:Nat=>if j<c then oc T p q B (j:Int)else 0)/\s.2.2.length=T.length) (by omega) rfl ⟨by rw[oE];simp,by simp⟩ λc s hc hs hJ=>?_
 obtain⟨cc,out,fl⟩:=s;obtain⟨rfl,J4⟩:=hJ;dsimp only at hs J4⊢;subst hs;rw[List.length_replicate];refine .dec (λh=>?_) (λh=> .some ?_)
 .have ai:c<K:=by omega
  refine Wp.seq (λs=>s.1=((Y1 K).map λj:Nat=>if j<c+1 then oc T p q B (j:Int)else 0)/\s.2.length=T.length) ?_ λj hj=> .some ⟨ai,aF (by omega),hj⟩
  refine Wp.seq (λs=>s.1=((Y1 K).map λj:Nat=>if j<c+1 then oc T p q B (j:Int)else 0)/\s.2.length=T.length) ?_ λj hj=> .some hj
  refine Wp.seq (λf=>f=B.map (flag (c:Int))) ?_ λf hf=>?_
  .refine Wp.count (λs=>s.1) B.length (λk s=>s.2.length=B.length/\∀i,∀h:i<s.2.length,∀h2:i<B.length,i<k->s.2[i]=flag (c:Int) B[i]) (by omega) rfl ⟨by rw[J4,hB],λi _ _ hi=>absurd hi (by omega)⟩ λk s hk hs hJ=>?_
   obtain⟨kk,f⟩:=s;obtain⟨g1,g2⟩:=hJ;dsimp only at hs g1 g2⊢;subst hs;refine .dec (λh=>?_) (λh=> .some ?_)
   .have Ez:k<B.length:=by omega
    have kT:∀v:Bool,v=flag (c:Int) B[k]->(bz f (k:Int) v).length=B.length/\∀i,∀h:i<(bz f (k:Int) v).length,∀h2:i<B.length,i<k+1->(bz f (k:Int) v)[i]=flag (c:Int) B[i]:=λv hv=>by
     refine⟨by rw[cm];exact g1,λi h h2 hi=>?_⟩;simp only[bz,Y4,List.getElem_set];by_cases e:k=i
     .subst e;rw[aaP rfl,hv]
     .rw[aaO e];exact g2 i (by omega) h2 (by omega)
    refine Wp.seq (λs=>s.length=B.length/\∀i,∀h:i<s.length,∀h2:i<B.length,i<k+1->s[i]=flag (c:Int) B[i]) (.bind (.idx k rfl Ez ?_)) λj hj=> .some ⟨Ez,aF (by omega),hj⟩
    refine .dec (λh=> .bind (.idx k rfl (by omega) (.some (kT _ ?_)))) (λh=> .aT (Be (by omega)) (.bind (.idx k rfl (by omega) (.some (kT _ ?_)))))
    .unfold flag;rw[aaP h]
    .unfold flag;rw[aaO h];rfl
   .have:k=B.length:=by omega
    subst this
    refine List.ext_getElem (by rw[g1,Z5]) λi h1 h2=>?_
    have sX:i<B.length:=by simpa using h2
    rw[g2 i h1 sX sX,List.getElem_map]
  .subst hf;obtain⟨hs,hr⟩:=o7 p q (B.map (flag (c:Int))) (by omega);refine .aT hs ?_
   have kT:∀v:Int,v=oc T p q B (c:Int)->bz ((Y1 K).map λj:Nat=>if j<c then oc T p q B (j:Int)else 0) (c:Int) v=((Y1 K).map λj:Nat=>if j<c+1 then oc T p q B (j:Int)else 0):=λv hv=>by
    unfold bz;rw[Y4,iI]
    refine List.map_congr_left λy hy=>?_
    by_cases e:y=c
    .subst e;rw[aaP rfl,aaP (by omega),hv]
    .rw[aaO e];by_cases g:y<c
     .rw[aaP g,aaP (by omega)]
     .rw[aaO g,aaO (by omega)]
   have EG:oc T p q B (c:Int)=HM T (tJ p q (B.map (flag (c:Int)))):=rfl;generalize tJ p q (B.map (flag (c:Int)))=v at hr EG⊢;unfold Pl at hr
   refine Wp.seq (λj=>j=aaL↔0<=v) (.dec (λh=> .some ?_) (λh=> .some ⟨λh=>(by cases h),λg=>absurd g h⟩)) λj hj=> .ite (λh=>?_) (λh=>?_)
   .rw[aaW];exact⟨λ_=>h,λ_=>by omega⟩
   .have hv:=hj.1 h;refine .aT (rp hv (by omega)) (.bind (wz ai (.some ⟨kT _ EG.symm,by rw[Z5];omega⟩)))
   .have hv:¬0<=v:=λg=>h (hj.2 g)
    refine .bind (wz ai (.some ⟨kT _ (by rw[EG];unfold HM;rw[aaO hv]),by rw[Z5];omega⟩))
 .have:c=K:=by omega
  subst this
  refine List.map_congr_left λy hy=>?_
  rw[aaP (Zn.1 hy)]
noncomputable def mn(l:List Int)(n:Nat):List (Int×Int):=yK (yH (n:Int)) (λx=>(x:Int)∈l) (cS l)
theorem ol{k:Nat}{mem:Nat->Bool}:∀{l:List (Nat×Nat)}{cov:Nat->Bool},(dA k mem cov l).length<=l.length
 |[],_=>YY _
 |p::l,cov=>by
  rw[gG];split
  .have:=ol (k:=k) (mem:=mem) (l:=l) (cov:=λx=>cov x||decide (x&&& p.1=p.2));simp only[Ze];omega
  .have:=ol (k:=k) (mem:=mem) (l:=l) (cov:=cov);simp only[Ze];omega
theorem Bf(l:List Int)(n:Nat):(mn l n).length<=65536:=by
 have hn:=wy (n:Int);have h8:=lN hn;unfold mn yK;refine Zj ol ?_;generalize yH (n:Int)=n at*
 have:=nf (A:=((Pt n).filter (tH n λx=>(x:Int)∈l)).map λp=>p.1*256+p.2) (B:=Y1 65536) ?_ λx hx=>?_
 .simpa using this
 .rw[List.Nodup,List.pairwise_map];refine List.Pairwise.imp_of_mem (λ{p q}hp hq ai e=>?_) ((qb n).filter _);have h1:=(lA hn).1 (Zt.1 hp).1;have h2:=(lA hn).1 (Zt.1 hq).1
  have h3:p.2<=p.1:=by rw[<-h1.2];exact Nat.and_le_right
  have h4:q.2<=q.1:=by rw[<-h2.2];exact Nat.and_le_right
  have h5:p.1=q.1/\p.2=q.2:=by omega
  rw[h5.1,h5.2]at ai;exact lP.irrefl _ ai
 .obtain⟨p,hp,rfl⟩:=List.mem_map.1 hx;have h1:=(lA hn).1 (Zt.1 hp).1
  have h3:p.2<=p.1:=by rw[<-h1.2];exact Nat.and_le_right
  exact Zn.2 (by omega)
def qg(O:List Int)(v:Int):List Int:=ids (λk=>decide (O[k]? =some v)) O.length
noncomputable def cY(O:List Int)(n:Nat)(v:Int):List kq:=if(qg O v).length=0 then[]else(mn (qg O v) n).map λp=>(p,v)
theorem om(O:List Int)(n:Nat)(v:Int):(cY O n v).length<=65536:=by
 unfold cY;split
 .simp
 .rw[Z5];exact Bf _ _
theorem EH{O T:List Int}{n:Nat}(hO:O.length<=100000)(hT:T.length<=1000):M.eB bd O T (n:Int)=some (([-2,-1]++T).flatMap (cY O n)):=by
 unfold M.eB;refine Wp.eq (.bind (.p3 (by simp;omega) ?_))
 have hL:([(-2:Int),-1]++T).length<=1002:=by simp;omega
 generalize([(-2:Int),-1]++T)=L at hL⊢
 refine Wp.count (λs=>s.1) L.length (λk s=>s.2=(L.take k).flatMap (cY O n)/\s.2.length<=k*65536) (by omega) rfl ⟨rfl,YY _⟩ λk s hk hs hJ=>?_
 obtain⟨kk,acc⟩:=s;obtain⟨g1,g2⟩:=hJ;dsimp only at hs g1 g2⊢;subst hs;refine .dec (λh=>?_) (λh=> .some ?_)
 .have ai:k<L.length:=by omega
  have cQ:(L.take (k+1)).flatMap (cY O n)=(L.take k).flatMap (cY O n)++cY O n L[k]:=by
   rw[<-Zk ai,List.flatMap_append];simp
  have OQ:=om O n L[k]
  refine Wp.seq (λs=>s=acc++cY O n L[k]) ?_ λj hj=> .some ⟨ai,aF (by omega),by rw[cQ,<-g1];exact hj,by show j.length<=_;rw[hj,Zf];omega⟩
  refine Wp.seq (λs=>s=acc++cY O n L[k]) (.bind (.idx k rfl ai ?_)) λj hj=> .some hj
  refine Wp.seq (λj=>j=qg O L[k]) ?_ λj hj=>?_
  .refine Wp.count (λs=>s.1) O.length (λi s=>s.2=ids (λz=>decide (O[z]? =some L[k])) i) (by omega) rfl rfl λi s hi hs hJ=>?_
   obtain⟨ii,l⟩:=s;dsimp only at hs hJ⊢;subst hs hJ;refine .dec (λh=>?_) (λh=> .some ?_)
   .have nC:i<O.length:=by omega
    have hl:=lC (λz=>decide (O[z]? =some L[k])) i
    refine Wp.seq (λs=>s=ids (λz=>decide (O[z]? =some L[k])) (i+1)) (.bind (.idx i rfl nC ?_)) λj hj=> .some ⟨nC,aF (by omega),hj⟩
    rw[jI,YX nC];refine .dec (λh=> .bind (.p3 (by simp;omega) (.some ?_))) (λh=> .some ?_)
    .rw[aaP (by simp[h])]
    .rw[aaO (by simpa using h),List.append_nil]
   .have:i=O.length:=by omega
    subst this;rfl
  .subst hj;have w7:=lC (λz=>decide (O[z]? =some L[k])) O.length;refine .dec (λh=> .some ?_) (λh=> .aT (Hu (l:=qg O L[k]) (by unfold qg;omega) (n:Int)) ?_)
   .have:(qg O L[k]).length=0:=by exact_mod_cast h
    unfold cY;rw[aaP this,List.append_nil]
   .have cq:¬(qg O L[k]).length=0:=λg=>h (by rw[g];rfl)
    have hr:cY O n L[k]=(mn (qg O L[k]) n).map λp=>(p,L[k]):=by unfold cY;rw[aaO cq]
    have Ib:=Bf (qg O L[k]) n;rw[hr]
    show Wp (Loop _ bd _) _
    change Wp (Loop (S:=Int×List an.den) (X:=List an.den) (λzj=>
     (if(decide (zj.1<((mn (qg O L[k]) n).length:Int)))=aaL then
     (idx (mn (qg O L[k]) n) zj.1).bind λsz=>
     (b7 zj.2 ([(sz,L[k])]:List an.den)).bind λOw=>
     some (Sum.inl (YW.wrap (zj.1+(1:Int)),Ow))
     else
     some (Sum.inr zj.2))) bd ((0:Int),acc)) _
    generalize mn (qg O L[k]) n=ps at Ib⊢
    refine Wp.count (λs=>s.1) ps.length (λi s=>s.2=acc++(ps.take i).map λp=>(p,L[k])) (by omega) rfl (by simp) λi s hi hs hJ=>?_
    obtain⟨ii,l⟩:=s;dsimp only at hs hJ⊢;subst hs hJ;refine .dec (λh=>?_) (λh=> .some ?_)
    .have nC:i<ps.length:=by omega
     refine .bind (.idx i rfl nC (.bind (.p3 (by simp;omega) (.some ⟨nC,aF (by omega),?_⟩))))
     show _=acc++(ps.take (i+1)).map _
     rw[<-Zk nC,ZU,Zp];rfl
    .have:i=ps.length:=by omega
     subst this
     show acc++_=_
     rw[Zh]
 .have:k=L.length:=by omega
  subst this;rw[Zh]at g1;exact g1
end L
namespace L
def TN(rules:List fT)(a d:Int):List Nat:=fC (kp rules (wC a d)) rules.length
def CS(rules:List fT)(a d:Int):List nq×List Int:=(TN rules a d).foldl (cK rules) ([],[])
def BB(rules:List fT)(a d:Int):List Int:=(TN rules a d).map (dB rules (CS rules a d).1)
noncomputable def OO(rules:List fT)(a d:Int):List Int:=(Y1 (2 ^ (CS rules a d).1.length)).map λc:Nat=>oc (dQ rules a d) (dY rules a d) (gf rules a d) (BB rules a d) (c:Int)
noncomputable def RR(rules:List fT)(a d:Int):List kq:=([-2,-1]++dQ rules a d).flatMap (cY (OO rules a d) (CS rules a d).1.length)
theorem Bg{rules:List fT}{a d:Int}:∀i∈TN rules a d,i<rules.length:=λi hi=>Zn.1 (Zt.1 hi).1
theorem kf(rules:List fT)(a d:Int):dQ rules a d=(TN rules a d).map λi:Nat=>(i:Int):=rfl
structure Fit(rules:List fT)(a d:Int):Prop where
 len:rules.length<=60
 g:∀r∈rules,r.2.2.2.2.2.1.length<=100000
 t8:(TN rules a d).length<=8
theorem Fit.gd{rules:List fT}{a d:Int}(h:Fit rules a d)(i:Nat):(gd rules i).length<=100000:=by
 unfold L.gd
 cases e:rules[i]? with
 |none=>simp
 |some r=>exact h.g r (List.mem_of_getElem? e)
theorem Fit.conds{rules:List fT}{a d:Int}(h:Fit rules a d)(T:List Nat):∀x∈(T.foldl (cK rules) ([],[])).1,x.length<=100000:=λx hx=>by
 rcases EE rules T _ x hx with g|⟨i,rfl⟩
 .simp at g
 .exact h.gd i
theorem Fit.Mf{rules:List fT}{a d:Int}(h:Fit rules a d)(k:Nat):(((TN rules a d).take k).foldl (cK rules) ([],[])).1.length<=8:=by
 obtain⟨_,_,hl⟩:=qe rules ((TN rules a d).take k) ([],[]);have:=h.t8;simp only[List.length_nil,Zr]at hl;omega
theorem Fit.n8{rules:List fT}{a d:Int}(h:Fit rules a d):(CS rules a d).1.length<=8:=by
 have:=h.Mf (TN rules a d).length;rw[Zh]at this;exact this
theorem Ct(rules:List fT)(T:List Nat):∀s:List nq×List Int,(T.foldl (cK rules) s).2.length<=s.2.length+T.length:=by
 induction T with
 |nil=>intro s;simp
 |cons i T ih=>
  intro s;rw[ZT];have h1:=ih (cK rules s i)
  have h2:(cK rules s i).2.length<=s.2.length+1:=by
   unfold cK;split
   .omega
   .split
    .omega
    .simp
  simp only[Ze];omega
theorem HN(x:nq)(hl:x.length<=100000):M.bf bd x=some x:=by
 unfold M.bf;rw[fK (by simp;omega)];simp only[List.nil_append,YV]
 cases x with
 |nil=>show xP _ _=_;unfold xP;rw[aaP rfl]
 |cons a x=>rfl
theorem fold_succ{rules:List fT}{T:List Nat}{k:Nat}(h:k<T.length)(s:List nq×List Int):(T.take (k+1)).foldl (cK rules) s=cK rules ((T.take k).foldl (cK rules) s) T[k]:=by
 rw[<-Zk h,List.foldl_append];rfl
theorem Cu{rules:List fT}{i:Nat}(h:i<rules.length):gd rules i=rules[i].2.2.2.2.2.1:=by unfold gd;rw[YX h]
theorem JL{rules:List fT}{a d:Int}(h:Fit rules a d):M.bH bd (dQ rules a d) (dY rules a d) (gf rules a d) (BB rules a d) ((CS rules a d).1.length:Int)=some (OO rules a d):=by
 have hl:(dQ rules a d).length=(TN rules a d).length:=by rw[kf];simp
 exact EF h.n8 (by have:=h.t8;omega) (by rw[hl];unfold dY TN;simp) (by rw[hl];unfold BB;simp)
theorem OY{rules:List fT}{a d:Int}(h:Fit rules a d):M.eB bd (OO rules a d) (dQ rules a d) ((CS rules a d).1.length:Int)=some (RR rules a d):=by
 have hl:(dQ rules a d).length=(TN rules a d).length:=by rw[kf];simp
 have h8:=lN h.n8;exact EH (by unfold OO;simp;omega) (by have:=h.t8;omega)
theorem uZ{l:Lw}{x:jH}{a1 a2 a3:Int}(hv:M.dM bd l=some ((0:Int),((0:Int),((0:Int),(0:Int)))))(h1:0<=a1)(rC:a1<(l.2.2.length:Int))(hx:idx l.2.2 a1=some x)(h2:0<=a2)(sX:a2<(x.2.2.2.1.length:Int))(h3:0<=a3)(Uy:a3<=109572)
 (hf:Fit x.2.2.2.2 a2 a3):M.bI bd l a1 a2 a3=some (a2,(0:Int),(CS x.2.2.2.2 a2 a3).1,(CS x.2.2.2.2 a2 a3).2,RR x.2.2.2.2 a2 a3):=by
 unfold M.bI;rw[hv,YV];refine Wp.eq (.ite (λh=>?_) λ_=>?_)
 .rw[kY.2 rfl]at h;cases h
 refine Wp.seq (λj=>j=aaM) (.dec (λh=>absurd h1 (by omega)) λ_=> .some (aaS (by omega))) λj hj=>?_
 subst hj
 refine .ite (λh=>(by cases h)) λ_=> .aT hx ?_
 refine Wp.seq (λj=>j=aaM) (.dec (λh=>absurd h2 (by omega)) λ_=> .some (aaS (by omega))) λj hj=>?_
 subst hj
 refine .ite (λh=>(by cases h)) λ_=>?_
 refine Wp.seq (λj=>j=aaM) (.dec (λh=>absurd h3 (by omega)) λ_=> .some (aaS (by omega))) λj hj=>?_
 subst hj
 refine .ite (λh=>(by cases h)) λ_=> .aT (uV x a2 a3 (by have:=hf.len;omega)) ?_
 have MI:=Bg (rules:=x.2.2.2.2) (a:=a2) (d:=a3);have Mg:=JL hf;have OZ:=OY hf;have MJ:CS x.2.2.2.2 a2 a3=(TN x.2.2.2.2 a2 a3).foldl (cK x.2.2.2.2) ([],[]):=rfl;have O0:BB x.2.2.2.2 a2 a3=(TN x.2.2.2.2 a2 a3).map (dB x.2.2.2.2 (CS x.2.2.2.2 a2 a3).1):=rfl;have wI:=kf x.2.2.2.2 a2 a3
 have nC:(dQ x.2.2.2.2 a2 a3).length=(TN x.2.2.2.2 a2 a3).length:=by rw[wI];simp
 have ES:=hf.Mf;have Iv:=hf.conds;have Lm:=hf.gd;have UH:=hf.t8;have OQ:=hf.len;generalize x.2.2.2.2=rules at*;dsimp only;refine .bind (lq.2 ⟨by omega,?_⟩);rw[nC]
 refine Wp.seq (λj=>j=(a2,BB rules a2 a3,(CS rules a2 a3).1,(CS rules a2 a3).2)) ?_ λj hj=>?_
 .refine Wp.count (λs=>s.1) (TN rules a2 a3).length (λk s=>s.2.1=a2/\(s.2.2.2.1,s.2.2.2.2)=((TN rules a2 a3).take k).foldl (cK rules) ([],[])/\s.2.2.1.length=(TN rules a2 a3).length/\∀i,∀h:i<s.2.2.1.length,∀h2:i<(TN rules a2 a3).length,i<k->s.2.2.1[i]=dB rules s.2.2.2.1 (TN rules a2 a3)[i]) (by omega) rfl ⟨rfl,rfl,by simp,λi _ _ hi=>absurd hi (by omega)⟩ λk s hk hs hJ=>?_
  obtain⟨kk,a',bits,C,O⟩:=s;obtain⟨g1,g2,g3,g4⟩:=hJ;dsimp only at hs g1 g2 g3 g4⊢;subst hs g1;refine .dec (λh=>?_) (λh=> .some ?_)
  .have ai:k<(TN rules a' a3).length:=by omega
   have hb:=MI _ (Y0 ai)
   have tM:idx (dQ rules a' a3) (k:Int)=some (((TN rules a' a3)[k]:Nat):Int):=by rw[wI,ao (by simpa using ai)];simp
   have O1:C.length<=8:=by have:=ES k;rw[<-g2]at this;exact this
   have O2:O.length<=8:=by have:=Ct rules ((TN rules a' a3).take k) ([],[]);rw[<-g2]at this;simp only[List.length_nil,Zr]at this;omega
   have O4:∀y∈C,y.length<=100000:=λy hy=>Iv ((TN rules a' a3).take k) y (by rw[<-g2];exact hy)
   have dy:=qf rules ((TN rules a' a3).take k) ([],[]);rw[<-g2]at dy
   have cQ:∀(s':List nq×List Int)(v:Int),s'=cK rules (C,O) (TN rules a' a3)[k]->v=dB rules s'.1 (TN rules a' a3)[k]->∀sU:List Int,sU.length=bits.length->(∀i,∀h:i<sU.length,∀h2:i<bits.length,sU[i]=if k=i then v else bits[i])->
    (a'=a'/\(s'.1,s'.2)=((TN rules a' a3).take (k+1)).foldl (cK rules) ([],[])/\sU.length=(TN rules a' a3).length/\∀i,∀h:i<sU.length,∀h2:i<(TN rules a' a3).length,i<k+1->sU[i]=dB rules s'.1 (TN rules a' a3)[i]):=λs' v zo cV sU YK XM=>by
    refine⟨rfl,by rw[fold_succ ai,<-g2,<-zo],by omega,λi h h2 hi=>?_⟩;rw[XM i h (by omega)];by_cases e:k=i
    .subst e;rw[aaP rfl];exact cV
    .rw[aaO e,g4 i (by omega) h2 (by omega),zo]
     have:=Bd rules (C,O) [(TN rules a' a3)[k]] (TN rules a' a3)[i] λcq=>dy _ (List.mem_take_iff_getElem.2 ⟨i,by omega,rfl⟩) cq
     exact this.symm
   have Kx:∀v:Int,(bz bits (k:Int) v).length=bits.length/\∀i,∀h:i<(bz bits (k:Int) v).length,∀h2:i<bits.length,(bz bits (k:Int) v)[i]=if k=i then v else bits[i]:=λv=>⟨cm _ _ _,λi h h2=>by simp only[bz,Y4,List.getElem_set]⟩
   have Ky:∀v w:Int,(bz (bz bits (k:Int) w) (k:Int) v).length=bits.length/\∀i,∀h:i<(bz (bz bits (k:Int) w) (k:Int) v).length,∀h2:i<bits.length,(bz (bz bits (k:Int) w) (k:Int) v)[i]=if k=i then v else bits[i]:=λv w=>⟨by rw[cm,cm],λi h h2=>by
    simp only[bz,Y4,List.getElem_set];by_cases e:k=i
    .rw[aaP e,aaP e]
    .rw[aaO e,aaO e,aaO e]⟩
   refine Wp.seq (λj=>j.1=a'/\(j.2.2.1,j.2.2.2)=((TN rules a' a3).take (k+1)).foldl (cK rules) ([],[])/\j.2.1.length=(TN rules a' a3).length/\∀i,∀h:i<j.2.1.length,∀h2:i<(TN rules a' a3).length,i<k+1->j.2.1[i]=dB rules j.2.2.1 (TN rules a' a3)[i]) (.aT tM (.bind (.idx k rfl (by omega) (.aT (ao hb) ?_)))) λj hj=> .some ⟨ai,aF (by omega),hj⟩
   have GF:=Cu hb;rw[<-GF];have UI:=Lm (TN rules a' a3)[k];refine .dec (λh=> .some ?_) (λh=> .aT (ED C _ (by omega) O4) ?_)
   .have h0:(gd rules (TN rules a' a3)[k]).length=0:=by exact_mod_cast h
    exact cQ (C,O) (-1) (by unfold cK;rw[aaP h0]) (by unfold dB;rw[aaP h0]) _ (Kx (-1)).1 (Kx (-1)).2
   .have h0:¬(gd rules (TN rules a' a3)[k]).length=0:=λg=>h (by rw[g];rfl)
    refine Wp.seq (λj=>j.2.1=a'/\(j.2.2.1,j.2.2.2)=cK rules (C,O) (TN rules a' a3)[k]/\j.1=dB rules j.2.2.1 (TN rules a' a3)[k]) (.dec (λhn=> .aT (HN _ UI) (.bind (.p3 (by simp;omega) (.bind (.p3 (by simp;omega) (.some ⟨rfl,?_,?_⟩)))))) (λhn=> .some ⟨rfl,?_,?_⟩)) λj hj=> .bind (.idx k rfl (by rw[cm];omega) (.some ?_))
    .unfold cK;exact((aaO h0).trans (aaO (show¬0<=dF (gd rules (TN rules a' a3)[k]) C by omega))).symm
    .show(C.length:Int)=dB rules (C++[gd rules (TN rules a' a3)[k]]) (TN rules a' a3)[k]
     unfold dB;rw[aaO h0,sT (by omega)]
    .unfold cK;exact((aaO h0).trans (aaP (show 0<=dF (gd rules (TN rules a' a3)[k]) C by omega))).symm
    .unfold dB;rw[aaO h0]
    .obtain⟨j1,j2,j3⟩:=hj;have:=cQ (j.2.2.1,j.2.2.2) j.1 j2 j3 _ (Ky j.1 (-1)).1 (Ky j.1 (-1)).2;exact⟨j1,this.2⟩
  .have:k=(TN rules a' a3).length:=by omega
   subst this;rw[Zh]at g2
   have e1:C=(CS rules a' a3).1:=by rw[MJ,<-g2]
   have e2:O=(CS rules a' a3).2:=by rw[MJ,<-g2]
   show(a',bits,C,O)=_
   rw[e2]
   congr 2
   .rw[O0,<-e1]
    refine List.ext_getElem (by rw[g3,Z5]) λi h1 h2=>?_
    have sX:i<(TN rules a' a3).length:=by simpa using h2
    rw[g4 i h1 sX sX,List.getElem_map]
   .rw[e1]
 .subst hj;exact .aT Mg (.aT OZ (.some rfl))
end L
namespace L
theorem yW{α:Type}(P:Nat->Bool)(f:Int->List α):∀m,(ids P m).flatMap f=(Y1 m).flatMap λi:Nat=>if P i=aaL then f (i:Int)else[]
 |0=>rfl
 |m+1=>by
  rw[jI,ng,List.flatMap_append,yW P f m]
  congr 1
  split<;>simp
theorem Bh{α β:Type}{l:List α}{f g:α->List β}(h:∀x∈l,f x=g x):l.flatMap f=l.flatMap g:=by
 induction l with
 |nil=>rfl
 |cons a l ih=>rw[List.flatMap_cons,List.flatMap_cons,h a Zz,ih λx hx=>h x (Zm _ hx)]
theorem yX{O:List Int}{n:Nat}{v:Int}(h:v∉O):cY O n v=[]:=by
 unfold cY;rw[aaP];unfold qg;refine List.length_eq_zero_iff.2 (List.eq_nil_iff_forall_not_mem.2 λj hj=>?_);obtain⟨i,hi,hp,_⟩:=nh.1 hj;exact h (List.mem_of_getElem? (aaQ hp))
theorem HO{rules:List fT}{a d:Int}(h:Fit rules a d){v:Int}(hv:v∈OO rules a d):v= -1\/v= -2\/v∈dQ rules a d:=by
 obtain⟨c,_,rfl⟩:=List.mem_map.1 hv
 have hl:(dQ rules a d).length=(TN rules a d).length:=by rw[kf];simp
 have hp:(dY rules a d).length=(dQ rules a d).length:=by rw[hl];unfold dY TN;simp
 obtain⟨_,hr⟩:=o7 (dY rules a d) (gf rules a d) ((BB rules a d).map (flag (c:Int))) (by have:=h.t8;omega);unfold oc;generalize tJ (dY rules a d) (gf rules a d) ((BB rules a d).map (flag (c:Int)))=s at hr;unfold Pl at hr
 rcases hr with rfl|rfl|⟨h0,h1⟩
 .exact .inl rfl
 .exact .inr (.inl rfl)
 .refine .inr (.inr ?_);obtain⟨x,hx,hm⟩:=sN (l:=dQ rules a d) h0 (by omega);rw[rp h0 (by omega)]at hx;rw[YU hx];exact hm
theorem HP{rules:List fT}{a d:Int}(h:Fit rules a d):(Y1 (rules.length+2)).flatMap (λk:Nat=>cY (OO rules a d) (CS rules a d).1.length ((k:Int)-2))=RR rules a d:=by
 unfold RR;generalize hn:(CS rules a d).1.length=n;rw[Nat.add_comm,List.range_add,List.flatMap_append,List.flatMap_append]
 congr 1
 rw[List.flatMap_map];unfold dQ;rw[yW]
 refine Bh λi hi=>?_
 have e:((2+i:Nat):Int)-2=(i:Int):=by omega
 rw[e];split
 .rfl
 .rename_i g
  refine yX λhm=>?_
  rcases HO h hm with h1|h1|h1
  .omega
  .omega
  .obtain⟨j,hj,hp,e⟩:=nh.1 h1
   obtain rfl:i=j:=by omega
   exact g hp
theorem HQ{l:Lw}{x:jH}{a1 a2 a3:Int}(hx:idx l.2.2 a1=some x)(hf:Fit x.2.2.2.2 a2 a3):M.iy bd l a1 a2 a3=some (a2,(CS x.2.2.2.2 a2 a3).1,(CS x.2.2.2.2 a2 a3).2,RR x.2.2.2.2 a2 a3):=by
 unfold M.iy;rw[hx,YV,HG x a2 a3 (by have:=hf.len;omega),YV];have MI:=Bg (rules:=x.2.2.2.2) (a:=a2) (d:=a3);have MJ:CS x.2.2.2.2 a2 a3=(TN x.2.2.2.2 a2 a3).foldl (cK x.2.2.2.2) ([],[]):=rfl;have O0:BB x.2.2.2.2 a2 a3=(TN x.2.2.2.2 a2 a3).map (dB x.2.2.2.2 (CS x.2.2.2.2 a2 a3).1):=rfl
 have UJ:OO x.2.2.2.2 a2 a3=(Y1 (2 ^ (CS x.2.2.2.2 a2 a3).1.length)).map λc:Nat=>oc (dQ x.2.2.2.2 a2 a3) (dY x.2.2.2.2 a2 a3) (gf x.2.2.2.2 a2 a3) (BB x.2.2.2.2 a2 a3) (c:Int):=rfl
 have wI:=kf x.2.2.2.2 a2 a3
 have nC:(dQ x.2.2.2.2 a2 a3).length=(TN x.2.2.2.2 a2 a3).length:=by rw[wI];simp
 have w7:(dY x.2.2.2.2 a2 a3).length=(TN x.2.2.2.2 a2 a3).length:=by unfold dY TN;simp
 have ES:=hf.Mf;have PQ:=hf.n8;have Iv:=hf.conds;have Lm:=hf.gd;have UH:=hf.t8;have OQ:=hf.len;have XN:=HP hf;generalize x.2.2.2.2=rules at*;dsimp only;refine Wp.eq (Wp.seq (λj=>j=(a2,(CS rules a2 a3).1,(CS rules a2 a3).2)) ?_ λj hj=>?_)
 .rw[nC]
  refine Wp.count (λs=>s.1) (TN rules a2 a3).length (λk s=>s.2.1=a2/\(s.2.2.1,s.2.2.2)=((TN rules a2 a3).take k).foldl (cK rules) ([],[])) (by omega) rfl ⟨rfl,rfl⟩ λk s hk hs hJ=>?_
  obtain⟨kk,a',C,O⟩:=s;obtain⟨g1,g2⟩:=hJ;dsimp only at hs g1 g2⊢;subst hs g1;refine .dec (λh=>?_) (λh=> .some ?_)
  .have ai:k<(TN rules a' a3).length:=by omega
   have hb:=MI _ (Y0 ai)
   have tM:idx (dQ rules a' a3) (k:Int)=some (((TN rules a' a3)[k]:Nat):Int):=by rw[wI,ao (by simpa using ai)];simp
   have O1:C.length<=8:=by have:=ES k;rw[<-g2]at this;exact this
   have O2:O.length<=8:=by have:=Ct rules ((TN rules a' a3).take k) ([],[]);rw[<-g2]at this;simp only[List.length_nil,Zr]at this;omega
   have O4:∀y∈C,y.length<=100000:=λy hy=>Iv ((TN rules a' a3).take k) y (by rw[<-g2];exact hy)
   refine Wp.seq (λj=>j.1=a'/\(j.2.1,j.2.2)=((TN rules a' a3).take (k+1)).foldl (cK rules) ([],[])) (.aT tM (.aT (ao hb) ?_)) λj hj=> .some ⟨ai,aF (by omega),hj⟩
   have GF:=Cu hb;rw[<-GF,fold_succ ai,<-g2];have UI:=Lm (TN rules a' a3)[k]
   refine Wp.seq (λj=>j=aaL↔(gd rules (TN rules a' a3)[k]).length≠0/\¬0<=dF (gd rules (TN rules a' a3)[k]) C) (.dec (λh=> .aT (yV C _ (by omega) O4) (.some ?_)) (λh=> .some ⟨λh=>(by cases h),λg=>absurd g.1 (by omega)⟩)) λj hj=> .ite (λh=>?_) (λh=> .some ⟨rfl,?_⟩)
   .rw[aaW];exact⟨λg=>⟨by omega,by omega⟩,λg=>by omega⟩
   .obtain⟨h0,h1⟩:=hj.1 h;refine .bind (.p3 (by simp;omega) (.bind (.p3 (by simp;omega) (.aT tM (.bind (.p3 (by simp;omega) (.some ⟨rfl,?_⟩)))))));unfold cK;rw[List.nil_append];exact((aaO h0).trans (aaO h1)).symm
   .unfold cK;by_cases h0:(gd rules (TN rules a' a3)[k]).length=0
    .exact(aaP h0).symm
    .refine((aaO h0).trans (aaP ?_)).symm
     exact Classical.byContradiction λg=>h (hj.2 ⟨h0,g⟩)
  .have:k=(TN rules a' a3).length:=by omega
   subst this;rw[Zh]at g2
   show(a',C,O)=_
   rw[MJ,<-g2]
 subst hj;dsimp only;have O5:=Iv (TN rules a2 a3);rw[<-MJ]at O5;have h8:=lN PQ
 refine Wp.seq (λj=>j=OO rules a2 a3) ?_ λj hj=>?_
 .rw[UJ];generalize hn:(CS rules a2 a3).1.length=n at*
  refine Wp.count (λs=>s.1) (2 ^ n) (λk s=>s.2=(Y1 k).map λc:Nat=>oc (dQ rules a2 a3) (dY rules a2 a3) (gf rules a2 a3) (BB rules a2 a3) (c:Int)) (by omega) rfl rfl λk s hk hs hJ=>?_
  obtain⟨kk,O⟩:=s;dsimp only at hs hJ⊢;subst hs hJ;refine .aT (jk (by omega)) (.dec (λh=>?_) (λh=> .some ?_))
  .have ai:k<2 ^ n:=by exact_mod_cast h
   refine Wp.seq (λj=>j=(Y1 (k+1)).map λc:Nat=>oc (dQ rules a2 a3) (dY rules a2 a3) (gf rules a2 a3) (BB rules a2 a3) (c:Int)) ?_ λj hj=> .some ⟨ai,aF (by omega),hj⟩
   rw[nC]
   refine Wp.seq (λj=>j=(BB rules a2 a3).map (flag (k:Int))) ?_ λj hj=>?_
   .rw[O0]
    refine Wp.count (λs=>s.1) (TN rules a2 a3).length (λi s=>s.2=(((TN rules a2 a3).take i).map (dB rules (CS rules a2 a3).1)).map (flag (k:Int))) (by omega) rfl rfl λi s hi hs hJ=>?_
    obtain⟨ii,F⟩:=s;dsimp only at hs hJ⊢;subst hs hJ;refine .dec (λh=>?_) (λh=> .some ?_)
    .have ye:i<(TN rules a2 a3).length:=by omega
     have hb:=MI _ (Y0 ye)
     have tM:idx (dQ rules a2 a3) (i:Int)=some (((TN rules a2 a3)[i]:Nat):Int):=by rw[wI,ao (by simpa using ye)];simp
     refine Wp.seq (λs=>s=(((TN rules a2 a3).take (i+1)).map (dB rules (CS rules a2 a3).1)).map (flag (k:Int))) (.aT tM (.aT (ao hb) ?_)) λj hj=> .some ⟨ye,aF (by omega),hj⟩
     rw[<-Cu hb]
     have Cv:∀v:Bool,v=flag (k:Int) (dB rules (CS rules a2 a3).1 (TN rules a2 a3)[i])->(((TN rules a2 a3).take i).map (dB rules (CS rules a2 a3).1)).map (flag (k:Int))++[v]=(((TN rules a2 a3).take (i+1)).map (dB rules (CS rules a2 a3).1)).map (flag (k:Int)):=λv hv=>by
      rw[<-Zk ye,ZU,ZU,hv];rfl
     refine .dec (λh=> .bind (.p3 (by simp;omega) (.some (Cv _ ?_)))) (λh=> .aT (yV _ _ (by omega) O5) ?_)
     .have h0:(gd rules (TN rules a2 a3)[i]).length=0:=by exact_mod_cast h
      unfold dB flag;rw[aaP h0,aaP (by omega)]
     .have h0:¬(gd rules (TN rules a2 a3)[i]).length=0:=λg=>h (by rw[g];rfl)
      have hc:0<=dF (gd rules (TN rules a2 a3)[i]) (CS rules a2 a3).1:=by
       rw[MJ];exact qf rules _ _ _ (Y0 ye) h0
      refine .aT (Be hc) (.bind (.p3 (by simp;omega) (.some (Cv _ ?_))));unfold dB flag;rw[aaO h0,aaO (by omega)];rfl
    .have:i=(TN rules a2 a3).length:=by omega
     subst this
     show _=_
     rw[Zh]
   .subst hj;obtain⟨hs,hr⟩:=o7 (dY rules a2 a3) (gf rules a2 a3) ((BB rules a2 a3).map (flag (k:Int))) (by omega);rw[S.Me]at hs;refine .aT hs ?_;have EG:oc (dQ rules a2 a3) (dY rules a2 a3) (gf rules a2 a3) (BB rules a2 a3) (k:Int)=HM (dQ rules a2 a3) (tJ (dY rules a2 a3) (gf rules a2 a3) ((BB rules a2 a3).map (flag (k:Int)))):=rfl;rw[List.range_succ,ZU];generalize tJ (dY rules a2 a3) (gf rules a2 a3) ((BB rules a2 a3).map (flag (k:Int)))=v at hr EG⊢;unfold Pl at hr
    refine Wp.seq (λj=>j=HM (dQ rules a2 a3) v) (.dec (λh=> .aT (rp h (by omega)) (.some rfl)) (λh=> .some ?_)) λj hj=> .bind (.p3 (by simp;omega) (.some ?_))
    .unfold HM;rw[aaO h]
    .rw[hj,List.map_singleton,EG]
  .have:k=2 ^ n:=by have:¬k<2 ^ n:=λg=>h (by exact_mod_cast g);omega
   subst this;rfl
 subst hj;rw[<-XN]
 have XO:(OO rules a2 a3).length<=256:=by rw[UJ];simp;omega
 generalize hn:(CS rules a2 a3).1.length=n at*
 refine Wp.seq (λj=>j=(a2,(CS rules a2 a3).1,(CS rules a2 a3).2,(Y1 (rules.length+2)).flatMap λk:Nat=>cY (OO rules a2 a3) n ((k:Int)-2))) ?_ λj hj=> .some (by rw[hj])
 generalize OO rules a2 a3=O at XO⊢;generalize(CS rules a2 a3).1=C at*;generalize(CS rules a2 a3).2=W at*
 refine Wp.count (λs=>s.1+2) (rules.length+2) (λk s=>s.2.1=a2/\s.2.2.1=C/\s.2.2.2.1=W/\s.2.2.2.2=((Y1 k).flatMap λk:Nat=>cY O n ((k:Int)-2))/\s.2.2.2.2.length<=k*65536) (by omega) rfl ⟨rfl,rfl,rfl,rfl,YY _⟩ λk s hk hs hJ=>?_
 obtain⟨v,a',C',W',acc⟩:=s;obtain⟨g1,g2,g3,g4,g5⟩:=hJ;dsimp only at hs g1 g2 g3 g4 g5⊢
 obtain rfl:v=(k:Int)-2:=by omega
 subst g1 g2 g3;refine .dec (λh=>?_) (λh=> .some ?_)
 .have ai:k<rules.length+2:=by omega
  have Hv:=om O n ((k:Int)-2)
  have hw:YW.wrap ((k:Int)-2+1)+2=((k+1:Nat):Int):=by rw[ed (by omega) (by omega)];omega
  refine Wp.seq (λs=>s=(a',C',W',acc++cY O n ((k:Int)-2))) ?_ λj hj=> .some ⟨ai,hw,by rw[hj],by rw[hj],by rw[hj],by rw[hj,ng,<-g4],by rw[hj];show(acc++_).length<=_;rw[Zf];omega⟩
  refine Wp.seq (λs=>s=(a',C',W',acc++cY O n ((k:Int)-2))) ?_ λj hj=> .some (by rw[hj])
  refine Wp.seq (λj=>j=qg O ((k:Int)-2)) ?_ λj hj=>?_
  .refine Wp.count (λs=>s.1) O.length (λi s=>s.2=ids (λz=>decide (O[z]? =some ((k:Int)-2))) i) (by omega) rfl rfl λi s hi hs hJ=>?_
   obtain⟨ii,l⟩:=s;dsimp only at hs hJ⊢;subst hs hJ;refine .dec (λh=>?_) (λh=> .some ?_)
   .have nC:i<O.length:=by omega
    have hl:=lC (λz=>decide (O[z]? =some ((k:Int)-2))) i
    refine Wp.seq (λs=>s=ids (λz=>decide (O[z]? =some ((k:Int)-2))) (i+1)) (.bind (.idx i rfl nC ?_)) λj hj=> .some ⟨nC,aF (by omega),hj⟩
    rw[jI,YX nC];refine .dec (λh=> .bind (.p3 (by simp;omega) (.some ?_))) (λh=> .some ?_)
    .rw[aaP (by simp[h])]
    .rw[aaO (by simpa using h),List.append_nil]
   .have:i=O.length:=by omega
    subst this;rfl
  .subst hj;have w7:=lC (λz=>decide (O[z]? =some ((k:Int)-2))) O.length;refine .dec (λh=> .some ?_) (λh=> .aT (JF (l:=qg O ((k:Int)-2)) (by unfold qg;omega) (n:Int)) ?_)
   .have:(qg O ((k:Int)-2)).length=0:=by exact_mod_cast h
    unfold cY;rw[aaP this,List.append_nil]
   .have cq:¬(qg O ((k:Int)-2)).length=0:=λg=>h (by rw[g];rfl)
    have hr:cY O n ((k:Int)-2)=(mn (qg O ((k:Int)-2)) n).map λp=>(p,(k:Int)-2):=by unfold cY;rw[aaO cq]
    have Ib:=Bf (qg O ((k:Int)-2)) n;rw[hr];have Uq:yK (yH (n:Int)) (λx=>(x:Int)∈qg O ((k:Int)-2)) (cS (qg O ((k:Int)-2)))=mn (qg O ((k:Int)-2)) n:=rfl;rw[Uq];generalize mn (qg O ((k:Int)-2)) n=ps at Ib⊢
    refine Wp.count (λs=>s.1) ps.length (λi s=>s.2=(a',C',W',acc++(ps.take i).map λp=>(p,(k:Int)-2))) (by omega) rfl (by simp) λi s hi hs hJ=>?_
    obtain⟨ii,NM,YL,YM,l⟩:=s;cases hJ;dsimp only at hs⊢;subst hs;refine .dec (λh=>?_) (λh=> .some ?_)
    .have nC:i<ps.length:=by omega
     refine .bind (.idx i rfl nC (.bind (.p3 (by simp;omega) (.some ⟨nC,aF (by omega),?_⟩))))
     show(_,_,_,_)=(_,_,_,acc++(ps.take (i+1)).map _)
     rw[<-Zk nC,ZU,Zp];rfl
    .have:i=ps.length:=by omega
     subst this
     show(_,_,_,acc++_)=_
     rw[Zh]
 .have:k=rules.length+2:=by omega
  subst this
  show(a',C',W',acc)=_
  rw[g4]
end L
namespace L
theorem JM{l:Lw}{x:jH}{k:Nat}{r:fT}:tC l x k r=0↔iQ r.1=aaL/\¬eR (x.2.2.2.2.take k) r.1/\(0<=(r.2.1:Int)/\(r.2.1:Int)<(x.2.2.2.1.length:Int))/\¬n5 x k r/\
 ¬((r.2.2.2.1:Int)<0\/9<(r.2.2.2.1:Int)\/¬VR r.2.2.2.2.1\/(r.2.2.2.2.1.1:Int)=r.2.2.2.2.1.2)/\AS x k r.2.1<8/\plain r.2.2.2.2.2.2.2/\
 (0<r.2.2.2.2.2.1.length->tB r.2.2.2.2.2.1 (fL l x) ((1:Int),(0:Int))=0)/\(match x.2.2.2.1[(r.2.1:Int).toNat]? with
   |some d=>tB r.2.2.2.2.2.2.1 (fL l x) d.2
   |none=>0)=0:=by
 unfold tC;by_cases h1:iQ r.1=aaM
 .rw[aaP h1]
  exact aaX (by decide) λg=>by rw[h1]at g;cases g.1
 rw[aaO h1];by_cases h2:eR (x.2.2.2.2.take k) r.1
 .rw[aaP h2]
  exact aaX (by decide) λg=>g.2.1 h2
 rw[aaO h2];by_cases h3:0<=(r.2.1:Int)/\(r.2.1:Int)<(x.2.2.2.1.length:Int)
 case neg=>
  rw[aaP h3]
  exact aaX (by decide) λg=>h3 g.2.2.1
 rw[aaO (λg=>g h3)];by_cases h4:n5 x k r
 .rw[aaP h4]
  exact aaX (by decide) λg=>g.2.2.2.1 h4
 rw[aaO h4];by_cases h5:(r.2.2.2.1:Int)<0\/9<(r.2.2.2.1:Int)\/¬VR r.2.2.2.2.1\/(r.2.2.2.2.1.1:Int)=r.2.2.2.2.1.2
 .rw[aaP h5]
  exact aaX (by decide) λg=>g.2.2.2.2.1 h5
 rw[aaO h5];by_cases h6:8<=AS x k r.2.1
 .rw[aaP h6]
  exact aaX (by decide) λg=>by have:=g.2.2.2.2.2.1;omega
 rw[aaO h6];by_cases h7:plain r.2.2.2.2.2.2.2
 case neg=>
  rw[aaP h7]
  exact aaX (by decide) λg=>h7 g.2.2.2.2.2.2.1
 rw[aaO (λg=>g h7)];by_cases h8:0<r.2.2.2.2.2.1.length/\tB r.2.2.2.2.2.1 (fL l x) ((1:Int),(0:Int))≠0
 .rw[aaP h8]
  exact aaX h8.2 λg=>h8.2 (g.2.2.2.2.2.2.2.1 h8.1)
 rw[aaO h8];exact⟨λg=>⟨by simpa using h1,h2,h3,h4,h5,by omega,h7,λa=>aai.1 λb=>h8 ⟨a,b⟩,g⟩,λg=>g.2.2.2.2.2.2.2.2⟩
theorem Valid.Ee{l:Lw}(h:Valid l):yw l=Ee:=by
 obtain⟨a1,a2,a3,a4,a5,a6⟩:=h.scopes;unfold yw;rw[aaO (by omega),bm.2 λk hk=>by rw[a4 k hk];rfl];dsimp only;rw[aaO (by omega),bm.2 λk hk=>by rw[a5 k hk];rfl];dsimp only;rw[aaO (by omega),bm.2 λk hk=>by rw[a6 k hk];rfl]
theorem count_le{l:Lw}{x:jH}(h:∀i,∀hi:i<x.2.2.2.2.length,tC l x i x.2.2.2.2[i]=0)(a:Int):∀m,m<=x.2.2.2.2.length->(x.2.2.2.2.take m).countP (λr=>decide ((r.2.1:Int)=a))<=8
 |0,_=>by simp
 |m+1,hm=>by
  have ih:=count_le h a m (by omega)
  have ai:m<x.2.2.2.2.length:=by omega
  rw[<-Zk ai,List.countP_append,List.countP_singleton];split
  .rename_i g;have g:(x.2.2.2.2[m].2.1:Int)=a:=aaQ g;have:=(JM.1 (h m ai)).2.2.2.2.2.1;unfold AS at this;rw[g]at this;omega
  .omega
theorem sV{rules:List fT}(a d:Int):∀m,m<=rules.length->(fC (kp rules (wC a d)) m).length<=(rules.take m).countP λr=>decide ((r.2.1:Int)=a)
 |0,_=>by simp[fC]
 |m+1,hm=>by
  have ih:=sV (rules:=rules) a d m (by omega)
  have ai:m<rules.length:=by omega
  rw[uU,<-Zk ai,List.countP_append,List.countP_singleton,Zf,HC ai];by_cases g:wC a d rules[m]=aaL
  .have g2:(rules[m].2.1:Int)=a:=(aaQ g).1;rw[aaP g,aaP (aaR g2)];simp;omega
  .rw[aaO g];simp;omega
theorem Fit.of{l:Lw}(hv:Valid l)(hs:ko l){k:Nat}(hk:k<l.2.2.length)(a d:Int):Fit l.2.2[k].2.2.2.2 a d:=by
 have wK:=hs.2.2.2.2.2 _ (Y0 hk);have hr:=(hv.scope k hk).2.2.2.2.2.2.1;refine⟨wK.2.2.2.1,λr Bp=>by have:=(wK.2.2.2.2.2.2 r Bp).2.2.1;omega,?_⟩;have h1:=sV (rules:=l.2.2[k].2.2.2.2) a d _ (YY _);have h2:=count_le hr a _ (YY _);exact Zj h1 h2
abbrev two:List aW.den:=[((⟨#[115]⟩:ByteArray),((-1:Int),(([((⟨#[120]⟩:ByteArray),((1:Int),(0:Int)))]:List bi.den),(([((⟨#[100]⟩:ByteArray),((2:Int),(0:Int)))]:List bi.den),([((⟨#[97]⟩:ByteArray),((0:Int),((-1:Int),((0:Int),(((0:Int),(109573:Int)),(([]:List aa.den),(([((2:Int),(1:Int))]:List aa.den),aaB))))))),((⟨#[98]⟩:ByteArray),((0:Int),((0:Int),((0:Int),(((0:Int),(109573:Int)),(([((7:Int),(0:Int))]:List aa.den),(([((2:Int),(2:Int))]:List aa.den),aaB)))))))]:List cB.den)))))]
abbrev Mh:Lw:=(([]:List cD.den),(([]:List cu.den),two))
theorem Ti:M.bI bd Mh 0 0 100=some ((0:Int),(0:Int),([[((7:Int),(0:Int))]]:List (List aa.den)),([(1:Int)]:List Int),([(((1:Int),(0:Int)),(0:Int)),(((1:Int),(1:Int)),(1:Int))]:List an.den)):=by
 have hv:M.dM bd Mh=some ((0:Int),((0:Int),((0:Int),(0:Int)))):=by kernel_rfl
 have hx:idx Mh.2.2 0=some Mh.2.2[0]:=rfl
 have hf:Fit Mh.2.2[0].2.2.2.2 0 100:=by
  refine⟨by decide,λr hr=>?_,?_⟩
  .rcases Y6.1 hr with rfl|hr
   .decide
   .rcases Y6.1 hr with rfl|hr
    .decide
    .cases hr
  .unfold TN fC;exact Zj (aaa ..) (by rw[List.length_range];decide)
 have h1:=uZ hv (by decide) (by decide) hx (by decide) (by decide) (by decide) (by decide) hf;have h2:=HQ (l:=Mh) (a1:=0) hx hf
 have h3:M.iy bd Mh 0 0 100=some ((0:Int),([[((7:Int),(0:Int))]]:List (List aa.den)),([(1:Int)]:List Int),([(((1:Int),(0:Int)),(0:Int)),(((1:Int),(1:Int)),(1:Int))]:List an.den)):=by kernel_rfl
 rw[h3]at h2;have h4:=YU h2
 obtain⟨-,h5,h6,h7⟩:=by simpa only[ZV]using h4
 rw[h1,<-h5,<-h6,<-h7]
theorem wJ:M.gE bd=some aaL:=by
 unfold M.gE;rw[show M.pX bd=some two from rfl,YV,Ti,YV]
 kernel_rfl
end L
namespace L
abbrev BT:Type:=Int×Int×(List nq)×(List Int)×List kq
structure Mod(r:BT):Prop where
 c:r.2.2.1.length<=100000
 g:∀x∈r.2.2.1,x.length<=100000
 o:r.2.2.2.1.length<=100000
 r:r.2.2.2.2.length<=100000000
theorem Mi{rules:List fT}{a d:Int}(h:Fit rules a d):(RR rules a d).length<=100000000:=by
 have hl:(dQ rules a d).length=(TN rules a d).length:=by rw[kf];simp
 have ht:=h.t8
 have key:∀L:List Int,(L.flatMap (cY (OO rules a d) (CS rules a d).1.length)).length<=L.length*65536:=λL=>by
  induction L with
  |nil=>simp
  |cons v L ih=>
   have:=om (OO rules a d) (CS rules a d).1.length v;rw[List.flatMap_cons,Zf,Ze,ZH];omega
 have:=key ([-2,-1]++dQ rules a d);unfold RR
 have h2:([(-2:Int),-1]++dQ rules a d).length<=10:=by simp;omega
 exact Zj this (Zj (Zg _ h2) (by omega))
end L
namespace L
theorem Mj{m j:Nat}(h:m.testBit j=aaL):dX m (2 ^ j)<m:=Nat.lt_of_le_of_ne (A6 _ _) (Cn h)
theorem EI{x m b j:Nat}(h:x&&& m=b):x&&& dX m (2 ^ j)=dX b (2 ^ j):=by
 rw[dU];intro i;rw[bA,bA,<-dU.1 h i,Bool.and_assoc]
theorem yY{n:Nat}{S:Nat->Prop}{x:Nat}:∀k m b,m=k->mD n S m b->x&&& m=b->∃m' b',zp n S m' b'/\x&&& m'=b':=by
 intro k
 induction k using Nat.strongRecOn with
 |_ k ih=>
  intro m b hk h hx;by_cases hp:∃j,j<n/\m.testBit j=aaL/\mD n S (dX m (2 ^ j)) (dX b (2 ^ j))
  .obtain⟨j,_,hj,hi⟩:=hp;exact ih _ (by have:=Mj hj;omega) _ _ rfl hi (EI hx)
  .exact⟨m,b,⟨h,λj hj hm hi=>hp ⟨j,hj,hm,hi⟩⟩,hx⟩
theorem oo{k:Nat}{mem:Nat->Bool}:∀{l:List (Nat×Nat)}{cov:Nat->Bool}{q:Int×Int},q∈dA k mem cov l->∃p∈l,q=pI p.1 p.2
 |[],_,_,h=>by simp[dA]at h
 |p::l,cov,q,h=>by
  rw[gG]at h;split at h
  .rcases Y6.1 h with rfl|h
   .exact⟨p,Zz,rfl⟩
   .obtain⟨p',hp,e⟩:=oo h;exact⟨p',Zm _ hp,e⟩
  .obtain⟨p',hp,e⟩:=oo h;exact⟨p',Zm _ hp,e⟩
theorem lD{k:Nat}{mem:Nat->Bool}{x:Nat}(hx:x<k)(hm:mem x=aaL):∀{l:List (Nat×Nat)}{cov:Nat->Bool},cov x=aaM->(∃p∈l,x&&& p.1=p.2)->∃m b,pI m b∈dA k mem cov l/\x&&& m=b
 |[],_,_,h=>by obtain⟨p,hp,_⟩:=h;simp at hp
 |p::l,cov,hc,h=>by
  rw[gG];by_cases hf:dn k mem cov p.1 p.2=aaL
  .rw[aaP hf];by_cases zh:x&&& p.1=p.2
   .exact⟨p.1,p.2,Zz,zh⟩
   .obtain⟨m,b,h1,h2⟩:=lD hx hm (l:=l) (cov:=λx=>cov x||decide (x&&& p.1=p.2)) (by simp[hc,zh]) (by
     obtain⟨q,hq,h3⟩:=h
     rcases Y6.1 hq with rfl|hq
     .exact absurd h3 zh
     .exact⟨q,hq,h3⟩)
    exact⟨m,b,Zm _ h1,h2⟩
  .rw[aaO hf];refine lD hx hm hc ?_;obtain⟨q,hq,h3⟩:=h
   rcases Y6.1 hq with rfl|hq
   .refine absurd ?_ hf;unfold dn;exact List.any_eq_true.2 ⟨x,Zn.2 hx,by rw[aaR h3,hm,hc];rfl⟩
   .exact⟨q,hq,h3⟩
theorem Bi{n:Nat}(h:n<=8):yH (n:Int)=n:=by unfold yH;rw[Y4];omega
theorem Bj{l:List Int}{n:Nat}(hn:n<=8){q:Int×Int}(hq:q∈mn l n):∃m b:Nat,q=pI m b/\mD n (λx=>(x:Int)∈l) m b:=by
 unfold mn yK at hq;rw[Bi hn]at hq;obtain⟨p,hp,e⟩:=oo hq;exact⟨p.1,p.2,e,(kV.1 (Zt.1 hp).2).1⟩
theorem HR{l:List Int}{n:Nat}(hn:n<=8){x:Nat}(hx:x<2 ^ n)(hm:(x:Int)∈l):∃m b:Nat,pI m b∈mn l n/\x&&& m=b:=by
 unfold mn yK;rw[Bi hn]
 obtain⟨m,b,hp,XP⟩:=yY (x:=x) _ _ _ rfl (mD.full (n:=n) (S:=λx=>(x:Int)∈l) hx hm) (by
  have:x&&&(2 ^ n-1)=x:=by rw[ee];intro i hi;exact sL (rn hx hi)
  exact this)
 exact lD hx (by unfold cS;exact aaR hm) rfl ⟨(m,b),Zt.2 ⟨(lA hn).2 ⟨hp.1.1,hp.1.2.1⟩,kV.2 hp⟩,XP⟩
end L
namespace L
theorem HS{m b c:Nat}{v:Int}(hm:m<256)(hc:c<256):yN (c:Int) (pI m b,v)=decide (c&&& m=b):=by
 unfold yN
 show decide (ak .and .i64 (c:Int) (m:Int)=(b:Int))=_
 rw[A5 (by omega) (by omega)];exact decide_eq_decide.2 (by omega)
theorem Cw{O:List Int}{v:Int}{c:Nat}:(c:Int)∈qg O v↔O[c]? =some v:=by
 unfold qg;rw[nh];constructor
 .rintro⟨i,_,h2,h3⟩
  obtain rfl:c=i:=by omega
  exact aaQ h2
 .intro h;exact⟨c,(Zd.1 h).1,aaR h,rfl⟩
theorem Cx{x v:Int}:∀{l:List kq},(∃r∈l,yN x r=aaL)->(∀r∈l,yN x r=aaL->r.2=v)->jl x l=(v,aaL)
 |[],h,_=>by obtain⟨r,hr,_⟩:=h;simp at hr
 |r::l,h,g=>by
  rw[qc];by_cases hr:yN x r=aaL
  .rw[aaP hr,g r Zz hr]
  .rw[aaO hr]
   refine Cx ?_ λq hq=>g q (Zm _ hq)
   obtain⟨q,hq,h1⟩:=h
   rcases Y6.1 hq with rfl|hq
   .exact absurd h1 hr
   .exact⟨q,hq,h1⟩
theorem HT{rules:List fT}{a d:Int}{r:kq}:r∈RR rules a d->∃v:Int,r.2=v/\r.1∈mn (qg (OO rules a d) v) (CS rules a d).1.length:=by
 unfold RR;rw[List.mem_flatMap]
 rintro⟨v,_,hr⟩
 unfold cY at hr;split at hr
 .simp at hr
 .obtain⟨p,hp,rfl⟩:=List.mem_map.1 hr;exact⟨v,rfl,hp⟩
theorem Kz{rules:List fT}{a d:Int}{c:Nat}(hc:c<2 ^ (CS rules a d).1.length):(OO rules a d)[c]? =some (oc (dQ rules a d) (dY rules a d) (gf rules a d) (BB rules a d) (c:Int)):=by
 unfold OO;rw[List.getElem?_map,List.getElem?_range hc];rfl
theorem Cy{rules:List fT}{a d:Int}(h:Fit rules a d){c:Nat}(hc:c<2 ^ (CS rules a d).1.length){r:kq}(hr:r∈RR rules a d)(hm:yN (c:Int) r=aaL):r.2=oc (dQ rules a d) (dY rules a d) (gf rules a d) (BB rules a d) (c:Int):=by
 have h8:=lN h.n8;obtain⟨v,hv,hp⟩:=HT hr;obtain⟨m,b,e,hi⟩:=Bj h.n8 hp;have Tj:=hi.1;have e2:r=(pI m b,v):=Prod.ext e hv;rw[e2,HS (by omega) (by omega),aaW]at hm;have:=Cw.1 (hi.2.2 c hc hm);rw[Kz hc]at this;rw[hv];exact(YU this).symm
theorem EJ{rules:List fT}{a d:Int}(h:Fit rules a d){c:Nat}(hc:c<2 ^ (CS rules a d).1.length):∃r∈RR rules a d,yN (c:Int) r=aaL:=by
 have h8:=lN h.n8;have hO:=Kz hc;generalize oc (dQ rules a d) (dY rules a d) (gf rules a d) (BB rules a d) (c:Int)=v at hO;have w7:=Cw.2 hO;obtain⟨m,b,hp,hx⟩:=HR h.n8 hc w7;obtain⟨m',b',e,hi⟩:=Bj h.n8 hp;obtain⟨rfl,rfl⟩:=oh e;have Tj:=hi.1;refine⟨(pI m b,v),?_,by rw[HS (by omega) (by omega)];exact aaR hx⟩;unfold RR;refine List.mem_flatMap.2 ⟨v,?_,?_⟩
 .rcases HO h (List.mem_of_getElem? hO)with rfl|rfl|g
  .simp
  .simp
  .exact List.mem_append_right _ g
 .unfold cY;rw[aaO (λg=>by rw[List.length_eq_zero_iff.1 g]at w7;simp at w7)];exact List.mem_map.2 ⟨_,hp,rfl⟩
theorem HU{rules:List fT}{a d:Int}(h:Fit rules a d){c:Nat}(hc:c<2 ^ (CS rules a d).1.length):jl (c:Int) (RR rules a d)=(oc (dQ rules a d) (dY rules a d) (gf rules a d) (BB rules a d) (c:Int),aaL):=
 Cx (EJ h hc) λr hr hm=>Cy h hc hr hm
theorem Mk{rules:List fT}{a d:Int}(h:Fit rules a d){c:Nat}(hc:c<2 ^ (CS rules a d).1.length):ue (c:Int) (RR rules a d)=0:=by
 unfold ue;rw[HU h hc,aaP rfl,aaO];intro g;obtain⟨r,hr,h1⟩:=List.any_eq_true.1 g;rw[ZE]at h1;have:=Cy h hc hr h1.1;simp[this]at h1
theorem O6{rules:List fT}{a d:Int}(h:Fit rules a d){r:kq}(hr:r∈RR rules a d):L8 (CS rules a d).1.length r.1=aaL:=by
 obtain⟨v,hv,hp⟩:=HT hr;obtain⟨m,b,e,hi⟩:=Bj h.n8 hp;have h8:=lN h.n8;have hm:=hi.1;have hb:=hi.lt;unfold L8;rw[Bi h.n8,e]
 have e1:ak .and .i64 (pI m b).2 (pI m b).1=(pI m b).2:=by
  show ak .and .i64 (b:Int) (m:Int)=(b:Int)
  rw[A5 (by omega) (by omega),hi.2.1]
 rw[e1];simp only[ZE,aaW];exact⟨Int.natCast_nonneg m,by show(m:Int)<_;omega,Int.natCast_nonneg b,trivial⟩
theorem JN{rules:List fT}{a d:Int}(h:Fit rules a d)(z:Int)(o:List Int):Hz (z,((CS rules a d).1,(o,RR rules a d)))=0:=by
 have h8:=h.n8;unfold Hz
 show(if 8<(CS rules a d).1.length then 4 else if(RR rules a d).all (λr=>L8 (CS rules a d).1.length r.1)=aaL then((bQ (λk=>if ue (k:Int) (RR rules a d)=0 then aaK else some (ue (k:Int) (RR rules a d))) (2 ^ (CS rules a d).1.length)).getD 0)else 3)=(0:Int)
 rw[aaO (by omega),aaP (List.all_eq_true.2 λr hr=>O6 h hr),bm.2 λk hk=>aaP (Mk h hk)];rfl
end L
namespace L
theorem yZ(rules:List fT)(T:List Nat):∀s:List nq×List Int,s.1.Nodup->(T.foldl (cK rules) s).1.Nodup:=by
 induction T with
 |nil=>exact λs h=>h
 |cons i T ih=>
  intro s h;rw[ZT];refine ih _ ?_;unfold cK;split
  .exact h
  .split
   .exact h
   .rename_i g;refine List.nodup_append.2 ⟨h,by simp,λa ha b hb e=>?_⟩;rw[Y5]at hb;exact g (eK.2 ⟨a,ha,aaR (e.trans hb)⟩)
theorem qh{g:nq}{C:List nq}{j:Nat}(hn:C.Nodup)(hj:j<C.length)(h:C[j]=g):dF g C=(j:Int):=by
 refine oW hj (aaR h) λi hi ik=>aaS λe=>?_
 exact List.pairwise_iff_getElem.1 hn i j ik hj hi (e.trans h.symm)
theorem Bk{x:jH}{a d:Int}(h:Fit x.2.2.2.2 a d)(z:Int)(o:List Int)(R:List kq)(s:Nat):M.fZ bd x (dQ x.2.2.2.2 a d) (z,((CS x.2.2.2.2 a d).1,(o,R))) (s:Int)=some ((BB x.2.2.2.2 a d).map (flag (s:Int))):=by
 unfold M.fZ;have MI:=Bg (rules:=x.2.2.2.2) (a:=a) (d:=d);have wI:=kf x.2.2.2.2 a d
 have nC:(dQ x.2.2.2.2 a d).length=(TN x.2.2.2.2 a d).length:=by rw[wI];simp
 have Tk:(CS x.2.2.2.2 a d).1.Nodup:=yZ _ _ _ (by simp);have YN:=h.n8;have O4:∀y∈(CS x.2.2.2.2 a d).1,y.length<=100000:=h.conds _;have dy:∀i∈TN x.2.2.2.2 a d,(gd x.2.2.2.2 i).length≠0->0<=dF (gd x.2.2.2.2 i) (CS x.2.2.2.2 a d).1:=qf _ _ _;have O0:BB x.2.2.2.2 a d=(TN x.2.2.2.2 a d).map (dB x.2.2.2.2 (CS x.2.2.2.2 a d).1):=rfl;have UH:=h.t8;rw[O0];generalize x.2.2.2.2=rules at*;dsimp only;generalize(CS rules a d).1=C at*;refine Wp.eq (Wp.count (λq=>q.1) (TN rules a d).length (λk q=>q.2=(((TN rules a d).take k).map (dB rules C)).map (flag (s:Int))) (by omega) rfl rfl λk q hk hs hJ=>?_);obtain⟨kk,F⟩:=q;dsimp only at hs hJ⊢;subst hs hJ;rw[nC];refine .dec (λai=>?_) (λhge=> .some ?_)
 .have ai:k<(TN rules a d).length:=by omega
  have hb:=MI _ (Y0 ai)
  have tM:idx (dQ rules a d) (k:Int)=some (((TN rules a d)[k]:Nat):Int):=by rw[wI,ao (by simpa using ai)];simp
  have Pv:=dy _ (Y0 ai)
  refine Wp.seq (λq=>q=(((TN rules a d).take (k+1)).map (dB rules C)).map (flag (s:Int))) (.aT tM (.aT (ao hb) ?_)) λj hj=> .some ⟨ai,aF (by omega),hj⟩
  rw[<-Cu hb]
  have Cv:∀v:Bool,v=flag (s:Int) (dB rules C (TN rules a d)[k])->(((TN rules a d).take k).map (dB rules C)).map (flag (s:Int))++[v]=(((TN rules a d).take (k+1)).map (dB rules C)).map (flag (s:Int)):=λv hv=>by
   rw[<-Zk ai,ZU,ZU,hv];rfl
  refine Wp.seq (λf=>f=flag (s:Int) (dB rules C (TN rules a d)[k])) ?_ λf hf=> .bind (.p3 (by simp;omega) (.some (Cv f hf)))
  generalize(TN rules a d)[k]=i at Pv
  have J4:flag (s:Int) (dB rules C i)=(decide ((gd rules i).length=0)||(Y1 C.length).any λt=>decide (C[t]? =some (gd rules i))&&bt (s:Int) (t:Int)):=by
   unfold dB;by_cases h0:(gd rules i).length=0
   .rw[aaP h0,aaR h0];rfl
   .rw[aaO h0,aaS h0,Bool.false_or];obtain⟨c,hc,hp⟩:=eK.1 (Pv h0);obtain⟨j,hj,rfl⟩:=ZJ hc;have hp:C[j]=gd rules i:=aaQ hp;rw[qh Tk hj hp];unfold flag;rw[aaO (by omega),Bool.eq_iff_iff,List.any_eq_true];constructor
    .intro g;exact⟨j,Zn.2 hj,by rw[YX hj,hp,g];simp⟩
    .rintro⟨t,ht,g⟩
     rw[ZE,aaW]at g;obtain⟨Mu,g3⟩:=Zd.1 g.1;have e1:=qh Tk hj hp;have e2:=qh Tk Mu g3
     have:t=j:=by omega
     rw[<-this];exact g.2
  rw[J4]
  refine Wp.count (λq=>q.2) C.length (λj q=>q.1=(decide ((gd rules i).length=0)||(Y1 j).any λt=>decide (C[t]? =some (gd rules i))&&bt (s:Int) (t:Int))) (by omega) rfl ?_ λj q hj hs hJ=>?_
  .show decide (((gd rules i).length:Int)=0)=_
   simp
  obtain⟨f,jj⟩:=q;dsimp only at hs hJ⊢;subst hs hJ;refine .dec (λI8=>?_) (λhge=> .some ?_)
  .have vo:j<C.length:=by omega
   refine Wp.seq (λq=>q=(decide ((gd rules i).length=0)||(Y1 (j+1)).any λt=>decide (C[t]? =some (gd rules i))&&bt (s:Int) (t:Int))) ?_ λq hq=> .some ⟨vo,aF (by omega),hq⟩
   rw[List.range_succ,List.any_append,<-Bool.or_assoc];generalize(decide ((gd rules i).length=0)||(Y1 j).any λt=>decide (C[t]? =some (gd rules i))&&bt (s:Int) (t:Int))=u;refine .ite (λhu=> .some ?_) (λhu=> .bind (.idx j rfl vo (.aT (Cs _ _ (O4 _ (Y0 vo))) ?_)))
   .rw[hu];simp
   .have hu:u=aaM:=by simpa using hu
    rw[hu,Bool.false_or];refine .dec (λhe=> .aT (Be (by omega)) (.some ?_)) (λhe=> .some ?_)
    .simp[YX vo,he,bt]
    .simp[YX vo,he]
  .have:j=C.length:=by omega
   subst this;rfl
 .have:k=(TN rules a d).length:=by omega
  subst this
  show _=_
  rw[Zh]
end L
namespace L
theorem EK{l:Lw}(hw:WF ew l)(hs:ko l)(hv:Valid l){k:Nat}(hk:k<l.2.2.length)(b c:Int):
 (∃e:Int,e≠0/\M.bI bd l (k:Int) b c=some ((0:Int),e,([]:List nq),([]:List Int),([]:List kq)))\/
 M.bI bd l (k:Int) b c=some (b,(0:Int),(CS l.2.2[k].2.2.2.2 b c).1,(CS l.2.2[k].2.2.2.2 b c).2,RR l.2.2[k].2.2.2.2 b c):=by
 have hp:=Cm l hw hs;rw[hv.Ee]at hp;have hx:=ao hk;by_cases h2:b<0\/(l.2.2[k].2.2.2.1.length:Int)<=b
 .refine .inl ⟨6,by decide,?_⟩;unfold M.bI;rw[hp,YV];refine Wp.eq (.ite (λh=>?_) λ_=>?_)
  .rw[show Ee=((0:Int),((0:Int),((0:Int),(0:Int))))from rfl,kY.2 rfl]at h;cases h
  refine Wp.seq (λj=>j=aaM) (.dec (λ_=>by omega) λh=> .some (aaS (by omega))) λj hj=>?_
  rw[hj]
  refine .ite (λh=>(by cases h)) λ_=> .aT hx ?_
  refine Wp.seq (λj=>j=aaL) (.dec (λ_=> .some rfl) λh=> .some (aaR (by omega))) λj hj=>?_
  rw[hj];exact .some rfl
 .by_cases h3:c<0\/109572<c
  .refine .inl ⟨3,by decide,?_⟩;unfold M.bI;rw[hp,YV];refine Wp.eq (.ite (λh=>?_) λ_=>?_)
   .rw[show Ee=((0:Int),((0:Int),((0:Int),(0:Int))))from rfl,kY.2 rfl]at h;cases h
   refine Wp.seq (λj=>j=aaM) (.dec (λ_=>by omega) λh=> .some (aaS (by omega))) λj hj=>?_
   rw[hj]
   refine .ite (λh=>(by cases h)) λ_=> .aT hx ?_
   refine Wp.seq (λj=>j=aaM) (.dec (λ_=>by omega) λh=> .some (aaS (by omega))) λj hj=>?_
   rw[hj]
   refine .ite (λh=>(by cases h)) λ_=>?_
   refine Wp.seq (λj=>j=aaL) (.dec (λ_=> .some rfl) λh=> .some (aaR (by omega))) λj hj=>?_
   rw[hj];exact .some rfl
  .exact .inr (uZ hp (by omega) (by omega) hx (by omega) (by omega) (by omega) (by omega) (Fit.of hv hs hk b c))
theorem EL{l:Lw}(hw:WF ew l)(hs:ko l)(hv:Valid l){k:Nat}(hk:k<l.2.2.length)(b c:Int):
 (∃e:Int,e≠0/\M.bI bd l (k:Int) b c=some ((0:Int),e,([]:List nq),([]:List Int),([]:List kq)))\/
 ∃(C:List nq)(o:List Int)(R:List kq)(ids pa pr bb:List Int),M.bI bd l (k:Int) b c=some (b,(0:Int),C,o,R)/\M.dt bd l.2.2[k] b c=some (ids,pa,pr)/\C.length<=8/\R.length<=100000000/\Hz (b,(C,(o,R)))=0/\
  (∀s:Nat,s<2 ^ C.length->jl (s:Int) R=(HM ids (tJ pa pr (bb.map (flag (s:Int)))),aaL))/\(∀s:Nat,M.fZ bd l.2.2[k] ids (b,(C,(o,R))) (s:Int)=some (bb.map (flag (s:Int))))/\ids.length<=8/\pa.length=ids.length:=by
 have hf:=Fit.of hv hs hk b c
 have nC:(dQ l.2.2[k].2.2.2.2 b c).length=(TN l.2.2[k].2.2.2.2 b c).length:=by rw[kf];simp
 have w7:(dY l.2.2[k].2.2.2.2 b c).length=(TN l.2.2[k].2.2.2.2 b c).length:=by unfold dY TN;simp
 have ht:=uV l.2.2[k] b c (by have:=hf.len;omega)
 rcases EK hw hs hv hk b c with h|h
 .exact .inl h
 .exact .inr ⟨_,_,_,_,_,_,BB l.2.2[k].2.2.2.2 b c,h,ht,hf.n8,Mi hf,JN hf _ _,λs hs=>HU hf hs,λs=>Bk hf _ _ _ s,Zj (Nat.le_of_eq nC) hf.t8,w7.trans nC.symm⟩
theorem jJ(l:Lw)(y:Int×aa.den)(hw:WF ew l)(_:WF (.pair ae aa) y):M.dm bd l y=some aaL:=by
 unfold M.dm;refine Wp.eq (Wp.seq (λj=>j=aaM->ko l/\Valid l/\0<=y.1/\y.1<(l.2.2.length:Int)) ?_ λj hj=> .ite (λ_=> .aT wJ (.some rfl)) λh=>?_)
 .refine Wp.seq (λr=>r=aaL->ko l) (Ed l hw) λr hr=> .ite (λ_=> .some λh=>(by cases h)) λh=>?_
  have hs:=hr (by simpa using h);refine .aT (Cm l hw hs) (.ite (λ_=> .some λh=>(by cases h)) λh=> .dec (λ_=> .some λh=>(by cases h)) λh0=> .some λh1=>⟨hs,?_,by omega,by have:=of_decide_eq_false h1;omega⟩)
  have h:ku bx (yw l) ((0:Int),((0:Int),((0:Int),(0:Int))))=aaL:=by simpa using h
  unfold Valid;rw[kY.1 h]
 obtain⟨hs,hv,h0,h1⟩:=hj (by simpa using h);obtain⟨k,hk⟩:=Y9 h0
 have Ez:k<l.2.2.length:=by omega
 rw[hk]
 rcases EL hw hs hv Ez y.2.1 y.2.2 with⟨e,he,hb⟩|⟨C,o,R,ids,pa,pr,bb,hb,ht,PQ,YO,k9,sj,LX,nC,w7⟩
 .exact .aT hb (.pZ (λ_=> .aT wJ (.some rfl)) λh=>absurd h he)
 refine .aT hb (.pZ (λh=>absurd rfl h) λ_=> .aT (ao Ez) (.aT ht ?_));clear hb ht hw hs hv hj;have h8:=lN PQ;have jK:=EB (y.2.1,(C,(o,R))) (by show R.length<=_;omega);rw[k9]at jK
 have JE:=λc:Nat=>Hw (y.2.1,(C,(o,R))) (c:Int) (by show R.length<=_;omega)
 refine Wp.seq (λj=>j=aaM) (.dec (λh=>absurd PQ (by have:(8:Int)<(C.length:Int):=h;omega)) λ_=> .aT jK (.some rfl)) λj hj=> .ite (λh=>by rw[hj]at h;cases h) λ_=>?_
 refine .join (Wp.count (λs=>s) (2 ^ C.length) (λ_ _=>True) (by omega) rfl trivial λs q hs hq _=>?_);obtain rfl:q=(s:Int):=hq;refine .aT (jk (show C.length<62 by omega)) (.dec (λh=>?_) λh=> .some ?_)
 .have ai:s<2 ^ C.length:=by exact_mod_cast h
  refine .aT (JE s) (.aT (LX s) ?_);obtain⟨Tl,hr⟩:=o7 pa pr (bb.map (flag (s:Int))) (by omega);refine .aT Tl ?_;have ho:=sj s ai
  show Wp (Option.bind _ _) _
  dsimp only;rw[ho];generalize tJ pa pr (bb.map (flag (s:Int)))=v at hr⊢;unfold Pl at hr
  refine Wp.seq (λw=>w=HM ids v) (Wp.seq (λj=>j=aaL↔0<=v) (.dec (λh=> .some ?_) (λh=> .some ⟨λh=>(by cases h),λg=>absurd g h⟩)) λj hj=> .ite (λh=> .aT (rp (hj.1 h) (by have:=hj.1 h;omega)) (.some rfl)) λh=> .some ?_) λw hw=>?_
  .rw[aaW];exact⟨λ_=>h,λ_=>by omega⟩
  .have:¬0<=v:=λg=>h (hj.2 g)
   unfold HM;rw[aaO this]
  .subst hw
   refine Wp.seq (λj=>j=aaM) (.ite (λh=>absurd h (by simp)) λ_=> .some (by simp)) λj hj=> .ite (λh=>by rw[hj]at h;cases h) λ_=> .some ⟨ai,aF (by omega),trivial⟩
 .exact .aT wJ (.some rfl)
end L
end Go.Proofs.YtbladfbbhijpmaaGreat
