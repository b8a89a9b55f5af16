/- Joined texts: TW TX TY TZ TQ TR P31. -/
import Derived.Test.YtbladfbbhijpmaaGreatU10
import Derived.Test.YtbladfbbhijpmaaGreatU1
import Derived.Test.YtbladfbbhijpmaaGreatU11
section
open _root_.Bool renaming false_eq_true->YW
open _root_.Int renaming eq_ofNat_of_zero_le->YN
open _root_.Go.IntKind renaming i64->YC
open _root_.List renaming append_assoc->Y2,foldl_cons->ZG,getElem?_eq_getElem->YF,getElem_mem->YP,length_cons->YT,length_filter_le->ZQ,length_map->ZI,mem_append->YL,mem_filter->Za,mem_range->Y5,mem_singleton->YJ,range->YI,replicate->Y4,take_length->YS
open _root_.Option renaming bind_some->YB
namespace Go.Proofs.YtbladfbbhijpmaaGreat
open Go Go.RowKit
namespace L.S
def at'{α:Type}(d:α)(l:List α)(i:Int):α:=(l[i.toNat]?).getD d
theorem ic{α:Type}(d:α){l:List α}{i:Int}(h0:0<=i)(h:i<l.length):idx l i=some (at' d l i):=by
 unfold idx at';rw[if_pos h0,YF (by omega)];rfl
structure V(p q:List Int):Prop where
 len:p.length=q.length
 n8:p.length<=8
 par:∀i:Nat,i<p.length->-1<=at' 0 p i/\at' 0 p i<i
theorem va(N:Nat)(p q:List Int):M.iQ N p q=M.bX N p q:=by
 unfold M.iQ M.bX
 congr 3
 funext s
 congr 1
 cases hp:idx p s<;>cases hq:idx q s<;>rfl
theorem xl{N:Nat}(p q:List Int)(hN:10<=N):∃e,M.bX N p q=some e/\(e=0->V p q):=by
 unfold M.bX;by_cases h1:(p.length:Int)=q.length
 .rw[if_neg (by simpa using h1)];by_cases h2:8<(p.length:Int)
  .rw[if_pos (by simpa using h2)];exact⟨_,rfl,by omega⟩
  .rw[if_neg (by simpa using h2)];refine oY (I:=fun s:Int=>0<=s/\s<=p.length/\∀i:Nat,(i:Int)<s->-1<=at' 0 p i/\at' 0 p i<i) (μ:=fun s=>(p.length-s).toNat) (Q:=fun e=>e=0->V p q) ?_ N 0 ⟨by omega,by omega,fun i hi=>by omega⟩ (by omega)
   rintro s ⟨h3,h4,h5⟩
   by_cases h6:s<(p.length:Int)
   .rw[if_pos (by simpa using h6),ic 0 h3 h6,ic 0 h3 (by omega)];simp only[YB];by_cases h7:at' 0 p s< -1
    .rw[if_pos (by simpa using h7)];exact .inr ⟨9,rfl,by omega⟩
    .rw[if_neg (by simpa using h7)];by_cases h8:s<=at' 0 p s
     .simp only[YB,h8,decide_true,if_true];exact .inr ⟨9,rfl,by omega⟩
     .simp only[YB,h8,decide_false,YW,if_false]
      have fin:(∃s',(some (Sum.inl (YC.wrap (s+1))):Option (Int⊕Int))=some (.inl s')/\(0<=s'/\s'<=p.length/\∀i:Nat,(i:Int)<s'->-1<=at' 0 p i/\at' 0 p i<i)/\((p.length:Int)-s').toNat<((p.length:Int)-s).toNat):=by
       rw[eZ (by omega) (by omega)];refine⟨s+1,rfl,⟨by omega,by omega,fun i hi=>?_⟩,by omega⟩;by_cases e:(i:Int)<s
       .exact h5 i e
       .have:(i:Int)=s:=by omega
        rw[this];omega
      by_cases h9:at' 0 q s<0
      .simp only[h9,decide_true,if_true,YB];exact .inr ⟨3,rfl,by omega⟩
      .simp only[h9,decide_false,YW,if_false,YB];by_cases M0:9<at' 0 q s
       .simp only[M0,decide_true,if_true];exact .inr ⟨3,rfl,by omega⟩
       .simp only[M0,decide_false,YW,if_false];exact .inl fin
   .rw[if_neg (by simpa using h6)];exact .inr ⟨0,rfl,fun _=>⟨by omega,by omega,fun i hi=>h5 i (by omega)⟩⟩
 .rw[if_pos (by simpa using h1)];exact⟨_,rfl,by omega⟩
def ch(p:List Int)(i:Int):List Int:=((YI p.length).filter fun j:Nat=>decide (at' 0 p (j:Int)=i)).map (fun j:Nat=>(j:Int))
theorem Ko{p:List Int}{i c:Int}:c∈ch p i↔0<=c/\c<p.length/\at' 0 p c=i:=by
 unfold ch;simp only[List.mem_map,Za,Y5,decide_eq_true_eq];constructor
 .rintro⟨j,⟨h1,h2⟩,rfl⟩;exact⟨by omega,by omega,h2⟩
 .rintro⟨h1,h2,h3⟩
  obtain⟨j,rfl⟩:=YN h1;exact⟨j,⟨by omega,h3⟩,rfl⟩
theorem FO(p:List Int)(i:Int):(ch p i).length<=p.length:=by
 unfold ch;rw[ZI];have:=ZQ (fun j:Nat=>decide (at' 0 p (j:Int)=i)) (YI p.length);simpa using this
theorem pD{N:Nat}{p:List Int}(i:Int)(hn:p.length<=8)(hN:10<=N):M.cy N p i=some (ch p i):=by
 unfold M.cy;refine qd (fun k:Nat=>((k:Int),(((YI k).filter fun j:Nat=>decide (at' 0 p (j:Int)=i)).map (fun j:Nat=>(j:Int)):List Int))) p.length _ rfl ?_ ?_ (by omega)
 .intro k hk
  have hw:YC.wrap ((k:Int)+1)=((k+1:Nat):Int):=by rw[eZ]<;>omega
  simp only;rw[if_pos (by simp;omega),ic 0 (by omega) (by omega),YB,hw,gh];by_cases h:at' 0 p (k:Int)=i
  .rw[if_pos (by simpa using h),e7,YB,if_pos (by simpa using h)]
   .simp
   .simp only[ZI,YT,List.length_nil];have:=ZQ (fun j:Nat=>decide (at' 0 p (j:Int)=i)) (YI k);simp at this;omega
  .rw[if_neg (by simpa using h),if_neg (by simpa using h)];simp
 .simp only;rw[if_neg (by simp)];rfl
theorem vb(N:Nat)(p:List Int)(i:Int):M.lC N p i=M.cy N p i:=rfl
def step(o:Int->Int)(q:List Int)(b:List Int)(c:Int):List Int:=
 if o c= -1 then b else
 match b with
 |[]=>[c]
 |x::r=>if at' 0 q x<at' 0 q c then[c]else if at' 0 q c=at' 0 q x then(x::r)++[c]else x::r
def kZ(o:Int->Int)(q:List Int)(l:List Int):List Int:=l.foldl (step o q) []
structure Inv(o:Int->Int)(q:List Int)(l b:List Int):Prop where
 sub:b.Sublist l
 live:∀c,c∈b->o c≠-1
 max:∀d,d∈l->o d≠-1->b≠[]/\∀c,c∈b->at' 0 q d<=at' 0 q c
 all:∀d,d∈l->o d≠-1->(∀c,c∈b->at' 0 q d=at' 0 q c)->d∈b
theorem vc{α:Type}{d a:α}{l:List α}:at' d (a::l) 0=a:=rfl
theorem rb{o:Int->Int}{q l b:List Int}{c:Int}(h:Inv o q l b):Inv o q (l++[c]) (step o q b c):=by
 obtain⟨h1,h2,h3,h4⟩:=h
 have pd:∀x∈b,∀y∈b,at' 0 q x=at' 0 q y:=fun x hx y hy=>by
  have a1:=(h3 x (h1.subset hx) (h2 x hx)).2 y hy;have a2:=(h3 y (h1.subset hy) (h2 y hy)).2 x hx;omega
 unfold step;by_cases hd:o c= -1
 .rw[if_pos hd];refine⟨h1.trans (List.sublist_append_left _ _),h2,fun d hm hl=>?_,fun d hm hl=>?_⟩
  .rcases YL.1 hm with hm|hm
   .exact h3 d hm hl
   .rw[YJ.1 hm]at hl;exact absurd hd hl
  .rcases YL.1 hm with hm|hm
   .exact h4 d hm hl
   .rw[YJ.1 hm]at hl;exact absurd hd hl
 .rw[if_neg hd]
  cases b with
  |nil=>
   have IE:∀d,d∈l->¬o d≠-1:=fun d hm hl=>(h3 d hm hl).1 rfl
   refine⟨(List.sublist_append_right _ _),?_,fun d hm hl=>⟨by simp,?_⟩,fun d hm hl hh=>?_⟩
   .intro x hx;rw[YJ.1 hx];exact hd
   .intro x hx;rw[YJ.1 hx]
    rcases YL.1 hm with hm|hm
    .exact absurd hl (IE d hm)
    .rw[YJ.1 hm];exact Int.le_refl _
   .rcases YL.1 hm with hm|hm
    .exact absurd hl (IE d hm)
    .exact hm
  |cons a b=>
   simp only;by_cases av:at' 0 q a<at' 0 q c
   .rw[if_pos av];refine⟨(List.sublist_append_right _ _),?_,fun d hm hl=>⟨by simp,?_⟩,fun d hm hl hh=>?_⟩
    .intro x hx;rw[YJ.1 hx];exact hd
    .intro x hx;rw[YJ.1 hx]
     rcases YL.1 hm with hm|hm
     .have:=(h3 d hm hl).2 a (by simp);omega
     .rw[YJ.1 hm];exact Int.le_refl _
    .rcases YL.1 hm with hm|hm
     .have:=(h3 d hm hl).2 a (by simp);have:=hh c (by simp);omega
     .exact hm
   .rw[if_neg av];by_cases he:at' 0 q c=at' 0 q a
    .rw[if_pos he];refine⟨List.Sublist.append h1 (List.Sublist.refl _),?_,fun d hm hl=>⟨by simp,?_⟩,fun d hm hl hh=>?_⟩
     .intro x hx
      rcases YL.1 hx with hx|hx
      .exact h2 x hx
      .rw[YJ.1 hx];exact hd
     .intro x hx
      have F9:at' 0 q x=at' 0 q a:=by
       rcases YL.1 hx with hx|hx
       .exact pd x hx a (by simp)
       .rw[YJ.1 hx];exact he
      rcases YL.1 hm with hm|hm
      .have:=(h3 d hm hl).2 a (by simp);omega
      .rw[YJ.1 hm];omega
     .rcases YL.1 hm with hm|hm
      .exact List.mem_append_left _ (h4 d hm hl fun x hx=>hh x (List.mem_append_left _ hx))
      .exact List.mem_append_right _ hm
    .rw[if_neg he];refine⟨h1.trans (List.sublist_append_left _ _),h2,fun d hm hl=>⟨by simp,?_⟩,fun d hm hl hh=>?_⟩
     .intro x hx
      rcases YL.1 hm with hm|hm
      .exact(h3 d hm hl).2 x hx
      .rw[YJ.1 hm,pd x hx a (by simp)];omega
     .rcases YL.1 hm with hm|hm
      .exact h4 d hm hl hh
      .have:=hh a (by simp);rw[YJ.1 hm]at this;exact absurd this he
theorem xm{o:Int->Int}{q:List Int}:∀(m l b:List Int),Inv o q l b->Inv o q (l++m) (m.foldl (step o q) b)
 |[],l,b,h=>by simpa using h
 |c::m,l,b,h=>by
  have:=xm m (l++[c]) _ (rb (c:=c) h);rw[Y2]at this;exact this
theorem lL(o:Int->Int)(q l:List Int):Inv o q l (kZ o q l):=by
 have:=xm (o:=o) (q:=q) l [] [] ⟨List.Sublist.refl _,by simp,by simp,by simp⟩;rw[List.nil_append]at this;exact this
theorem nq{o o':Int->Int}{q:List Int}:∀(l b:List Int),(∀c,c∈l->o c=o' c)->l.foldl (step o q) b=l.foldl (step o' q) b
 |[],_,_=>rfl
 |c::l,b,h=>by
  have:step o q b c=step o' q b c:=by unfold step;rw[h c (by simp)]
  rw[ZG,ZG,this]
  exact nq l _ fun d hd=>h d (by simp[hd])
def pT(o:Int->Int)(b:List Int):Int:=if(b.length:Int)=0 then-1 else if(b.length:Int)=1 then o (at' 0 b 0)else-2
def out(p q:List Int)(a:List Bool):Nat->Int->Int
 |0,_=> -1
 |k+1,i=>
  let c:=pT (out p q a k) (kZ (out p q a k) q (ch p i))
  if c= -1/\at' false a i=true then i else c
def cout(p q:List Int)(a:List Bool)(k:Nat)(i:Int):Int:=pT (out p q a k) (kZ (out p q a k) q (ch p i))
theorem n9(p q:List Int)(a:List Bool)(k:Nat)(i:Int):out p q a (k+1) i=if cout p q a k i= -1/\at' false a i=true then i else cout p q a k i:=rfl
theorem lM{p q:List Int}(hv:V p q){i c:Int}(h:c∈ch p i):i<c/\0<=c/\c<8/\c<p.length:=by
 obtain⟨h1,h2,h3⟩:=Ko.1 h;have:=hv.n8;obtain⟨j,rfl⟩:=YN h1;have:=(hv.par j (by omega)).2;omega
theorem ry{o o':Int->Int}{b:List Int}(h:∀c,c∈b->o c=o' c):pT o b=pT o' b:=by
 cases b with
 |nil=>rfl
 |cons x b=>unfold pT;rw[vc,h x (by simp)]
theorem rz{p q:List Int}{a:List Bool}{k k':Nat}{i:Int}(h:∀c,c∈ch p i->out p q a k c=out p q a k' c):cout p q a k i=cout p q a k' i:=by
 unfold cout;have:kZ (out p q a k) q (ch p i)=kZ (out p q a k') q (ch p i):=nq _ _ h;rw[this]
 exact ry fun c hc=>h c ((lL _ _ _).sub.subset hc)
theorem rA{p q:List Int}(hv:V p q)(a:List Bool):∀(k:Nat)(i:Int),8<k+i->out p q a k i=out p q a (k+1) i\/8<=i
 |0,i,h=> .inr (by omega)
 |k+1,i,h=>by
  by_cases h8:8<=i
  .exact .inr h8
  .left
   rw[n9,n9 p q a (k+1),rz (k:=k) (k':=k+1)];intro c hc;have:=lM hv hc;exact(rA hv a k c (by omega)).resolve_right (by omega)
def O(p q:List Int)(a:List Bool)(i:Int):Int:=out p q a 16 i
def C(p q:List Int)(a:List Bool)(i:Int):Int:=pT (O p q a) (kZ (O p q a) q (ch p i))
theorem IF{p q:List Int}(hv:V p q)(a:List Bool):∀(d k:Nat)(i:Int),8<k+i->i<8->d+k=16->out p q a k i=O p q a i
 |0,k,i,_,_,hd=>by
  obtain rfl:k=16:=by omega
  rfl
 |d+1,k,i,h,h8,hd=>by
  rw[(rA hv a k i h).resolve_right (by omega)];exact IF hv a d (k+1) i (by omega) h8 (by omega)
theorem Nt{p q:List Int}(hv:V p q)(a:List Bool){k:Nat}{i:Int}(h:7<k+i)(hk:k<=16):cout p q a k i=C p q a i:=by
 show _=cout p q a 16 i
 refine rz fun c hc=>?_
 have:=lM hv hc;exact IF hv a (16-k) k c (by omega) (by omega) (by omega)
theorem R6{p q:List Int}(hv:V p q)(a:List Bool){i:Int}(h0: -1<=i):O p q a i=if C p q a i= -1/\at' false a i=true then i else C p q a i:=by
 unfold O;rw[n9,Nt hv a (by omega) (by omega)]
theorem tF{q b:List Int}{c y:Int}{o:Int->Int}(hy:o c=y)(hb:∀x,x∈b->0<=x/\x<q.length)(hl:b.length<=8)(hc:0<=c/\c<q.length):
 (if(decide (y=(-1:Int)))=true then
some b
else
(((if(decide ((0:Int)<(b.length:Int)))=true then
(idx q c).bind fun x8=>
(idx b (0:Int)).bind fun x9=>
(idx q x9).bind fun tl=>
some (decide (tl<x8))
else
some false):Option (Bool)).bind fun j7=>
(if j7=true then
(dT b (0:Int) (0:Int)).bind fun Hm=>
some Hm
else
some b):Option (List Int)).bind fun j6=>
((if(decide ((j6.length:Int)=(0:Int)))=true then
some true
else
(idx q c).bind fun r4=>
(idx j6 (0:Int)).bind fun Hj=>
(idx q Hj).bind fun Gn=>
some (decide (r4=Gn))):Option (Bool)).bind fun vh=>
(if vh=true then
(bZ j6 ([c]:List Int)).bind fun JQ=>
some JQ
else
some j6))=some (step o q b c):=by
 subst hy;unfold step;by_cases h:o c= -1
 .simp only[h,decide_true,if_true]
 .simp only[h,decide_false,YW,if_false];rw[ic 0 hc.1 hc.2]
  cases b with
  |nil=>simp[bZ]
  |cons x r=>
   have hx:=hb x (by simp)
   have h0:(0:Int)<((x::r).length:Int):=by simp only[YT];omega
   have h1:¬((x::r).length:Int)=0:=by omega
   simp only[h0,decide_true,if_true,YB,nU,ic 0 hx.1 hx.2]
   have xL:dT (x::r) (0:Int) (0:Int)=some []:=by
    unfold dT;rw[if_pos (by omega)];rfl
   by_cases av:at' 0 q x<at' 0 q c
   .rw[xL];simp[av,bZ]
   .simp only[av,decide_false,YW,if_false,YB,h1,nU,ic 0 hx.1 hx.2];by_cases he:at' 0 q c=at' 0 q x
    .simp only[he,decide_true,if_true];rw[e7 (by simp at hl⊢;omega)];rfl
    .simp only[he,decide_false,YW,if_false]
theorem FP{q b:List Int}{c y:Int}{o:Int->Int}(hy:o c=y)(hb:∀x,x∈b->0<=x/\x<q.length)(hl:b.length<=8)(hc:0<=c/\c<q.length):
 (if(decide (y=(-1:Int)))=true then
some b
else
(((if(decide ((0:Int)<(b.length:Int)))=true then
(idx q c).bind fun x8=>
(idx b (0:Int)).bind fun x9=>
(idx q x9).bind fun tl=>
some (decide (tl<x8))
else
some false):Option (Bool)).bind fun j7=>
(if j7=true then
some ([]:List Int)
else
some b):Option (List Int)).bind fun j6=>
((if(decide ((j6.length:Int)=(0:Int)))=true then
some true
else
(idx q c).bind fun r4=>
(idx j6 (0:Int)).bind fun Hj=>
(idx q Hj).bind fun Gn=>
some (decide (r4=Gn))):Option (Bool)).bind fun vh=>
(if vh=true then
(bZ j6 ([c]:List Int)).bind fun JQ=>
some JQ
else
some j6))=some (step o q b c):=by
 rw[<-tF hy hb hl hc];rfl
theorem oa{l:List Int}{o:Int->Int}{q:List Int}{k:Nat}:((l.take k).foldl (step o q) []).Sublist l:=(lL o q (l.take k)).sub.trans (List.take_sublist _ _)
theorem HO{N:Nat}{p q r:List Int}(hv:V p q)(hr:r.length=p.length)(i:Int)(hN:20<=N):M.cH N (p,(q,r)) i=some (kZ (at' 0 r) q (ch p i)):=by
 have h8:=hv.n8;have hl:=FO p i;unfold M.cH;simp only;rw[pD i h8 (by omega),YB];refine qd (fun k:Nat=>((k:Int),((ch p i).take k).foldl (step (at' 0 r) q) [])) (ch p i).length _ rfl ?_ ?_ (by omega)
 .intro k hk
  have hw:YC.wrap ((k:Int)+1)=((k+1:Nat):Int):=by rw[eZ]<;>omega
  have hc:=lM hv (YP hk);have hq:=hv.len;simp only;rw[if_pos (by simp;omega),aB hk,YB,ic 0 hc.2.1 (by omega),YB,hw];have hb:=tF (q:=q) (b:=((ch p i).take k).foldl (step (at' 0 r) q) []) (c:=(ch p i)[k]) (o:=at' 0 r) rfl (fun x hx=>by have:=lM hv (oa.subset hx);omega) (by have:=(oa (l:=ch p i) (o:=at' 0 r) (q:=q) (k:=k)).length_le;omega) ⟨hc.2.1,by omega⟩;rw[hb,YB,List.take_succ_eq_append_getElem hk,List.foldl_append];rfl
 .simp only;rw[if_neg (by simp),YS];rfl
theorem HP{p q:List Int}(hv:V p q){o:Int->Int}{i c:Int}(h:c∈kZ o q (ch p i)):i<c/\0<=c/\c<8/\c<p.length:=lM hv ((lL o q _).sub.subset h)
theorem mJ{N:Nat}{p q r:List Int}(hv:V p q)(hr:r.length=p.length)(i:Int)(hN:20<=N):M.bf N (p,(q,r)) i=some (pT (at' 0 r) (kZ (at' 0 r) q (ch p i))):=by
 unfold M.bf pT;rw[HO hv hr i hN,YB]
 cases hb:kZ (at' 0 r) q (ch p i)with
 |nil=>simp
 |cons x b=>
  have hx:=HP hv (o:=at' 0 r) (i:=i) (c:=x) (by rw[hb];simp)
  have h1:¬((x::b).length:Int)=0:=by simp;omega
  simp only[h1,decide_false,YW,if_false,nU,YB,vc,ic 0 hx.2.1 (show x<(r.length:Int) by omega)];by_cases h2:((x::b).length:Int)=1
  .simp only[h2,decide_true,if_true]
  .simp only[h2,decide_false,YW,if_false]
theorem AI{p q r:List Int}(hv:V p q){a:List Bool}{i:Int}(h:∀c,i<c->0<=c->c<p.length->at' 0 r c=O p q a c):pT (at' 0 r) (kZ (at' 0 r) q (ch p i))=C p q a i:=by
 unfold C
 have h':∀c,c∈ch p i->at' 0 r c=O p q a c:=fun c hc=>by
  have:=lM hv hc;exact h c this.1 this.2.1 this.2.2.2
 have:kZ (at' 0 r) q (ch p i)=kZ (O p q a) q (ch p i):=nq _ _ h';rw[this]
 exact ry fun c hc=>h' c ((lL _ _ _).sub.subset hc)
def outs(p q:List Int)(a:List Bool)(k:Nat):List Int:=(YI p.length).map fun j=>if p.length<=j+k then O p q a (j:Int)else 0
theorem FQ{n:Nat}{f:Nat->Int}{c:Int}(h0:0<=c)(h:c<n):at' 0 ((YI n).map f) c=f c.toNat:=by
 unfold at';rw[List.getElem?_map,List.getElem?_range (by omega)];rfl
theorem xn{N:Nat}{p q:List Int}{a:List Bool}(hv:V p q)(ha:a.length=p.length)(hN:20<=N):M.cT N p q a=some (outs p q a p.length):=by
 have h8:=hv.n8;unfold M.cT
 have h0:sf (p.length:Int) (0:Int)=some (Y4 p.length 0):=by
  unfold sf;rw[if_pos (by omega)];simp
 rw[h0,YB];refine qd (fun k:Nat=>((p.length:Int)-1-(k:Int),outs p q a k)) p.length _ ?_ ?_ ?_ (by omega)
 .rw[eZ (by omega) (by omega)]
  have:outs p q a 0=Y4 p.length 0:=by
   unfold outs
   refine List.ext_getElem (by simp) fun j h1 h2=>?_
   simp at h2;rw[List.getElem_map,List.getElem_range,List.getElem_replicate,if_neg (by omega)]
  rw[this];simp
 .intro k hk
  have hlen:(outs p q a k).length=p.length:=by simp[outs]
  have hO:=R6 hv a (i:=(p.length:Int)-1-(k:Int)) (by omega);generalize hi:(p.length:Int)-1-(k:Int)=i at*
  have hc:pT (at' 0 (outs p q a k)) (kZ (at' 0 (outs p q a k)) q (ch p i))=C p q a i:=AI hv fun c h1 h2 h3=>by
   unfold outs;rw[FQ h2 h3,if_pos (by omega),Int.toNat_of_nonneg h2]
  simp only;rw[if_pos (by simp;omega),mJ hv hlen i hN,YB,hc,ic 0 (by omega) (by omega),YB]
  have kc:∀v,bg (bg (outs p q a k) i v) i (O p q a i)=outs p q a (k+1)/\(v=O p q a i->bg (outs p q a k) i v=outs p q a (k+1)):=by
   intro v
   have e:bg (outs p q a k) i (O p q a i)=outs p q a (k+1):=by
    unfold bg outs;rw[gD]
    refine List.map_congr_left fun j hj=>?_
    have:=Y5.1 hj;by_cases h:j=i.toNat
    .rw[if_pos h,if_pos (by omega),h,Int.toNat_of_nonneg (by omega)]
    .rw[if_neg h];by_cases h':p.length<=j+k
     .rw[if_pos h',if_pos (by omega)]
     .rw[if_neg h',if_neg (by omega)]
   refine⟨?_,fun h=>h▸e⟩;unfold bg at e⊢;rw[List.set_set];exact e
  have kl:∀v,idx (bg (outs p q a k) i v) i=some v:=by
   intro v;unfold bg;rw[ic v (by omega) (by simp;omega)];unfold at';rw[List.getElem?_set_self (by omega)];rfl
  have hw:YC.wrap (i-1)=(p.length:Int)-1-((k+1:Nat):Int):=by rw[eZ]<;>omega
  rw[kl,hw];simp only[YB];rw[ic false (by omega) (by omega)];simp only[YB];by_cases h1:C p q a i= -1
  .rw[if_pos (by simpa using h1),YB];by_cases h2:at' false a i=true
   .rw[if_pos h2];rw[if_pos ⟨h1,h2⟩]at hO;have:=(kc (C p q a i)).1;rw[hO]at this;rw[this];rfl
   .rw[if_neg h2];rw[if_neg (fun h=>h2 h.2)]at hO;rw[(kc (C p q a i)).2 hO.symm];rfl
  .rw[if_neg (by simpa using h1),YB,if_neg (by simp)];rw[if_neg (fun h=>h1 h.1)]at hO;rw[(kc (C p q a i)).2 hO.symm];rfl
 .simp only;rw[if_neg (by simp;omega)]
theorem HQ{p q:List Int}{a:List Bool}{c:Int}(h0:0<=c)(h:c<p.length):at' 0 (outs p q a p.length) c=O p q a c:=by
 unfold outs;rw[FQ h0 h,if_pos (by omega),Int.toNat_of_nonneg h0]
theorem FR{p q:List Int}{a:List Bool}{k:Nat}:(outs p q a k).length=p.length:=by simp[outs]
theorem IG(e:Int)(y:Bool){α:Type}(k:Bool->Option α):((if(!decide (e=(0:Int)))=true then some true else some y:Option Bool).bind k)=k (!decide (e=0)||y):=by
 cases decide (e=0)<;>rfl
theorem vd{N:Nat}(hN:20<=N)(p q:List Int)(a:List Bool):(M.bO N p q a=some (-1)/\M.ga N p q a=some (-1))\/
 (V p q/\a.length=p.length/\M.bO N p q a=some (C p q a (-1))/\M.ga N p q a=M.iR N p q a (-1)):=by
 obtain⟨e,he,hv⟩:=xl (N:=N) p q (by omega);unfold M.bO M.ga;rw[va,he];simp only[YB];rw[IG,IG];by_cases h:(!decide (e=0)||(!decide ((a.length:Int)=(p.length:Int))))=true
 .left
  rw[if_pos h,if_pos h];exact⟨rfl,rfl⟩
 .right
  have h1:e=0:=by simp at h;exact h.1
  have h2:a.length=p.length:=by simp at h;omega
  have hv:=hv h1;rw[if_neg h,if_neg h,xn hv h2 hN];simp only[YB];rw[mJ hv FR (-1) hN];refine⟨hv,h2,?_,?_⟩
  .exact congrArg some (AI hv fun c _ h0 h=>HQ h0 h)
  .cases M.iR N p q a (-1)<;>rfl
section
variable {p q:List Int} {a:List Bool} (hv:V p q) (ha:a.length=p.length)
include hv ha
theorem Nu{N:Nat}{o:Int->Int}{i:Int}(hN:20<=N)(ho:∀c,c∈ch p i->M.cB bm N p q a c=some (o c)):M.kG bm (N+1) p q a i=some (kZ o q (ch p i)):=by
 have h8:=hv.n8;have hl:=FO p i;unfold M.kG;rw[vb,pD i h8 (by unfold bm;omega),YB];refine qd (fun k:Nat=>((k:Int),((ch p i).take k).foldl (step o q) [])) (ch p i).length _ rfl ?_ ?_ (by unfold bm;omega)
 .intro k hk
  have hw:YC.wrap ((k:Int)+1)=((k+1:Nat):Int):=by rw[eZ]<;>omega
  have hc:=lM hv (YP hk);have hq:=hv.len;simp only;rw[if_pos (by simp;omega),aB hk,YB,ho _ (YP hk),YB,hw];have hb:=FP (q:=q) (b:=((ch p i).take k).foldl (step o q) []) (c:=(ch p i)[k]) (o:=o) rfl (fun x hx=>by have:=lM hv (oa.subset hx);omega) (by have:=(oa (l:=ch p i) (o:=o) (q:=q) (k:=k)).length_le;omega) ⟨hc.2.1,by omega⟩;simp only[YB];rw[hb,YB,List.take_succ_eq_append_getElem hk,List.foldl_append];rfl
 .simp only;rw[if_neg (by simp),YS];rfl
theorem tG{N:Nat}{o:Int->Int}{i:Int}(hN:20<=N)(ho:∀c,c∈ch p i->M.cB bm N p q a c=some (o c))(gm:∀c,c∈ch p i->M.cB bm (N+1) p q a c=some (o c)):M.dM bm (N+2) p q a i=some (pT o (kZ o q (ch p i))):=by
 unfold M.dM;rw[Nu hv ha hN ho,YB];unfold pT
 cases hb:kZ o q (ch p i)with
 |nil=>simp
 |cons x b=>
  have hx:=(lL o q (ch p i)).sub.subset (show x∈kZ o q (ch p i) by rw[hb];simp)
  have h1:¬((x::b).length:Int)=0:=by simp only[YT];omega
  simp only[h1,decide_false,YW,if_false,nU,YB,vc];by_cases h2:1<((x::b).length:Int)
  .simp only[h2,decide_true,if_true];rw[if_neg (by omega)]
  .simp only[h2,decide_false,YW,if_false];rw[gm x hx,if_pos (by simp only[YT]at h1 h2⊢;omega)];rfl
theorem rB:∀(k N:Nat)(i:Int),8<k+i->0<=i->i<p.length->3*k+30<=N->M.cB bm N p q a i=some (out p q a k i)
 |0,N,i,h,_,h2,_=>by have:=hv.n8;omega
 |k+1,N,i,h,h0,h2,hN=>by
  obtain⟨N,rfl⟩:∃n,N=n+3:=⟨N-3,by omega⟩
  unfold M.cB;rw[tG hv ha (o:=out p q a k) (by omega) (fun c hc=>?_) (fun c hc=>?_),YB,n9]
  .show _=some (if cout p q a k i= -1/\at' false a i=true then i else cout p q a k i)
   show Option.bind (if decide (cout p q a k i= -1)=true then _ else _) _=_
   rw[ic false h0 (by omega)];simp only[YB];by_cases h1:cout p q a k i= -1
   .simp only[h1,decide_true,if_true,YB,true_and];by_cases h3:at' false a i=true
    .rw[if_pos h3,if_pos h3]
    .rw[if_neg h3,if_neg h3];exact congrArg some h1
   .simp only[h1,decide_false,YW,if_false,YB,false_and];rfl
  .have:=lM hv hc;exact rB k N c (by omega) (by omega) (by omega) (by omega)
  .have:=lM hv hc;exact rB k (N+1) c (by omega) (by omega) (by omega) (by omega)
theorem R7{N:Nat}{i:Int}(h0:0<=i)(h:i<p.length)(hN:90<=N):M.cB bm N p q a i=some (O p q a i):=rB hv ha 16 N i (by omega) h0 h (by omega)
theorem ve{N:Nat}{i:Int}(hN:100<=N):M.dM bm N p q a i=some (C p q a i):=by
 obtain⟨N,rfl⟩:∃n,N=n+2:=⟨N-2,by omega⟩
 refine tG hv ha (by omega) (fun c hc=>?_) fun c hc=>?_
 all_goals
  have:=lM hv hc;exact R7 hv ha (by omega) (by omega) (by omega)
end
theorem Kp(p q:List Int)(a:List Bool):M.bO bm p q a=M.ga bm p q a:=by
 rcases vd (N:=bm) (by unfold bm;omega) p q a with⟨h1,h2⟩|⟨hv,ha,h1,h2⟩
 .rw[h1,h2]
 .rw[h1,h2];exact(ve hv ha (N:=bm) (by unfold bm;omega)).symm
end L.S
end Go.Proofs.YtbladfbbhijpmaaGreat
end
section
open _root_.Bool renaming false_eq_true->YW
open _root_.Int renaming toNat_natCast->YK
open _root_.Go.IntKind renaming i64->YC
open _root_.List renaming append_assoc->Y2,foldl_cons->ZG,getElem_mem->YP,length_append->YV,length_cons->YT,mem_append->YL,mem_cons->YM,mem_singleton->YJ
open _root_.Nat renaming le_refl->YD,lt_succ_iff_lt_or_eq->YQ
open _root_.Option renaming bind_some->YB
namespace Go.Proofs.YtbladfbbhijpmaaGreat
open Go Go.RowKit
set_option maxRecDepth 100000
set_option linter.unusedSimpArgs false
set_option linter.unusedVariables false
namespace L
def Pl(n:Nat)(v:Int):Prop:=v= -1\/v= -2\/0<=v/\v<(n:Int)
theorem xo(p:List Int)(i:Int)(hl:p.length<=8):Wp (M.cy bm p i) fun r=>r.length<=p.length/\∀x∈r,(0:Int)<=x/\x<(p.length:Int):=by
 unfold M.cy
 refine Wp.count (fun s=>s.1) p.length (fun k s=>s.2.length<=k/\∀x∈s.2,(0:Int)<=x/\x<(p.length:Int)) (by omega) rfl ⟨YD _,fun x h=>by cases h⟩ fun k s hk hs hJ=>?_
 obtain⟨c,l⟩:=s;obtain⟨j1,j2⟩:=hJ;dsimp only at hs j1 j2;subst hs
 refine Wp.dec (fun av=>?_) fun hge=> .some ⟨by dsimp only;omega,j2⟩
 have av:k<p.length:=by dsimp only at av;omega
 dsimp only
 refine Wp.seq (fun j=>j.length<=k+1/\∀x∈j,(0:Int)<=x/\x<(p.length:Int)) ?_ fun j hj=> .some ⟨av,kT (m:=p.length) (by omega) av,hj⟩
 rw[aB av,YB]
 refine Wp.dec (fun _=>?_) fun _=> .some ⟨by omega,j2⟩
 rw[e7 (by simp;omega),YB];refine .some ⟨by simp;omega,fun x hx=>?_⟩
 rcases YL.1 hx with h|h
 .exact j2 x h
 .obtain rfl:x=(k:Int):=by simpa using h
  omega
theorem HR{p q r:List Int}(i:Int)(hl:p.length<=8)(hq:q.length=p.length)(hr:r.length=p.length):Wp (M.cH bm (p,(q,r)) i) fun b=>∀x∈b,(0:Int)<=x/\x<(p.length:Int):=by
 unfold M.cH
 refine Wp.seq _ (xo p i hl) fun y hy=>?_
 obtain⟨y1,y2⟩:=hy
 refine Wp.count (fun s=>s.1) y.length (fun k s=>s.2.length<=k/\∀x∈s.2,(0:Int)<=x/\x<(p.length:Int)) (by omega) rfl ⟨YD _,fun x h=>by cases h⟩ fun k s hk hs hJ=>?_
 obtain⟨c,l⟩:=s;obtain⟨j1,j2⟩:=hJ;dsimp only at hs j1 j2;subst hs
 refine Wp.dec (fun av=>?_) fun hge=> .some j2
 have av:k<y.length:=by dsimp only at av;omega
 dsimp only
 refine Wp.seq (fun j=>j.length<=k+1/\∀x∈j,(0:Int)<=x/\x<(p.length:Int)) ?_ fun j hj=> .some ⟨av,kT (m:=y.length) (by omega) av,hj⟩
 have hv:=y2 _ (YP av);rw[aB av,YB];generalize y[k]=v at hv⊢
 have at_:∀{l:List Int}{u:Int},l.length=p.length->(0:Int)<=u/\u<(p.length:Int)->∃z,idx l u=some z:=fun{l u}h h'=>by
  obtain⟨z,hz,_⟩:=rv (l:=l) (i:=u) h'.1 (by omega);exact⟨z,hz⟩
 obtain⟨z1,e1⟩:=at_ hr hv;obtain⟨z2,e2⟩:=at_ hq hv
 have hd:∀{l:List Int},0<l.length->(∀x∈l,(0:Int)<=x/\x<(p.length:Int))->∃u z,idx l (0:Int)=some u/\idx q u=some z:=fun{l}h h'=>by
  obtain⟨u,hu,hm⟩:=rv (l:=l) (i:=0) (Int.le_refl _) (by omega);obtain⟨z,hz⟩:=at_ hq (h' u hm);exact⟨u,z,hu,hz⟩
 rw[e1,YB]
 refine Wp.dec (fun _=> .some ⟨by omega,j2⟩) fun _=>?_
 refine Wp.seq (fun j=>j.length<=k/\∀x∈j,(0:Int)<=x/\x<(p.length:Int)) ?_ fun l6 h6=>?_
 .refine Wp.seq (fun _=>True) ?_ fun j7 _=>?_
  .refine Wp.dec (fun h=>?_) fun _=> .some trivial
   obtain⟨u,z,hu,hz⟩:=hd (l:=l) (by omega) j2;rw[e2,YB,hu,YB,hz];exact .some trivial
  .refine Wp.ite (fun _=>?_) fun _=> .some ⟨j1,j2⟩
   rw[qe (l:=l) (i:=0) (j:=0) 0 0 rfl rfl (YD _) (Nat.zero_le _),YB];exact .some ⟨by simp,by simp⟩
 .obtain⟨g1,g2⟩:=h6
  refine Wp.seq (fun _=>True) ?_ fun vh _=>?_
  .refine Wp.dec (fun _=> .some trivial) fun h=>?_
   obtain⟨u,z,hu,hz⟩:=hd (l:=l6) (by omega) g2;rw[e2,YB,hu,YB,hz];exact .some trivial
  .refine Wp.ite (fun _=>?_) fun _=> .some ⟨by omega,g2⟩
   rw[e7 (by simp;omega),YB];refine .some ⟨by simp;omega,fun x hx=>?_⟩
   rcases YL.1 hx with h|h
   .exact g2 x h
   .obtain rfl:x=v:=by simpa using h
    exact hv
theorem AJ{p q r:List Int}(i:Int)(hl:p.length<=8)(hq:q.length=p.length)(hr:r.length=p.length)(hp:∀x∈r,Pl p.length x):Wp (M.bf bm (p,(q,r)) i) (Pl p.length):=by
 unfold M.bf
 refine Wp.seq _ (HR i hl hq hr) fun b hb=>?_
 refine Wp.dec (fun _=> .some (.inl rfl)) fun h0=>?_
 refine Wp.dec (fun h1=>?_) fun _=> .some (.inr (.inl rfl))
 obtain⟨u,hu,hm⟩:=rv (l:=b) (i:=0) (Int.le_refl _) (by omega);have:=hb u hm;obtain⟨z,hz,Xu⟩:=rv (l:=r) (i:=u) this.1 (by omega);rw[hu,YB];dsimp only;rw[hz,YB];exact .some (hp z Xu)
theorem xp{α:Type}{l:List α}{i:Int}{y x:α}(h:x∈bg l i y):x∈l\/x=y:=by
 unfold bg at h;exact List.mem_or_eq_of_mem_set h
theorem HS{p q:List Int}{a:List Bool}(hl:p.length<=8)(hq:q.length=p.length)(ha:a.length=p.length):Wp (M.cT bm p q a) fun r=>r.length=p.length/\∀x∈r,Pl p.length x:=by
 unfold M.cT;rw[wp_bind];refine kH.2 ⟨by omega,?_⟩;rw[YK]
 have hw:∀n:Nat,n<=8->YC.wrap ((n:Int)-1)=(n:Int)-1:=fun n h=>eZ (by omega) (by omega)
 refine Wp.loop (fun s=>(∃k:Nat,s.1=(k:Int)-1/\k<=p.length)/\s.2.length=p.length/\∀x∈s.2,Pl p.length x) (fun s=>(s.1+1).toNat) ⟨⟨p.length,hw _ hl,YD _⟩,by simp,fun x hx=>?_⟩ ?_ ?_
 .rw[List.mem_replicate]at hx;exact .inr (.inr ⟨by omega,by omega⟩)
 .dsimp only;rw[hw _ hl];unfold bm;omega
 .rintro⟨c,l⟩ ⟨⟨k,hk,Gq⟩,j1,j2⟩
  dsimp only at hk j1 j2;subst hk
  refine Wp.dec (fun av=>?_) fun hge=> .some ⟨j1,j2⟩
  obtain⟨m,rfl⟩:∃m,k=m+1:=⟨k-1,by dsimp only at av;omega⟩
  have hm:(((m+1:Nat):Int)-1)=(m:Int):=by omega
  rw[hm]
  have Gc:m<p.length:=by omega
  dsimp only
  refine Wp.seq (fun j=>j.length=p.length/\∀x∈j,Pl p.length x) ?_ fun j hj=> .some ⟨⟨⟨m,by rw[hw _ (by omega)],by omega⟩,hj⟩,by dsimp only;rw[hw _ (by omega)];omega⟩
  refine Wp.seq _ (AJ (m:Int) hl hq j1 j2) fun v hv=>?_
  have s1:(bg l (m:Int) v).length=p.length:=by rw[bY];exact j1
  have s2:∀x∈bg l (m:Int) v,Pl p.length x:=fun x hx=>by
   rcases xp hx with h|rfl
   .exact j2 x h
   .exact hv
  rw[aB (show m<l.length by omega),YB]
  refine Wp.seq (fun _=>True) ?_ fun j6 _=>?_
  .rw[aB (show m<(bg l (m:Int) v).length by omega),YB]
   refine Wp.dec (fun _=>?_) fun _=> .some trivial
   rw[aB (show m<a.length by omega),YB];exact .some trivial
  .refine Wp.ite (fun _=>?_) fun _=> .some ⟨s1,s2⟩
   rw[aB (show m<(bg l (m:Int) v).length by omega),YB];refine .some ⟨by rw[bY];exact s1,fun x hx=>?_⟩
   rcases xp hx with h|rfl
   .exact s2 x h
   .exact .inr (.inr ⟨by omega,by omega⟩)
theorem CK(p q:List Int)(a:List Bool)(hp:p.length<=100000):Wp (M.bO bm p q a) (Pl p.length):=by
 unfold M.bO
 have hV:Wp (M.bX bm p q) fun c=>c=0->p.length<=8/\q.length=p.length:=by
  unfold M.bX
  refine Wp.pQ (fun _=> .some fun h=>by cases h) fun h1=>?_
  refine Wp.dec (fun _=> .some fun h=>by cases h) fun h2=>?_
  have hq:q.length=p.length:=by omega
  refine Wp.count (fun s=>s) p.length (fun _ _=>True) (by omega) rfl trivial fun k s hk hs _=>?_
  obtain rfl:s=_:=hs
  refine Wp.dec (fun av=>?_) fun hge=> .some fun _=>⟨by omega,hq⟩
  have av:k<p.length:=by omega
  rw[aB av,YB]
  refine Wp.seq (fun _=>True) (Wp.dec (fun _=> .some trivial) fun _=> .some trivial) fun j3 _=>?_
  refine Wp.ite (fun _=> .some fun h=>by cases h) fun _=>?_
  refine Wp.seq (fun _=>True) ?_ fun j4 _=>?_
  .rw[aB (show k<q.length by omega),YB]
   exact Wp.dec (fun _=> .some trivial) fun _=> .some trivial
  .exact Wp.ite (fun _=> .some fun h=>by cases h) fun _=> .some ⟨av,kT (m:=p.length) (by omega) av,trivial⟩
 refine Wp.seq (fun j=>j=false->p.length<=8/\q.length=p.length/\a.length=p.length) ?_ fun j hj=>?_
 .refine Wp.seq _ hV fun c hc=>?_
  refine Wp.pQ (fun _=> .some fun h=>by cases h) fun h=> .some fun g=>?_
  obtain⟨h1,h2⟩:=hc h;refine⟨h1,h2,?_⟩
  have:(a.length:Int)=(p.length:Int):=by simpa using g
  omega
 .cases j with
  |true=>rw[if_pos rfl];exact .some (.inl rfl)
  |false=>
   obtain⟨h1,h2,h3⟩:=hj rfl;rw[if_neg (by decide)]
   refine Wp.seq _ (HS h1 h2 h3) fun r hr=>?_
   rw[wp_bind]
   exact(AJ (-1) h1 h2 hr.1 hr.2).mono fun y hy=> .some hy
abbrev pE:Type:=List aa.den
theorem FT(a b:pE)(hl:a.length<=100000):M.aU bm a b=some (decide (a=b)):=by
 unfold M.aU;refine Wp.eq (Wp.pQ (fun h=> .some ?_) fun h=>?_)
 .exact(decide_eq_false fun e=>h (by rw[e])).symm
 .have h:a.length=b.length:=by omega
  refine Wp.count (fun s=>s) a.length (fun k _=>∀i,∀h1:i<a.length,∀h2:i<b.length,i<k->a[i]=b[i]) (by omega) rfl (fun i _ _ hi=>absurd hi (by omega)) fun k s hk hs hJ=>?_
  subst hs;refine .dec (fun av=>?_) (fun hge=> .some ?_)
  .have av:k<a.length:=by omega
   refine .bind (.idx k rfl av (.bind (.idx k rfl (by omega) (.ite (fun h1=> .some ?_) (fun h1=> .some ⟨av,aD (by omega),fun i qp rJ hi=>?_⟩)))))
   .have h1:ki aa a[k] (b[k]'(by omega))=false:=by simpa using h1
    have h1:=og.1 h1;exact(decide_eq_false fun e=>h1 (by simp only[e])).symm
   .rcases YQ.1 hi with hi|rfl
    .exact hJ i qp rJ hi
    .exact pX.1 (by simpa using h1)
  .have:k=a.length:=by omega
   subst this;exact(decide_eq_true (List.ext_getElem h fun i h1 h2=>hJ i h1 h2 h1)).symm
theorem HT(a b:pE)(hl:a.length<=100000):M.na bm a b=some (decide (a=b)):=by
 unfold M.na;refine Wp.eq (Wp.pQ (fun h=> .some ?_) fun h=>?_)
 .exact(decide_eq_false fun e=>h (by rw[e])).symm
 .have h:a.length=b.length:=by omega
  refine Wp.count (fun s=>s) a.length (fun k _=>∀i,∀h1:i<a.length,∀h2:i<b.length,i<k->a[i]=b[i]) (by omega) rfl (fun i _ _ hi=>absurd hi (by omega)) fun k s hk hs hJ=>?_
  subst hs
  refine Wp.seq (fun j=>j=decide (k<a.length)) (.dec (fun h1=> .some ?_) (fun h1=> .some ?_)) fun j hj=>?_
  .exact decide_eq_decide.2 (by omega)
  .exact(decide_eq_false (by omega)).symm
  .subst hj;refine .dec (fun av=>?_) (fun hge=> .some ?_)
   .refine .bind (.idx k rfl av (.bind (.idx k rfl (by omega) (.ite (fun h1=> .some ?_) (fun h1=> .some ⟨av,aD (by omega),fun i qp rJ hi=>?_⟩)))))
    .have h1:ki aa a[k] (b[k]'(by omega))=false:=by simpa using h1
     have h1:=og.1 h1;exact(decide_eq_false fun e=>h1 (by simp only[e])).symm
    .rcases YQ.1 hi with hi|rfl
     .exact hJ i qp rJ hi
     .exact pX.1 (by simpa using h1)
   .have:k=a.length:=by omega
    subst this;exact(decide_eq_true (List.ext_getElem h fun i h1 h2=>hJ i h1 h2 h1)).symm
def dP(g:pE)(C:List pE):Int:=r7 (fun x=>decide (x=g)) C
theorem CL(C:List pE)(g:pE)(hC:C.length<=100000)(hl:∀x∈C,x.length<=100000):M.cS bm C g=some (dP g C):=by
 unfold M.cS dP;refine uR (by unfold maxLen;omega) (fun k h=>?_) ?_
 .rw[uO h,if_pos rfl,aB h,YB,FT _ _ (hl _ (YP h)),YB]
 .simp only[rk,decide_false,YW,if_false]
theorem xq(C:List pE)(g:pE)(hC:C.length<=100000)(hl:∀x∈C,x.length<=100000):M.kF bm C g=some (dP g C):=by
 unfold M.kF dP;refine uR (by unfold maxLen;omega) (fun k h=>?_) ?_
 .rw[uO h,if_pos rfl,aB h,YB,HT _ _ (hl _ (YP h)),YB]
 .simp only[rk,decide_false,YW,if_false]
theorem rC{g:pE}{C X:List pE}(h:0<=dP g C):dP g (C++X)=dP g C:=by
 obtain⟨x,hx,hp⟩:=lG.1 h;unfold dP r7;have h1:C.findIdx (fun x=>decide (x=g))<C.length:=List.findIdx_lt_length.2 ⟨x,hx,hp⟩;rw[List.findIdx_append,if_pos h1,if_pos h1,if_pos (by simp;omega)]
theorem rD{g:pE}{C:List pE}(h:¬0<=dP g C):dP g (C++[g])=(C.length:Int):=by
 refine uQ (by simp) (by simp) fun j hj Gf=>?_
 rw[List.getElem_append_left hj]
 exact decide_eq_false fun e=>h (lG.2 ⟨_,YP hj,by rw[e];simp⟩)
def gd(rules:List gx)(i:Nat):pE:=match rules[i]? with
 |some r=>r.2.2.2.2.2.1
 |none=>[]
def cK(rules:List gx)(s:List pE×List Int)(i:Nat):List pE×List Int:=if(gd rules i).length=0 then s else if 0<=dP (gd rules i) s.1 then s else(s.1++[gd rules i],s.2++[(i:Int)])
def fe(rules:List gx)(C:List pE)(i:Nat):Int:=if(gd rules i).length=0 then-1 else dP (gd rules i) C
theorem pb(rules:List gx)(T:List Nat):∀s:List pE×List Int,∃X,(T.foldl (cK rules) s).1=s.1++X/\(T.foldl (cK rules) s).1.length<=s.1.length+T.length:=by
 induction T with
 |nil=>exact fun s=>⟨[],by simp,by simp⟩
 |cons i T ih=>
  intro s;obtain⟨X,hX,hl⟩:=ih (cK rules s i)
  have:∃Y,(cK rules s i).1=s.1++Y/\Y.length<=1:=by
   unfold cK;split
   .exact⟨[],by simp,by simp⟩
   .split
    .exact⟨[],by simp,by simp⟩
    .exact⟨[gd rules i],rfl,by simp⟩
  obtain⟨Y,hY,Ys⟩:=this;rw[ZG];refine⟨Y++X,by rw[hX,hY,Y2],?_⟩;rw[hY]at hl;simp only[YV,YT]at hl⊢;omega
theorem tH(rules:List gx)(s:List pE×List Int)(i:Nat)(h:(gd rules i).length≠0):0<=dP (gd rules i) (cK rules s i).1:=by
 unfold cK;rw[if_neg h];split
 .assumption
 .rename_i g
  show 0<=dP _ (s.1++[_])
  rw[rD g];omega
theorem zB(rules:List gx)(s:List pE×List Int)(T:List Nat)(i:Nat)(h:(gd rules i).length≠0->0<=dP (gd rules i) s.1):fe rules (T.foldl (cK rules) s).1 i=fe rules s.1 i:=by
 unfold fe;by_cases g:(gd rules i).length=0
 .rw[if_pos g,if_pos g]
 .rw[if_neg g,if_neg g];obtain⟨X,hX,_⟩:=pb rules T s;rw[hX,rC (h g)]
theorem tI(rules:List gx)(T:List Nat):∀s:List pE×List Int,∀i∈T,(gd rules i).length≠0->0<=dP (gd rules i) (T.foldl (cK rules) s).1:=by
 induction T with
 |nil=>intro s i hi;simp at hi
 |cons j T ih=>
  intro s i hi h;rw[ZG]
  rcases YM.1 hi with rfl|hi
  .obtain⟨X,hX,_⟩:=pb rules T (cK rules s i);rw[hX,rC (tH rules s i h)];exact tH rules s i h
  .exact ih _ i hi h
theorem CM(rules:List gx)(T:List Nat):∀s:List pE×List Int,∀x∈(T.foldl (cK rules) s).1,x∈s.1\/∃i,x=gd rules i:=by
 induction T with
 |nil=>exact fun s x hx=> .inl hx
 |cons j T ih=>
  intro s x hx;rw[ZG]at hx
  rcases ih _ x hx with h|h
  .unfold cK at h;split at h
   .exact .inl h
   .split at h
    .exact .inl h
    .rcases YL.1 h with h|h
     .exact .inl h
     .exact .inr ⟨j,YJ.1 h⟩
  .exact .inr h
end L
end Go.Proofs.YtbladfbbhijpmaaGreat
end
section
open _root_.Int renaming eq_ofNat_of_zero_le->YN,toNat_natCast->YK
open _root_.Go.IntKind renaming i64->YC
open _root_.List renaming append_assoc->Y2,getElem?_eq_getElem->YF,length_append->YV,length_cons->YT,length_map->ZI,map_append->ZH,mem_filter->Za,mem_range->Y5,range->YI,replicate->Y4,take_append_getElem->Y1,take_length->YS
open _root_.Nat renaming le_refl->YD,le_trans->Y3
open _root_.Option renaming bind_some->YB
namespace Go.Proofs.YtbladfbbhijpmaaGreat
open Go Go.RowKit
set_option maxRecDepth 100000
set_option linter.unusedSimpArgs false
set_option linter.unusedVariables false
namespace L
def bt(c b:Int):Bool:=decide (al .and .i64 (bQ .i64 c b) 1=1)
def flag(c b:Int):Bool:=if b<0 then true else bt c b
theorem FU{c b:Int}(h:0<=b):Bf .i64 c b=some (bQ .i64 c b):=by unfold Bf;rw[if_neg (by omega)]
noncomputable def xr(p q:List Int)(a:List Bool):Int:=(M.bO bm p q a).getD 0
theorem rE(p q:List Int)(a:List Bool)(hp:p.length<=100000):M.bO bm p q a=some (xr p q a)/\Pl p.length (xr p q a):=(CK p q a hp).getD 0
def IH(T:List Int)(s:Int):Int:=if 0<=s then(T[s.toNat]?).getD 0 else s
noncomputable def oc(T p q B:List Int)(c:Int):Int:=IH T (xr p q (B.map (flag c)))
theorem vf{T:List Int}{s:Int}(h0:0<=s)(h1:s<(T.length:Int)):idx T s=some (IH T s):=by
 obtain⟨k,rfl⟩:=YN h0
 have hk:k<T.length:=by omega
 rw[aB hk];unfold IH;rw[if_pos h0,YK,YF hk];rfl
theorem CN{T p q B:List Int}{n:Nat}(hn:n<=8)(hT:T.length<=100000)(hp:p.length=T.length)(hB:B.length=T.length):M.bx bm T p q B (n:Int)=some ((YI (2 ^ n)).map fun c:Nat=>oc T p q B (c:Int)):=by
 have h8:=nl hn;unfold M.bx;rw[gF (by omega),YB]
 have No:((2 ^ n:Nat):Int)<=4294967296:=by have:((2 ^ n:Nat):Int)<=256:=by exact_mod_cast h8
                                           exact Int.le_trans this (by decide)
 refine Wp.eq (.bind (kH.2 ⟨⟨Int.natCast_nonneg _,No⟩, .bind (kH.2 ⟨by omega,?_⟩)⟩));rw[YK,YK];generalize hK:2 ^ n=K at*
 have nI:∀{α:Type}(m:Nat)(z:α),Y4 m z=(YI m).map fun _=>z:=fun m z=>by
  apply List.ext_getElem (by simp);intro i h1 h2;simp
 refine Wp.count (fun s=>s.1) K (fun c s=>s.2.1=((YI K).map fun j:Nat=>if j<c then oc T p q B (j:Int)else 0)/\s.2.2.length=T.length) (by omega) rfl ⟨by rw[nI];simp,by simp⟩ fun c s hc hs hJ=>?_
 obtain⟨cc,out,fl⟩:=s;obtain⟨rfl,KI⟩:=hJ;dsimp only at hs KI⊢;subst hs;rw[List.length_replicate];refine .dec (fun h=>?_) (fun h=> .some ?_)
 .have av:c<K:=by omega
  refine Wp.seq (fun s=>s.1=((YI K).map fun j:Nat=>if j<c+1 then oc T p q B (j:Int)else 0)/\s.2.length=T.length) ?_ fun j hj=> .some ⟨av,aD (by omega),hj⟩
  refine Wp.seq (fun s=>s.1=((YI K).map fun j:Nat=>if j<c+1 then oc T p q B (j:Int)else 0)/\s.2.length=T.length) ?_ fun j hj=> .some hj
  refine Wp.seq (fun f=>f=B.map (flag (c:Int))) ?_ fun f hf=>?_
  .refine Wp.count (fun s=>s.1) B.length (fun k s=>s.2.length=B.length/\∀i,∀h:i<s.2.length,∀h2:i<B.length,i<k->s.2[i]=flag (c:Int) B[i]) (by omega) rfl ⟨by rw[KI,hB],fun i _ _ hi=>absurd hi (by omega)⟩ fun k s hk hs hJ=>?_
   obtain⟨kk,f⟩:=s;obtain⟨g1,g2⟩:=hJ;dsimp only at hs g1 g2⊢;subst hs;refine .dec (fun h=>?_) (fun h=> .some ?_)
   .have Gq:k<B.length:=by omega
    have kc:∀v:Bool,v=flag (c:Int) B[k]->(bg f (k:Int) v).length=B.length/\∀i,∀h:i<(bg f (k:Int) v).length,∀h2:i<B.length,i<k+1->(bg f (k:Int) v)[i]=flag (c:Int) B[i]:=fun v hv=>by
     refine⟨by rw[bY];exact g1,fun i h h2 hi=>?_⟩;simp only[bg,YK,List.getElem_set];by_cases e:k=i
     .subst e;rw[if_pos rfl,hv]
     .rw[if_neg e];exact g2 i (by omega) h2 (by omega)
    refine Wp.seq (fun s=>s.length=B.length/\∀i,∀h:i<s.length,∀h2:i<B.length,i<k+1->s[i]=flag (c:Int) B[i]) (.bind (.idx k rfl Gq ?_)) fun j hj=> .some ⟨Gq,aD (by omega),hj⟩
    refine .dec (fun h=> .bind (.idx k rfl (by omega) (.some (kc _ ?_)))) (fun h=> .ba (FU (by omega)) (.bind (.idx k rfl (by omega) (.some (kc _ ?_)))))
    .unfold flag;rw[if_pos h]
    .unfold flag;rw[if_neg h];rfl
   .have:k=B.length:=by omega
    subst this
    refine List.ext_getElem (by rw[g1,ZI]) fun i h1 h2=>?_
    have rJ:i<B.length:=by simpa using h2
    rw[g2 i h1 rJ rJ,List.getElem_map]
  .subst hf;obtain⟨hs,hr⟩:=rE p q (B.map (flag (c:Int))) (by omega);refine .ba hs ?_
   have kc:∀v:Int,v=oc T p q B (c:Int)->bg ((YI K).map fun j:Nat=>if j<c then oc T p q B (j:Int)else 0) (c:Int) v=((YI K).map fun j:Nat=>if j<c+1 then oc T p q B (j:Int)else 0):=fun v hv=>by
    unfold bg;rw[YK,gD]
    refine List.map_congr_left fun y hy=>?_
    by_cases e:y=c
    .subst e;rw[if_pos rfl,if_pos (by omega),hv]
    .rw[if_neg e];by_cases g:y<c
     .rw[if_pos g,if_pos (by omega)]
     .rw[if_neg g,if_neg (by omega)]
   have CO:oc T p q B (c:Int)=IH T (xr p q (B.map (flag (c:Int)))):=rfl;generalize xr p q (B.map (flag (c:Int)))=v at hr CO⊢;unfold Pl at hr
   refine Wp.seq (fun j=>j=true↔0<=v) (.dec (fun h=> .some ?_) (fun h=> .some ⟨fun h=>(by cases h),fun g=>absurd g h⟩)) fun j hj=> .ite (fun h=>?_) (fun h=>?_)
   .rw[decide_eq_true_eq];exact⟨fun _=>h,fun _=>by omega⟩
   .have hv:=hj.1 h;refine .ba (vf hv (by omega)) (.bind (u5 av (.some ⟨kc _ CO.symm,by rw[ZI];omega⟩)))
   .have hv:¬0<=v:=fun g=>h (hj.2 g)
    refine .bind (u5 av (.some ⟨kc _ (by rw[CO];unfold IH;rw[if_neg hv]),by rw[ZI];omega⟩))
 .have:c=K:=by omega
  subst this
  refine List.map_congr_left fun y hy=>?_
  rw[if_pos (Y5.1 hy)]
noncomputable def mn(l:List Int)(n:Nat):List (Int×Int):=CF (xG (n:Int)) (fun x=>(x:Int)∈l) (cP l)
theorem nr{k:Nat}{mem:Nat->Bool}:∀{l:List (Nat×Nat)}{cov:Nat->Bool},(dO k mem cov l).length<=l.length
 |[],_=>YD _
 |p::l,cov=>by
  rw[jt];split
  .have:=nr (k:=k) (mem:=mem) (l:=l) (cov:=fun x=>cov x||decide (x&&& p.1=p.2));simp only[YT];omega
  .have:=nr (k:=k) (mem:=mem) (l:=l) (cov:=cov);simp only[YT];omega
theorem zC(l:List Int)(n:Nat):(mn l n).length<=65536:=by
 have hn:=rr (n:Int);have h8:=nl hn;unfold mn CF;refine Y3 nr ?_;generalize xG (n:Int)=n at*
 have:=mo (A:=((Pt n).filter (r9 n fun x=>(x:Int)∈l)).map fun p=>p.1*256+p.2) (B:=YI 65536) ?_ fun x hx=>?_
 .simpa using this
 .rw[List.Nodup,List.pairwise_map];refine List.Pairwise.imp_of_mem (fun{p q}hp hq av e=>?_) ((o7 n).filter _);have h1:=(lK hn).1 (Za.1 hp).1;have h2:=(lK hn).1 (Za.1 hq).1
  have h3:p.2<=p.1:=by rw[<-h1.2];exact Nat.and_le_right
  have h4:q.2<=q.1:=by rw[<-h2.2];exact Nat.and_le_right
  have h5:p.1=q.1/\p.2=q.2:=by omega
  rw[h5.1,h5.2]at av;exact k0.irrefl _ av
 .obtain⟨p,hp,rfl⟩:=List.mem_map.1 hx;have h1:=(lK hn).1 (Za.1 hp).1
  have h3:p.2<=p.1:=by rw[<-h1.2];exact Nat.and_le_right
  exact Y5.2 (by omega)
def qg(O:List Int)(v:Int):List Int:=ids (fun k=>decide (O[k]? =some v)) O.length
noncomputable def dg(O:List Int)(n:Nat)(v:Int):List o8:=if(qg O v).length=0 then[]else(mn (qg O v) n).map fun p=>(p,v)
theorem rF(O:List Int)(n:Nat)(v:Int):(dg O n v).length<=65536:=by
 unfold dg;split
 .simp
 .rw[ZI];exact zC _ _
theorem CP{O T:List Int}{n:Nat}(hO:O.length<=100000)(hT:T.length<=1000):M.dL bm O T (n:Int)=some (([-2,-1]++T).flatMap (dg O n)):=by
 unfold M.dL;refine Wp.eq (.bind (.px (by simp;omega) ?_))
 have hL:([(-2:Int),-1]++T).length<=1002:=by simp;omega
 generalize([(-2:Int),-1]++T)=L at hL⊢
 refine Wp.count (fun s=>s.1) L.length (fun k s=>s.2=(L.take k).flatMap (dg O n)/\s.2.length<=k*65536) (by omega) rfl ⟨rfl,YD _⟩ fun k s hk hs hJ=>?_
 obtain⟨kk,acc⟩:=s;obtain⟨g1,g2⟩:=hJ;dsimp only at hs g1 g2⊢;subst hs;refine .dec (fun h=>?_) (fun h=> .some ?_)
 .have av:k<L.length:=by omega
  have cI:(L.take (k+1)).flatMap (dg O n)=(L.take k).flatMap (dg O n)++dg O n L[k]:=by
   rw[<-Y1 av,List.flatMap_append];simp
  have Nl:=rF O n L[k]
  refine Wp.seq (fun s=>s=acc++dg O n L[k]) ?_ fun j hj=> .some ⟨av,aD (by omega),by rw[cI,<-g1];exact hj,by show j.length<=_;rw[hj,YV];omega⟩
  refine Wp.seq (fun s=>s=acc++dg O n L[k]) (.bind (.idx k rfl av ?_)) fun j hj=> .some hj
  refine Wp.seq (fun j=>j=qg O L[k]) ?_ fun j hj=>?_
  .refine Wp.count (fun s=>s.1) O.length (fun i s=>s.2=ids (fun z=>decide (O[z]? =some L[k])) i) (by omega) rfl rfl fun i s hi hs hJ=>?_
   obtain⟨ii,l⟩:=s;dsimp only at hs hJ⊢;subst hs hJ;refine .dec (fun h=>?_) (fun h=> .some ?_)
   .have tJ:i<O.length:=by omega
    have hl:=kL (fun z=>decide (O[z]? =some L[k])) i
    refine Wp.seq (fun s=>s=ids (fun z=>decide (O[z]? =some L[k])) (i+1)) (.bind (.idx i rfl tJ ?_)) fun j hj=> .some ⟨tJ,aD (by omega),hj⟩
    rw[iU,YF tJ];refine .dec (fun h=> .bind (.px (by simp;omega) (.some ?_))) (fun h=> .some ?_)
    .rw[if_pos (by simp[h])]
    .rw[if_neg (by simpa using h),List.append_nil]
   .have:i=O.length:=by omega
    subst this;rfl
  .subst hj;have Ge:=kL (fun z=>decide (O[z]? =some L[k])) O.length;refine .dec (fun h=> .some ?_) (fun h=> .ba (FB (l:=qg O L[k]) (by unfold qg;omega) (n:Int)) ?_)
   .have:(qg O L[k]).length=0:=by exact_mod_cast h
    unfold dg;rw[if_pos this,List.append_nil]
   .have b8:¬(qg O L[k]).length=0:=fun g=>h (by rw[g];rfl)
    have hr:dg O n L[k]=(mn (qg O L[k]) n).map fun p=>(p,L[k]):=by unfold dg;rw[if_neg b8]
    have Gc:=zC (qg O L[k]) n;rw[hr]
    show Wp (Loop _ bm _) _
    change Wp (Loop (S:=Int×List ai.den) (X:=List ai.den) (fun EV=>
     (if(decide (EV.1<((mn (qg O L[k]) n).length:Int)))=true then
     (idx (mn (qg O L[k]) n) EV.1).bind fun r4=>
     (bZ EV.2 ([(r4,L[k])]:List ai.den)).bind fun MT=>
     some (Sum.inl (YC.wrap (EV.1+(1:Int)),MT))
     else
     some (Sum.inr EV.2))) bm ((0:Int),acc)) _
    generalize mn (qg O L[k]) n=ps at Gc⊢
    refine Wp.count (fun s=>s.1) ps.length (fun i s=>s.2=acc++(ps.take i).map fun p=>(p,L[k])) (by omega) rfl (by simp) fun i s hi hs hJ=>?_
    obtain⟨ii,l⟩:=s;dsimp only at hs hJ⊢;subst hs hJ;refine .dec (fun h=>?_) (fun h=> .some ?_)
    .have tJ:i<ps.length:=by omega
     refine .bind (.idx i rfl tJ (.bind (.px (by simp;omega) (.some ⟨tJ,aD (by omega),?_⟩))))
     show _=acc++(ps.take (i+1)).map _
     rw[<-Y1 tJ,ZH,Y2];rfl
    .have:i=ps.length:=by omega
     subst this
     show acc++_=_
     rw[YS]
 .have:k=L.length:=by omega
  subst this;rw[YS]at g1;exact g1
end L
end Go.Proofs.YtbladfbbhijpmaaGreat
end
section
open _root_.Int renaming toNat_natCast->YK
open _root_.List renaming foldl_cons->ZG,getElem?_eq_getElem->YF,getElem_mem->YP,length_cons->YT,length_map->ZI,length_take->Zw,mem_filter->Za,mem_range->Y5,range->YI,take_append_getElem->Y1,take_length->YS
open _root_.Option renaming bind_some->YB
namespace Go.Proofs.YtbladfbbhijpmaaGreat
open Go Go.RowKit
set_option maxRecDepth 100000
set_option linter.unusedSimpArgs false
set_option linter.unusedVariables false
namespace L
def TN(rules:List gx)(a d:Int):List Nat:=eR (kp rules (u9 a d)) rules.length
def CS(rules:List gx)(a d:Int):List pE×List Int:=(TN rules a d).foldl (cK rules) ([],[])
def BB(rules:List gx)(a d:Int):List Int:=(TN rules a d).map (fe rules (CS rules a d).1)
noncomputable def OO(rules:List gx)(a d:Int):List Int:=(YI (2 ^ (CS rules a d).1.length)).map fun c:Nat=>oc (fi rules a d) (fc rules a d) (gV rules a d) (BB rules a d) (c:Int)
noncomputable def RR(rules:List gx)(a d:Int):List o8:=([-2,-1]++fi rules a d).flatMap (dg (OO rules a d) (CS rules a d).1.length)
theorem FV{rules:List gx}{a d:Int}:∀i∈TN rules a d,i<rules.length:=fun i hi=>Y5.1 (Za.1 hi).1
theorem od(rules:List gx)(a d:Int):fi rules a d=(TN rules a d).map fun i:Nat=>(i:Int):=rfl
structure Fit(rules:List gx)(a d:Int):Prop where
 len:rules.length<=60
 g:∀r∈rules,r.2.2.2.2.2.1.length<=100000
 t8:(TN rules a d).length<=8
theorem Fit.gd{rules:List gx}{a d:Int}(h:Fit rules a d)(i:Nat):(gd rules i).length<=100000:=by
 unfold L.gd
 cases e:rules[i]? with
 |none=>simp
 |some r=>exact h.g r (List.mem_of_getElem? e)
theorem Fit.conds{rules:List gx}{a d:Int}(h:Fit rules a d)(T:List Nat):∀x∈(T.foldl (cK rules) ([],[])).1,x.length<=100000:=fun x hx=>by
 rcases CM rules T _ x hx with g|⟨i,rfl⟩
 .simp at g
 .exact h.gd i
theorem Fit.Kq{rules:List gx}{a d:Int}(h:Fit rules a d)(k:Nat):(((TN rules a d).take k).foldl (cK rules) ([],[])).1.length<=8:=by
 obtain⟨_,_,hl⟩:=pb rules ((TN rules a d).take k) ([],[]);have:=h.t8;simp only[List.length_nil,Zw]at hl;omega
theorem Fit.n8{rules:List gx}{a d:Int}(h:Fit rules a d):(CS rules a d).1.length<=8:=by
 have:=h.Kq (TN rules a d).length;rw[YS]at this;exact this
theorem AK(rules:List gx)(T:List Nat):∀s:List pE×List Int,(T.foldl (cK rules) s).2.length<=s.2.length+T.length:=by
 induction T with
 |nil=>intro s;simp
 |cons i T ih=>
  intro s;rw[ZG];have h1:=ih (cK rules s i)
  have h2:(cK rules s i).2.length<=s.2.length+1:=by
   unfold cK;split
   .omega
   .split
    .omega
    .simp
  simp only[YT];omega
theorem FW(x:pE)(hl:x.length<=100000):M.aV bm x=some x:=by
 unfold M.aV;rw[e7 (by simp;omega)];simp only[List.nil_append,YB]
 cases x with
 |nil=>show wv _ _=_;unfold wv;rw[if_pos rfl]
 |cons a x=>rfl
theorem fold_succ{rules:List gx}{T:List Nat}{k:Nat}(h:k<T.length)(s:List pE×List Int):(T.take (k+1)).foldl (cK rules) s=cK rules ((T.take k).foldl (cK rules) s) T[k]:=by
 rw[<-Y1 h,List.foldl_append];rfl
theorem FX{rules:List gx}{i:Nat}(h:i<rules.length):gd rules i=rules[i].2.2.2.2.2.1:=by unfold gd;rw[YF h]
theorem HU{rules:List gx}{a d:Int}(h:Fit rules a d):M.bx bm (fi rules a d) (fc rules a d) (gV rules a d) (BB rules a d) ((CS rules a d).1.length:Int)=some (OO rules a d):=by
 have hl:(fi rules a d).length=(TN rules a d).length:=by rw[od];simp
 exact CN h.n8 (by have:=h.t8;omega) (by rw[hl];unfold fc TN;simp) (by rw[hl];unfold BB;simp)
theorem Nv{rules:List gx}{a d:Int}(h:Fit rules a d):M.dL bm (OO rules a d) (fi rules a d) ((CS rules a d).1.length:Int)=some (RR rules a d):=by
 have hl:(fi rules a d).length=(TN rules a d).length:=by rw[od];simp
 have h8:=nl h.n8;exact CP (by unfold OO;simp;omega) (by have:=h.t8;omega)
theorem CQ{l:Lw}{x:kf}{a1 a2 a3:Int}(hv:M.iw bm l=some ((0:Int),((0:Int),((0:Int),(0:Int)))))(h1:0<=a1)(qp:a1<(l.2.2.length:Int))(hx:idx l.2.2 a1=some x)(h2:0<=a2)(rJ:a2<(x.2.2.2.1.length:Int))(h3:0<=a3)(Tq:a3<=109572)
 (hf:Fit x.2.2.2.2 a2 a3):M.eN bm l a1 a2 a3=some (a2,(0:Int),(CS x.2.2.2.2 a2 a3).1,(CS x.2.2.2.2 a2 a3).2,RR x.2.2.2.2 a2 a3):=by
 unfold M.eN;rw[hv,YB];refine Wp.eq (.ite (fun h=>?_) fun _=>?_)
 .rw[pX.2 rfl]at h;cases h
 refine Wp.seq (fun j=>j=false) (.dec (fun h=>absurd h1 (by omega)) fun _=> .some (decide_eq_false (by omega))) fun j hj=>?_
 subst hj
 refine .ite (fun h=>(by cases h)) fun _=> .ba hx ?_
 refine Wp.seq (fun j=>j=false) (.dec (fun h=>absurd h2 (by omega)) fun _=> .some (decide_eq_false (by omega))) fun j hj=>?_
 subst hj
 refine .ite (fun h=>(by cases h)) fun _=>?_
 refine Wp.seq (fun j=>j=false) (.dec (fun h=>absurd h3 (by omega)) fun _=> .some (decide_eq_false (by omega))) fun j hj=>?_
 subst hj
 refine .ite (fun h=>(by cases h)) fun _=> .ba (CJ x a2 a3 (by have:=hf.len;omega)) ?_
 have Oc:=FV (rules:=x.2.2.2.2) (a:=a2) (d:=a3);have Kr:=HU hf;have Nw:=Nv hf;have KS:CS x.2.2.2.2 a2 a3=(TN x.2.2.2.2 a2 a3).foldl (cK x.2.2.2.2) ([],[]):=rfl;have R8:BB x.2.2.2.2 a2 a3=(TN x.2.2.2.2 a2 a3).map (fe x.2.2.2.2 (CS x.2.2.2.2 a2 a3).1):=rfl;have CR:=od x.2.2.2.2 a2 a3
 have tJ:(fi x.2.2.2.2 a2 a3).length=(TN x.2.2.2.2 a2 a3).length:=by rw[CR];simp
 have Gh:=hf.Kq;have Gw:=hf.conds;have Jv:=hf.gd;have Xv:=hf.t8;have Nl:=hf.len;generalize x.2.2.2.2=rules at*;dsimp only;refine .bind (kH.2 ⟨by omega,?_⟩);rw[tJ]
 refine Wp.seq (fun j=>j=(a2,BB rules a2 a3,(CS rules a2 a3).1,(CS rules a2 a3).2)) ?_ fun j hj=>?_
 .refine Wp.count (fun s=>s.1) (TN rules a2 a3).length (fun k s=>s.2.1=a2/\(s.2.2.2.1,s.2.2.2.2)=((TN rules a2 a3).take k).foldl (cK rules) ([],[])/\s.2.2.1.length=(TN rules a2 a3).length/\∀i,∀h:i<s.2.2.1.length,∀h2:i<(TN rules a2 a3).length,i<k->s.2.2.1[i]=fe rules s.2.2.2.1 (TN rules a2 a3)[i]) (by omega) rfl ⟨rfl,rfl,by simp,fun i _ _ hi=>absurd hi (by omega)⟩ fun k s hk hs hJ=>?_
  obtain⟨kk,a',bits,C,O⟩:=s;obtain⟨g1,g2,g3,g4⟩:=hJ;dsimp only at hs g1 g2 g3 g4⊢;subst hs g1;refine .dec (fun h=>?_) (fun h=> .some ?_)
  .have av:k<(TN rules a' a3).length:=by omega
   have hb:=Oc _ (YP av)
   have vg:idx (fi rules a' a3) (k:Int)=some (((TN rules a' a3)[k]:Nat):Int):=by rw[CR,aB (by simpa using av)];simp
   have Nx:C.length<=8:=by have:=Gh k;rw[<-g2]at this;exact this
   have Ny:O.length<=8:=by have:=AK rules ((TN rules a' a3).take k) ([],[]);rw[<-g2]at this;simp only[List.length_nil,Zw]at this;omega
   have R9:∀y∈C,y.length<=100000:=fun y hy=>Gw ((TN rules a' a3).take k) y (by rw[<-g2];exact hy)
   have di:=tI rules ((TN rules a' a3).take k) ([],[]);rw[<-g2]at di
   have cI:∀(s':List pE×List Int)(v:Int),s'=cK rules (C,O) (TN rules a' a3)[k]->v=fe rules s'.1 (TN rules a' a3)[k]->∀rG:List Int,rG.length=bits.length->(∀i,∀h:i<rG.length,∀h2:i<bits.length,rG[i]=if k=i then v else bits[i])->
    (a'=a'/\(s'.1,s'.2)=((TN rules a' a3).take (k+1)).foldl (cK rules) ([],[])/\rG.length=(TN rules a' a3).length/\∀i,∀h:i<rG.length,∀h2:i<(TN rules a' a3).length,i<k+1->rG[i]=fe rules s'.1 (TN rules a' a3)[i]):=fun s' v AD cQ rG Yt Xw=>by
    refine⟨rfl,by rw[fold_succ av,<-g2,<-AD],by omega,fun i h h2 hi=>?_⟩;rw[Xw i h (by omega)];by_cases e:k=i
    .subst e;rw[if_pos rfl];exact cQ
    .rw[if_neg e,g4 i (by omega) h2 (by omega),AD]
     have:=zB rules (C,O) [(TN rules a' a3)[k]] (TN rules a' a3)[i] fun b8=>di _ (List.mem_take_iff_getElem.2 ⟨i,by omega,rfl⟩) b8
     exact this.symm
   have II:∀v:Int,(bg bits (k:Int) v).length=bits.length/\∀i,∀h:i<(bg bits (k:Int) v).length,∀h2:i<bits.length,(bg bits (k:Int) v)[i]=if k=i then v else bits[i]:=fun v=>⟨bY _ _ _,fun i h h2=>by simp only[bg,YK,List.getElem_set]⟩
   have IJ:∀v w:Int,(bg (bg bits (k:Int) w) (k:Int) v).length=bits.length/\∀i,∀h:i<(bg (bg bits (k:Int) w) (k:Int) v).length,∀h2:i<bits.length,(bg (bg bits (k:Int) w) (k:Int) v)[i]=if k=i then v else bits[i]:=fun v w=>⟨by rw[bY,bY],fun i h h2=>by
    simp only[bg,YK,List.getElem_set];by_cases e:k=i
    .rw[if_pos e,if_pos e]
    .rw[if_neg e,if_neg e,if_neg e]⟩
   refine Wp.seq (fun j=>j.1=a'/\(j.2.2.1,j.2.2.2)=((TN rules a' a3).take (k+1)).foldl (cK rules) ([],[])/\j.2.1.length=(TN rules a' a3).length/\∀i,∀h:i<j.2.1.length,∀h2:i<(TN rules a' a3).length,i<k+1->j.2.1[i]=fe rules j.2.2.1 (TN rules a' a3)[i]) (.ba vg (.bind (.idx k rfl (by omega) (.ba (aB hb) ?_)))) fun j hj=> .some ⟨av,aD (by omega),hj⟩
   have EK:=FX hb;rw[<-EK];have TB:=Jv (TN rules a' a3)[k];refine .dec (fun h=> .some ?_) (fun h=> .ba (CL C _ (by omega) R9) ?_)
   .have h0:(gd rules (TN rules a' a3)[k]).length=0:=by exact_mod_cast h
    exact cI (C,O) (-1) (by unfold cK;rw[if_pos h0]) (by unfold fe;rw[if_pos h0]) _ (II (-1)).1 (II (-1)).2
   .have h0:¬(gd rules (TN rules a' a3)[k]).length=0:=fun g=>h (by rw[g];rfl)
    refine Wp.seq (fun j=>j.2.1=a'/\(j.2.2.1,j.2.2.2)=cK rules (C,O) (TN rules a' a3)[k]/\j.1=fe rules j.2.2.1 (TN rules a' a3)[k]) (.dec (fun hn=> .ba (FW _ TB) (.bind (.px (by simp;omega) (.bind (.px (by simp;omega) (.some ⟨rfl,?_,?_⟩)))))) (fun hn=> .some ⟨rfl,?_,?_⟩)) fun j hj=> .bind (.idx k rfl (by rw[bY];omega) (.some ?_))
    .unfold cK;exact((if_neg h0).trans (if_neg (show¬0<=dP (gd rules (TN rules a' a3)[k]) C by omega))).symm
    .show(C.length:Int)=fe rules (C++[gd rules (TN rules a' a3)[k]]) (TN rules a' a3)[k]
     unfold fe;rw[if_neg h0,rD (by omega)]
    .unfold cK;exact((if_neg h0).trans (if_pos (show 0<=dP (gd rules (TN rules a' a3)[k]) C by omega))).symm
    .unfold fe;rw[if_neg h0]
    .obtain⟨j1,j2,j3⟩:=hj;have:=cI (j.2.2.1,j.2.2.2) j.1 j2 j3 _ (IJ j.1 (-1)).1 (IJ j.1 (-1)).2;exact⟨j1,this.2⟩
  .have:k=(TN rules a' a3).length:=by omega
   subst this;rw[YS]at g2
   have e1:C=(CS rules a' a3).1:=by rw[KS,<-g2]
   have e2:O=(CS rules a' a3).2:=by rw[KS,<-g2]
   show(a',bits,C,O)=_
   rw[e2]
   congr 2
   .rw[R8,<-e1]
    refine List.ext_getElem (by rw[g3,ZI]) fun i h1 h2=>?_
    have rJ:i<(TN rules a' a3).length:=by simpa using h2
    rw[g4 i h1 rJ rJ,List.getElem_map]
   .rw[e1]
 .subst hj;exact .ba Kr (.ba Nw (.some rfl))
end L
end Go.Proofs.YtbladfbbhijpmaaGreat
end
section
open _root_.Go.IntKind renaming i64->YC
open _root_.List renaming append_assoc->Y2,getElem?_eq_getElem->YF,getElem_mem->YP,length_append->YV,length_take->Zw,map_append->ZH,mem_cons_of_mem->Zc,mem_cons_self->Zp,range->YI,take_append_getElem->Y1,take_length->YS
open _root_.Nat renaming le_refl->YD
open _root_.Option renaming bind_some->YB
open _root_.Option.some renaming inj->YA
namespace Go.Proofs.YtbladfbbhijpmaaGreat
open Go Go.RowKit
set_option maxRecDepth 100000
set_option linter.unusedSimpArgs false
set_option linter.unusedVariables false
namespace L
theorem xu{α:Type}(P:Nat->Bool)(f:Int->List α):∀m,(ids P m).flatMap f=(YI m).flatMap fun i:Nat=>if P i=true then f (i:Int)else[]
 |0=>rfl
 |m+1=>by
  rw[iU,mq,List.flatMap_append,xu P f m]
  congr 1
  split<;>simp
theorem zD{α β:Type}{l:List α}{f g:α->List β}(h:∀x∈l,f x=g x):l.flatMap f=l.flatMap g:=by
 induction l with
 |nil=>rfl
 |cons a l ih=>rw[List.flatMap_cons,List.flatMap_cons,h a Zp,ih fun x hx=>h x (Zc _ hx)]
theorem xv{O:List Int}{n:Nat}{v:Int}(h:v∉O):dg O n v=[]:=by
 unfold dg;rw[if_pos];unfold qg;refine List.length_eq_zero_iff.2 (List.eq_nil_iff_forall_not_mem.2 fun j hj=>?_);obtain⟨i,hi,hp,_⟩:=n5.1 hj;exact h (List.mem_of_getElem? (of_decide_eq_true hp))
theorem Ks{rules:List gx}{a d:Int}(h:Fit rules a d){v:Int}(hv:v∈OO rules a d):v= -1\/v= -2\/v∈fi rules a d:=by
 obtain⟨c,_,rfl⟩:=List.mem_map.1 hv
 have hl:(fi rules a d).length=(TN rules a d).length:=by rw[od];simp
 have hp:(fc rules a d).length=(fi rules a d).length:=by rw[hl];unfold fc TN;simp
 obtain⟨_,hr⟩:=rE (fc rules a d) (gV rules a d) ((BB rules a d).map (flag (c:Int))) (by have:=h.t8;omega);unfold oc;generalize xr (fc rules a d) (gV rules a d) ((BB rules a d).map (flag (c:Int)))=s at hr;unfold Pl at hr
 rcases hr with rfl|rfl|⟨h0,h1⟩
 .exact .inl rfl
 .exact .inr (.inl rfl)
 .refine .inr (.inr ?_);obtain⟨x,hx,hm⟩:=rv (l:=fi rules a d) h0 (by omega);rw[vf h0 (by omega)]at hx;rw[YA hx];exact hm
theorem FY{rules:List gx}{a d:Int}(h:Fit rules a d):(YI (rules.length+2)).flatMap (fun k:Nat=>dg (OO rules a d) (CS rules a d).1.length ((k:Int)-2))=RR rules a d:=by
 unfold RR;generalize hn:(CS rules a d).1.length=n;rw[Nat.add_comm,List.range_add,List.flatMap_append,List.flatMap_append]
 congr 1
 rw[List.flatMap_map];unfold fi;rw[xu]
 refine zD fun i hi=>?_
 have e:((2+i:Nat):Int)-2=(i:Int):=by omega
 rw[e];split
 .rfl
 .rename_i g
  refine xv fun hm=>?_
  rcases Ks h hm with h1|h1|h1
  .omega
  .omega
  .obtain⟨j,hj,hp,e⟩:=n5.1 h1
   obtain rfl:i=j:=by omega
   exact g hp
theorem FZ{l:Lw}{x:kf}{a1 a2 a3:Int}(hx:idx l.2.2 a1=some x)(hf:Fit x.2.2.2.2 a2 a3):M.gw bm l a1 a2 a3=some (a2,(CS x.2.2.2.2 a2 a3).1,(CS x.2.2.2.2 a2 a3).2,RR x.2.2.2.2 a2 a3):=by
 unfold M.gw;rw[hx,YB,FN x a2 a3 (by have:=hf.len;omega),YB];have Oc:=FV (rules:=x.2.2.2.2) (a:=a2) (d:=a3);have KS:CS x.2.2.2.2 a2 a3=(TN x.2.2.2.2 a2 a3).foldl (cK x.2.2.2.2) ([],[]):=rfl;have R8:BB x.2.2.2.2 a2 a3=(TN x.2.2.2.2 a2 a3).map (fe x.2.2.2.2 (CS x.2.2.2.2 a2 a3).1):=rfl
 have TC:OO x.2.2.2.2 a2 a3=(YI (2 ^ (CS x.2.2.2.2 a2 a3).1.length)).map fun c:Nat=>oc (fi x.2.2.2.2 a2 a3) (fc x.2.2.2.2 a2 a3) (gV x.2.2.2.2 a2 a3) (BB x.2.2.2.2 a2 a3) (c:Int):=rfl
 have CR:=od x.2.2.2.2 a2 a3
 have tJ:(fi x.2.2.2.2 a2 a3).length=(TN x.2.2.2.2 a2 a3).length:=by rw[CR];simp
 have Ge:(fc x.2.2.2.2 a2 a3).length=(TN x.2.2.2.2 a2 a3).length:=by unfold fc TN;simp
 have Gh:=hf.Kq;have Xx:=hf.n8;have Gw:=hf.conds;have Jv:=hf.gd;have Xv:=hf.t8;have Nl:=hf.len;have Xy:=FY hf;generalize x.2.2.2.2=rules at*;dsimp only;refine Wp.eq (Wp.seq (fun j=>j=(a2,(CS rules a2 a3).1,(CS rules a2 a3).2)) ?_ fun j hj=>?_)
 .rw[tJ]
  refine Wp.count (fun s=>s.1) (TN rules a2 a3).length (fun k s=>s.2.1=a2/\(s.2.2.1,s.2.2.2)=((TN rules a2 a3).take k).foldl (cK rules) ([],[])) (by omega) rfl ⟨rfl,rfl⟩ fun k s hk hs hJ=>?_
  obtain⟨kk,a',C,O⟩:=s;obtain⟨g1,g2⟩:=hJ;dsimp only at hs g1 g2⊢;subst hs g1;refine .dec (fun h=>?_) (fun h=> .some ?_)
  .have av:k<(TN rules a' a3).length:=by omega
   have hb:=Oc _ (YP av)
   have vg:idx (fi rules a' a3) (k:Int)=some (((TN rules a' a3)[k]:Nat):Int):=by rw[CR,aB (by simpa using av)];simp
   have Nx:C.length<=8:=by have:=Gh k;rw[<-g2]at this;exact this
   have Ny:O.length<=8:=by have:=AK rules ((TN rules a' a3).take k) ([],[]);rw[<-g2]at this;simp only[List.length_nil,Zw]at this;omega
   have R9:∀y∈C,y.length<=100000:=fun y hy=>Gw ((TN rules a' a3).take k) y (by rw[<-g2];exact hy)
   refine Wp.seq (fun j=>j.1=a'/\(j.2.1,j.2.2)=((TN rules a' a3).take (k+1)).foldl (cK rules) ([],[])) (.ba vg (.ba (aB hb) ?_)) fun j hj=> .some ⟨av,aD (by omega),hj⟩
   have EK:=FX hb;rw[<-EK,fold_succ av,<-g2];have TB:=Jv (TN rules a' a3)[k]
   refine Wp.seq (fun j=>j=true↔(gd rules (TN rules a' a3)[k]).length≠0/\¬0<=dP (gd rules (TN rules a' a3)[k]) C) (.dec (fun h=> .ba (xq C _ (by omega) R9) (.some ?_)) (fun h=> .some ⟨fun h=>(by cases h),fun g=>absurd g.1 (by omega)⟩)) fun j hj=> .ite (fun h=>?_) (fun h=> .some ⟨rfl,?_⟩)
   .rw[decide_eq_true_eq];exact⟨fun g=>⟨by omega,by omega⟩,fun g=>by omega⟩
   .obtain⟨h0,h1⟩:=hj.1 h;refine .bind (.px (by simp;omega) (.bind (.px (by simp;omega) (.ba vg (.bind (.px (by simp;omega) (.some ⟨rfl,?_⟩)))))));unfold cK;rw[List.nil_append];exact((if_neg h0).trans (if_neg h1)).symm
   .unfold cK;by_cases h0:(gd rules (TN rules a' a3)[k]).length=0
    .exact(if_pos h0).symm
    .refine((if_neg h0).trans (if_pos ?_)).symm
     exact Classical.byContradiction fun g=>h (hj.2 ⟨h0,g⟩)
  .have:k=(TN rules a' a3).length:=by omega
   subst this;rw[YS]at g2
   show(a',C,O)=_
   rw[KS,<-g2]
 subst hj;dsimp only;have Nz:=Gw (TN rules a2 a3);rw[<-KS]at Nz;have h8:=nl Xx
 refine Wp.seq (fun j=>j=OO rules a2 a3) ?_ fun j hj=>?_
 .rw[TC];generalize hn:(CS rules a2 a3).1.length=n at*
  refine Wp.count (fun s=>s.1) (2 ^ n) (fun k s=>s.2=(YI k).map fun c:Nat=>oc (fi rules a2 a3) (fc rules a2 a3) (gV rules a2 a3) (BB rules a2 a3) (c:Int)) (by omega) rfl rfl fun k s hk hs hJ=>?_
  obtain⟨kk,O⟩:=s;dsimp only at hs hJ⊢;subst hs hJ;refine .ba (gF (by omega)) (.dec (fun h=>?_) (fun h=> .some ?_))
  .have av:k<2 ^ n:=by exact_mod_cast h
   refine Wp.seq (fun j=>j=(YI (k+1)).map fun c:Nat=>oc (fi rules a2 a3) (fc rules a2 a3) (gV rules a2 a3) (BB rules a2 a3) (c:Int)) ?_ fun j hj=> .some ⟨av,aD (by omega),hj⟩
   rw[tJ]
   refine Wp.seq (fun j=>j=(BB rules a2 a3).map (flag (k:Int))) ?_ fun j hj=>?_
   .rw[R8]
    refine Wp.count (fun s=>s.1) (TN rules a2 a3).length (fun i s=>s.2=(((TN rules a2 a3).take i).map (fe rules (CS rules a2 a3).1)).map (flag (k:Int))) (by omega) rfl rfl fun i s hi hs hJ=>?_
    obtain⟨ii,F⟩:=s;dsimp only at hs hJ⊢;subst hs hJ;refine .dec (fun h=>?_) (fun h=> .some ?_)
    .have wN:i<(TN rules a2 a3).length:=by omega
     have hb:=Oc _ (YP wN)
     have vg:idx (fi rules a2 a3) (i:Int)=some (((TN rules a2 a3)[i]:Nat):Int):=by rw[CR,aB (by simpa using wN)];simp
     refine Wp.seq (fun s=>s=(((TN rules a2 a3).take (i+1)).map (fe rules (CS rules a2 a3).1)).map (flag (k:Int))) (.ba vg (.ba (aB hb) ?_)) fun j hj=> .some ⟨wN,aD (by omega),hj⟩
     rw[<-FX hb]
     have IK:∀v:Bool,v=flag (k:Int) (fe rules (CS rules a2 a3).1 (TN rules a2 a3)[i])->(((TN rules a2 a3).take i).map (fe rules (CS rules a2 a3).1)).map (flag (k:Int))++[v]=(((TN rules a2 a3).take (i+1)).map (fe rules (CS rules a2 a3).1)).map (flag (k:Int)):=fun v hv=>by
      rw[<-Y1 wN,ZH,ZH,hv];rfl
     refine .dec (fun h=> .bind (.px (by simp;omega) (.some (IK _ ?_)))) (fun h=> .ba (xq _ _ (by omega) Nz) ?_)
     .have h0:(gd rules (TN rules a2 a3)[i]).length=0:=by exact_mod_cast h
      unfold fe flag;rw[if_pos h0,if_pos (by omega)]
     .have h0:¬(gd rules (TN rules a2 a3)[i]).length=0:=fun g=>h (by rw[g];rfl)
      have hc:0<=dP (gd rules (TN rules a2 a3)[i]) (CS rules a2 a3).1:=by
       rw[KS];exact tI rules _ _ _ (YP wN) h0
      refine .ba (FU hc) (.bind (.px (by simp;omega) (.some (IK _ ?_))));unfold fe flag;rw[if_neg h0,if_neg (by omega)];rfl
    .have:i=(TN rules a2 a3).length:=by omega
     subst this
     show _=_
     rw[YS]
   .subst hj;obtain⟨hs,hr⟩:=rE (fc rules a2 a3) (gV rules a2 a3) ((BB rules a2 a3).map (flag (k:Int))) (by omega);rw[S.Kp]at hs;refine .ba hs ?_;have CO:oc (fi rules a2 a3) (fc rules a2 a3) (gV rules a2 a3) (BB rules a2 a3) (k:Int)=IH (fi rules a2 a3) (xr (fc rules a2 a3) (gV rules a2 a3) ((BB rules a2 a3).map (flag (k:Int)))):=rfl;rw[List.range_succ,ZH];generalize xr (fc rules a2 a3) (gV rules a2 a3) ((BB rules a2 a3).map (flag (k:Int)))=v at hr CO⊢;unfold Pl at hr
    refine Wp.seq (fun j=>j=IH (fi rules a2 a3) v) (.dec (fun h=> .ba (vf h (by omega)) (.some rfl)) (fun h=> .some ?_)) fun j hj=> .bind (.px (by simp;omega) (.some ?_))
    .unfold IH;rw[if_neg h]
    .rw[hj,List.map_singleton,CO]
  .have:k=2 ^ n:=by have:¬k<2 ^ n:=fun g=>h (by exact_mod_cast g);omega
   subst this;rfl
 subst hj;rw[<-Xy]
 have Xz:(OO rules a2 a3).length<=256:=by rw[TC];simp;omega
 generalize hn:(CS rules a2 a3).1.length=n at*
 refine Wp.seq (fun j=>j=(a2,(CS rules a2 a3).1,(CS rules a2 a3).2,(YI (rules.length+2)).flatMap fun k:Nat=>dg (OO rules a2 a3) n ((k:Int)-2))) ?_ fun j hj=> .some (by rw[hj])
 generalize OO rules a2 a3=O at Xz⊢;generalize(CS rules a2 a3).1=C at*;generalize(CS rules a2 a3).2=W at*
 refine Wp.count (fun s=>s.1+2) (rules.length+2) (fun k s=>s.2.1=a2/\s.2.2.1=C/\s.2.2.2.1=W/\s.2.2.2.2=((YI k).flatMap fun k:Nat=>dg O n ((k:Int)-2))/\s.2.2.2.2.length<=k*65536) (by omega) rfl ⟨rfl,rfl,rfl,rfl,YD _⟩ fun k s hk hs hJ=>?_
 obtain⟨v,a',C',W',acc⟩:=s;obtain⟨g1,g2,g3,g4,g5⟩:=hJ;dsimp only at hs g1 g2 g3 g4 g5⊢
 obtain rfl:v=(k:Int)-2:=by omega
 subst g1 g2 g3;refine .dec (fun h=>?_) (fun h=> .some ?_)
 .have av:k<rules.length+2:=by omega
  have FC:=rF O n ((k:Int)-2)
  have hw:YC.wrap ((k:Int)-2+1)+2=((k+1:Nat):Int):=by rw[eZ (by omega) (by omega)];omega
  refine Wp.seq (fun s=>s=(a',C',W',acc++dg O n ((k:Int)-2))) ?_ fun j hj=> .some ⟨av,hw,by rw[hj],by rw[hj],by rw[hj],by rw[hj,mq,<-g4],by rw[hj];show(acc++_).length<=_;rw[YV];omega⟩
  refine Wp.seq (fun s=>s=(a',C',W',acc++dg O n ((k:Int)-2))) ?_ fun j hj=> .some (by rw[hj])
  refine Wp.seq (fun j=>j=qg O ((k:Int)-2)) ?_ fun j hj=>?_
  .refine Wp.count (fun s=>s.1) O.length (fun i s=>s.2=ids (fun z=>decide (O[z]? =some ((k:Int)-2))) i) (by omega) rfl rfl fun i s hi hs hJ=>?_
   obtain⟨ii,l⟩:=s;dsimp only at hs hJ⊢;subst hs hJ;refine .dec (fun h=>?_) (fun h=> .some ?_)
   .have tJ:i<O.length:=by omega
    have hl:=kL (fun z=>decide (O[z]? =some ((k:Int)-2))) i
    refine Wp.seq (fun s=>s=ids (fun z=>decide (O[z]? =some ((k:Int)-2))) (i+1)) (.bind (.idx i rfl tJ ?_)) fun j hj=> .some ⟨tJ,aD (by omega),hj⟩
    rw[iU,YF tJ];refine .dec (fun h=> .bind (.px (by simp;omega) (.some ?_))) (fun h=> .some ?_)
    .rw[if_pos (by simp[h])]
    .rw[if_neg (by simpa using h),List.append_nil]
   .have:i=O.length:=by omega
    subst this;rfl
  .subst hj;have Ge:=kL (fun z=>decide (O[z]? =some ((k:Int)-2))) O.length;refine .dec (fun h=> .some ?_) (fun h=> .ba (HL (l:=qg O ((k:Int)-2)) (by unfold qg;omega) (n:Int)) ?_)
   .have:(qg O ((k:Int)-2)).length=0:=by exact_mod_cast h
    unfold dg;rw[if_pos this,List.append_nil]
   .have b8:¬(qg O ((k:Int)-2)).length=0:=fun g=>h (by rw[g];rfl)
    have hr:dg O n ((k:Int)-2)=(mn (qg O ((k:Int)-2)) n).map fun p=>(p,(k:Int)-2):=by unfold dg;rw[if_neg b8]
    have Gc:=zC (qg O ((k:Int)-2)) n;rw[hr];have XA:CF (xG (n:Int)) (fun x=>(x:Int)∈qg O ((k:Int)-2)) (cP (qg O ((k:Int)-2)))=mn (qg O ((k:Int)-2)) n:=rfl;rw[XA];generalize mn (qg O ((k:Int)-2)) n=ps at Gc⊢
    refine Wp.count (fun s=>s.1) ps.length (fun i s=>s.2=(a',C',W',acc++(ps.take i).map fun p=>(p,(k:Int)-2))) (by omega) rfl (by simp) fun i s hi hs hJ=>?_
    obtain⟨ii,LW,Yu,Yv,l⟩:=s;cases hJ;dsimp only at hs⊢;subst hs;refine .dec (fun h=>?_) (fun h=> .some ?_)
    .have tJ:i<ps.length:=by omega
     refine .bind (.idx i rfl tJ (.bind (.px (by simp;omega) (.some ⟨tJ,aD (by omega),?_⟩))))
     show(_,_,_,_)=(_,_,_,acc++(ps.take (i+1)).map _)
     rw[<-Y1 tJ,ZH,Y2];rfl
    .have:i=ps.length:=by omega
     subst this
     show(_,_,_,acc++_)=_
     rw[YS]
 .have:k=rules.length+2:=by omega
  subst this
  show(a',C',W',acc)=_
  rw[g4]
end L
end Go.Proofs.YtbladfbbhijpmaaGreat
end
section
open _root_.ByteArray renaming empty->aah
open _root_.Classical renaming not_not->Z6
open _root_.List renaming getElem_mem->YP,length_append->YV,length_filter_le->ZQ,mem_cons->YM,take_append_getElem->Y1
open _root_.Nat renaming le_refl->YD,le_trans->Y3
open _root_.Option renaming bind_some->YB
open _root_.Option.some renaming inj->YA
open _root_.Prod.mk renaming injEq->Zx
namespace Go.Proofs.YtbladfbbhijpmaaGreat
open Go Go.RowKit
set_option maxRecDepth 100000
set_option linter.unusedSimpArgs false
set_option linter.unusedVariables false
namespace L
theorem HV{l:Lw}{x:kf}{k:Nat}{r:gx}:Ct l x k r=0↔r6 r.1=true/\¬nW (x.2.2.2.2.take k) r.1/\(0<=(r.2.1:Int)/\(r.2.1:Int)<(x.2.2.2.1.length:Int))/\¬uP x k r/\
 ¬((r.2.2.2.1:Int)<0\/9<(r.2.2.2.1:Int)\/¬VR r.2.2.2.2.1\/(r.2.2.2.2.1.1:Int)=r.2.2.2.2.1.2)/\Hu x k r.2.1<8/\plain r.2.2.2.2.2.2.2/\
 (0<r.2.2.2.2.2.1.length->Cs r.2.2.2.2.2.1 (Cr l x) ((1:Int),(0:Int))=0)/\(match x.2.2.2.1[(r.2.1:Int).toNat]? with
   |some d=>Cs r.2.2.2.2.2.2.1 (Cr l x) d.2
   |none=>0)=0:=by
 unfold Ct;by_cases h1:r6 r.1=false
 .rw[if_pos h1]
  exact iff_of_false (by decide) fun g=>by rw[h1]at g;cases g.1
 rw[if_neg h1];by_cases h2:nW (x.2.2.2.2.take k) r.1
 .rw[if_pos h2]
  exact iff_of_false (by decide) fun g=>g.2.1 h2
 rw[if_neg h2];by_cases h3:0<=(r.2.1:Int)/\(r.2.1:Int)<(x.2.2.2.1.length:Int)
 case neg=>
  rw[if_pos h3]
  exact iff_of_false (by decide) fun g=>h3 g.2.2.1
 rw[if_neg (fun g=>g h3)];by_cases h4:uP x k r
 .rw[if_pos h4]
  exact iff_of_false (by decide) fun g=>g.2.2.2.1 h4
 rw[if_neg h4];by_cases h5:(r.2.2.2.1:Int)<0\/9<(r.2.2.2.1:Int)\/¬VR r.2.2.2.2.1\/(r.2.2.2.2.1.1:Int)=r.2.2.2.2.1.2
 .rw[if_pos h5]
  exact iff_of_false (by decide) fun g=>g.2.2.2.2.1 h5
 rw[if_neg h5];by_cases h6:8<=Hu x k r.2.1
 .rw[if_pos h6]
  exact iff_of_false (by decide) fun g=>by have:=g.2.2.2.2.2.1;omega
 rw[if_neg h6];by_cases h7:plain r.2.2.2.2.2.2.2
 case neg=>
  rw[if_pos h7]
  exact iff_of_false (by decide) fun g=>h7 g.2.2.2.2.2.2.1
 rw[if_neg (fun g=>g h7)];by_cases h8:0<r.2.2.2.2.2.1.length/\Cs r.2.2.2.2.2.1 (Cr l x) ((1:Int),(0:Int))≠0
 .rw[if_pos h8]
  exact iff_of_false h8.2 fun g=>h8.2 (g.2.2.2.2.2.2.2.1 h8.1)
 rw[if_neg h8];exact⟨fun g=>⟨by simpa using h1,h2,h3,h4,h5,by omega,h7,fun a=>Z6.1 fun b=>h8 ⟨a,b⟩,g⟩,fun g=>g.2.2.2.2.2.2.2.2⟩
theorem Valid.N4{l:Lw}(h:Valid l):Hw l=N4:=by
 obtain⟨a1,a2,a3,a4,a5,a6⟩:=h.scopes;unfold Hw;rw[if_neg (by omega),cC.2 fun k hk=>by rw[a4 k hk];rfl];dsimp only;rw[if_neg (by omega),cC.2 fun k hk=>by rw[a5 k hk];rfl];dsimp only;rw[if_neg (by omega),cC.2 fun k hk=>by rw[a6 k hk];rfl]
theorem count_le{l:Lw}{x:kf}(h:∀i,∀hi:i<x.2.2.2.2.length,Ct l x i x.2.2.2.2[i]=0)(a:Int):∀m,m<=x.2.2.2.2.length->(x.2.2.2.2.take m).countP (fun r=>decide ((r.2.1:Int)=a))<=8
 |0,_=>by simp
 |m+1,hm=>by
  have ih:=count_le h a m (by omega)
  have av:m<x.2.2.2.2.length:=by omega
  rw[<-Y1 av,List.countP_append,List.countP_singleton];split
  .rename_i g;have g:(x.2.2.2.2[m].2.1:Int)=a:=of_decide_eq_true g;have:=(HV.1 (h m av)).2.2.2.2.2.1;unfold Hu at this;rw[g]at this;omega
  .omega
theorem rH{rules:List gx}(a d:Int):∀m,m<=rules.length->(eR (kp rules (u9 a d)) m).length<=(rules.take m).countP fun r=>decide ((r.2.1:Int)=a)
 |0,_=>by simp[eR]
 |m+1,hm=>by
  have ih:=rH (rules:=rules) a d m (by omega)
  have av:m<rules.length:=by omega
  rw[tE,<-Y1 av,List.countP_append,List.countP_singleton,YV,FJ av];by_cases g:u9 a d rules[m]=true
  .have g2:(rules[m].2.1:Int)=a:=(of_decide_eq_true g).1;rw[if_pos g,if_pos (decide_eq_true g2)];simp;omega
  .rw[if_neg g];simp;omega
theorem Fit.of{l:Lw}(hv:Valid l)(hs:J4 l){k:Nat}(hk:k<l.2.2.length)(a d:Int):Fit l.2.2[k].2.2.2.2 a d:=by
 have Gb:=hs.2.2.2.2.2 _ (YP hk);have hr:=(hv.scope k hk).2.2.2.2.2.2.1;refine⟨Gb.2.2.2.1,fun r CY=>by have:=(Gb.2.2.2.2.2.2 r CY).2.2.1;omega,?_⟩;have h1:=rH (rules:=l.2.2[k].2.2.2.2) a d _ (YD _);have h2:=count_le hr a _ (YD _);exact Y3 h1 h2
abbrev two:List aO.den:=[((⟨#[115]⟩:ByteArray),((-1:Int),(([((⟨#[120]⟩:ByteArray),((1:Int),(0:Int)))]:List aN.den),(([((⟨#[100]⟩:ByteArray),((2:Int),(0:Int)))]:List aN.den),([((⟨#[97]⟩:ByteArray),((0:Int),((-1:Int),((0:Int),(((0:Int),(109573:Int)),(([]:List aa.den),(([((2:Int),(1:Int))]:List aa.den),aah))))))),((⟨#[98]⟩:ByteArray),((0:Int),((0:Int),((0:Int),(((0:Int),(109573:Int)),(([((7:Int),(0:Int))]:List aa.den),(([((2:Int),(2:Int))]:List aa.den),aah)))))))]:List bK.den)))))]
abbrev Kt:Lw:=(([]:List cm.den),(([]:List cn.den),two))
theorem Sa:M.eN bm Kt 0 0 100=some ((0:Int),(0:Int),([[((7:Int),(0:Int))]]:List (List aa.den)),([(1:Int)]:List Int),([(((1:Int),(0:Int)),(0:Int)),(((1:Int),(1:Int)),(1:Int))]:List ai.den)):=by
 have hv:M.iw bm Kt=some ((0:Int),((0:Int),((0:Int),(0:Int)))):=by kernel_rfl
 have hx:idx Kt.2.2 0=some Kt.2.2[0]:=rfl
 have hf:Fit Kt.2.2[0].2.2.2.2 0 100:=by
  refine⟨by decide,fun r hr=>?_,?_⟩
  .rcases YM.1 hr with rfl|hr
   .decide
   .rcases YM.1 hr with rfl|hr
    .decide
    .cases hr
  .unfold TN eR;exact Y3 (ZQ ..) (by rw[List.length_range];decide)
 have h1:=CQ hv (by decide) (by decide) hx (by decide) (by decide) (by decide) (by decide) hf;have h2:=FZ (l:=Kt) (a1:=0) hx hf
 have h3:M.gw bm Kt 0 0 100=some ((0:Int),([[((7:Int),(0:Int))]]:List (List aa.den)),([(1:Int)]:List Int),([(((1:Int),(0:Int)),(0:Int)),(((1:Int),(1:Int)),(1:Int))]:List ai.den)):=by kernel_rfl
 rw[h3]at h2;have h4:=YA h2
 obtain⟨-,h5,h6,h7⟩:=by simpa only[Zx]using h4
 rw[h1,<-h5,<-h6,<-h7]
theorem HW:M.fK bm=some true:=by
 unfold M.fK;rw[show M.oX bm=some two from rfl,YB,Sa,YB]
 kernel_rfl
end L
end Go.Proofs.YtbladfbbhijpmaaGreat
end
section
namespace Go.Proofs.YtbladfbbhijpmaaGreat
open Go Go.RowKit
set_option maxRecDepth 100000
namespace L
theorem nu(t:xi)(x:Int)(_:WF aH t)(_:WF ae x):M.dE bm t x=some true:=Np HW t x
end L
end Go.Proofs.YtbladfbbhijpmaaGreat
end
