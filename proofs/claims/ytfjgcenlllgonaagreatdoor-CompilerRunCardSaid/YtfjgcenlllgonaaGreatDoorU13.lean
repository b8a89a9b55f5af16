/- Joined texts: TW CR CG CH CI CR2 CR3. -/
import Derived.Test.YtfjgcenlllgonaaGreatDoorU7
import Derived.Test.YtfjgcenlllgonaaGreatDoorU1
import Derived.Test.YtfjgcenlllgonaaGreatDoorU12
import Derived.Test.YtfjgcenlllgonaaGreatDoorU10
set_option linter.defProp false
open _root_.Bool renaming false->ah,true->af,false_eq_true->aqM,eq_iff_iff->arB,false_ne_true->ast,not_true->ari
open _root_.Option renaming some->aa,bind_some->aqI,none->ae,some->asp,bind->aqH,bind_none->asc,map_eq_some_iff->arH
open _root_.Int renaming eq_ofNat_of_zero_le->aqV,le_refl->arO,toNat_natCast->aqR
open _root_.Go.IntKind renaming i64->aqJ
open _root_.List renaming getElem?_eq_getElem->aqK,getElem_mem->aqN,length_cons->arh,length_map->arb,mem_append->aq7,mem_singleton->aq5,range->arK,replicate->aqO,take_length->ara,append_assoc->ard,getElem_of_mem->aqZ,getElem?_eq_some_iff->aqQ,getElem?_map->arP,mem_cons_self->ary
open _root_.Sum renaming inl->arj,inr->arc
open _root_.Option.some renaming inj->aqL
namespace Go.Proofs.YtfjgcenlllgonaaGreatDoor
open Go Go.RowKit
set_option maxRecDepth 100000
set_option linter.unusedSimpArgs false
set_option linter.unusedVariables false
set_option linter.defProp false
section
namespace L.S
def at'{α:Type}(d:α)(l:List α)(i:Int):α:=(l[i.toNat]?).getD d
theorem qQ{α:Type}(d:α){l:List α}{i:Int}(h0:0<=i)(h:i<l.length):idx l i=aa (at' d l i):=by
 unfold idx at';rw[al h0,aqK (by omega)];rfl
structure V(p q:List Int):Prop where
 len:p.length=q.length
 n8:p.length<=8
 par:∀i:Nat,i<p.length->-1<=at' 0 p i/\at' 0 p i<i
def EE(N:Nat)(p q:List Int):M.nK N p q=M.eB N p q:=by
 unfold M.nK M.eB
 congr 3
 funext s
 congr 1
 cases hp:idx p s<;>cases hq:idx q s<;>rfl
def HM{N:Nat}(p q:List Int)(hN:10<=N):∃e,M.eB N p q=aa e/\(e=0->V p q):=by
 unfold M.eB;by_cases h1:(p.length:Int)=q.length
 .rw[aj (by simpa using h1)];by_cases h2:8<(p.length:Int)
  .simp_all
  .rw[aj (by simpa using h2)];refine xy (I:=λs:Int=>0<=s/\s<=p.length/\∀i:Nat,(i:Int)<s->-1<=at' 0 p i/\at' 0 p i<i) (μ:=λs=>(p.length-s).toNat) (Q:=λe=>e=0->V p q) ?_ N 0 (by grind) (by omega)
   rintro s ⟨h3,h4,h5⟩
   by_cases h6:s<(p.length:Int)
   .rw[al (by simpa using h6),qQ 0 h3 h6,qQ 0 h3 (by omega)];simp only[aqI];by_cases h7:at' 0 p s< -1
    .rw[al (by simpa using h7)];exact .inr ⟨9,rfl,by omega⟩
    .rw[aj (by simpa using h7)];by_cases h8:s<=at' 0 p s
     .grind
     .simp only[aqI,h8,decide_false,aqM,if_false]
      have fin:(∃s',(aa (arj (aqJ.wrap (s+1))):Option (Int⊕Int))=aa (.inl s')/\(0<=s'/\s'<=p.length/\∀i:Nat,(i:Int)<s'->-1<=at' 0 p i/\at' 0 p i<i)/\((p.length:Int)-s').toNat<((p.length:Int)-s).toNat):=by
       rw[aH (by omega) (by omega)];refine⟨s+1,rfl,⟨by omega,by omega,λi hi=>?_⟩,by omega⟩;by_cases e:(i:Int)<s
       .exact h5 i e
       .have:(i:Int)=s:=by omega
        rw[this];omega
      by_cases h9:at' 0 q s<0
      .simp only[h9,decide_true,if_true,aqI];exact .inr ⟨3,rfl,by omega⟩
      .simp only[h9,decide_false,aqM,if_false,aqI];by_cases h10:9<at' 0 q s
       .grind
       .simp only[h10,decide_false,aqM,if_false];exact .inl fin
   .rw[aj (by simpa using h6)];exact .inr ⟨0,rfl,λ_=>⟨by omega,by omega,λi hi=>h5 i (by omega)⟩⟩
 simp_all
def ch(p:List Int)(i:Int):List Int:=((arK p.length).filter λj:Nat=>decide (at' 0 p (j:Int)=i)).map (λj:Nat=>(j:Int))
def YW{p:List Int}{i c:Int}:c∈ch p i↔0<=c/\c<p.length/\at' 0 p c=i:=by
 unfold ch;simp only[List.mem_map,List.mem_filter,List.mem_range,az]
 grind [aqV]
def SD(p:List Int)(i:Int):(ch p i).length<=p.length:=by
 unfold ch;rw[arb];have:=List.length_filter_le (λj:Nat=>decide (at' 0 p (j:Int)=i)) (arK p.length);simpa using this
def yr{N:Nat}{p:List Int}(i:Int)(hn:p.length<=8)(hN:10<=N):M.fB N p i=aa (ch p i):=by
 unfold M.fB;refine rS (λk:Nat=>((k:Int),(((arK k).filter λj:Nat=>decide (at' 0 p (j:Int)=i)).map (λj:Nat=>(j:Int)):List Int))) p.length _ rfl ?_ ?_ (by omega)
 .intro k hk
  have hw:aqJ.wrap ((k:Int)+1)=((k+1:Nat):Int):=by rw[aH]<;>omega
  simp only;rw[al (by simp;omega),qQ 0 (by omega) (by omega),aqI,hw,qt];by_cases h:at' 0 p (k:Int)=i
  .rw[al (by simpa using h),br,aqI,al (by simpa using h)]
   .simp
   .simp only[arb,arh,List.length_nil];have:=List.length_filter_le (λj:Nat=>decide (at' 0 p (j:Int)=i)) (arK k);simp at this;omega
  .rw[aj (by simpa using h),aj (by simpa using h)];simp
 .simp only;rw[aj (by simp)];rfl
def EF(N:Nat)(p:List Int)(i:Int):M.pV N p i=M.fB N p i:=rfl
def step(o:Int->Int)(q:List Int)(b:List Int)(c:Int):List Int:=
 if o c= -1 then b else
 match b with
 |[]=>[c]
 |x::r=>if at' 0 q x<at' 0 q c then[c]else if at' 0 q c=at' 0 q x then(x::r)++[c]else x::r
def sz(o:Int->Int)(q:List Int)(l:List Int):List Int:=l.foldl (step o q) []
structure Inv(o:Int->Int)(q:List Int)(l b:List Int):Prop where
 sub:b.Sublist l
 live:∀c,c∈b->o c≠-1
 max:∀d,d∈l->o d≠-1->b≠[]/\∀c,c∈b->at' 0 q d<=at' 0 q c
 all:∀d,d∈l->o d≠-1->(∀c,c∈b->at' 0 q d=at' 0 q c)->d∈b
def EG{α:Type}{d a:α}{l:List α}:at' d (a::l) 0=a:=rfl
def Aa{o:Int->Int}{q l b:List Int}{c:Int}(h:Inv o q l b):Inv o q (l++[c]) (step o q b c):=by
 obtain⟨h1,h2,h3,h4⟩:=h
 have A8:∀x∈b,∀y∈b,at' 0 q x=at' 0 q y:=(by grind)
 unfold step;by_cases hd:o c= -1
 .rw[al hd];refine⟨h1.trans (List.sublist_append_left _ _),h2,λd hm hl=>?_,λd hm hl=>?_⟩
  .rcases aq7.1 hm with hm|hm
   .exact h3 d hm hl
   .rw[aq5.1 hm]at hl;exact absurd hd hl
  .rcases aq7.1 hm with hm|hm
   .exact h4 d hm hl
   .rw[aq5.1 hm]at hl;exact absurd hd hl
 .rw[aj hd]
  cases b with
  |nil=>
   have WA:∀d,d∈l->¬o d≠-1:=λd hm hl=>(h3 d hm hl).1 rfl
   refine⟨(List.sublist_append_right _ _),?_,λd hm hl=>⟨by simp,?_⟩,λd hm hl hh=>?_⟩
   .intro x hx;rw[aq5.1 hx];exact hd
   .intro x hx;rw[aq5.1 hx]
    rcases aq7.1 hm with hm|hm
    .exact absurd hl (WA d hm)
    .rw[aq5.1 hm];exact arO _
   .rcases aq7.1 hm with hm|hm
    .exact absurd hl (WA d hm)
    .exact hm
  |cons a b=>
   simp only;by_cases aI:at' 0 q a<at' 0 q c
   .rw[al aI];refine⟨(List.sublist_append_right _ _),?_,λd hm hl=>⟨by simp,?_⟩,λd hm hl hh=>?_⟩
    all_goals grind
   .rw[aj aI];by_cases he:at' 0 q c=at' 0 q a
    .rw[al he];refine⟨(by grind),?_,λd hm hl=>⟨by simp,?_⟩,λd hm hl hh=>?_⟩
     .intro x hx
      rcases aq7.1 hx with hx|hx
      .exact h2 x hx
      .rw[aq5.1 hx];exact hd
     .intro x hx
      have VN:at' 0 q x=at' 0 q a:=by
       rcases aq7.1 hx with hx|hx
       .grind
       .grind
      grind
     .rcases aq7.1 hm with hm|hm
      .exact List.mem_append_left _ (h4 d hm hl λx hx=>hh x (List.mem_append_left _ hx))
      .exact List.mem_append_right _ hm
    .rw[aj he];refine⟨h1.trans (List.sublist_append_left _ _),h2,λd hm hl=>⟨by simp,?_⟩,λd hm hl hh=>?_⟩
     all_goals grind
def HN{o:Int->Int}{q:List Int}:∀(m l b:List Int),Inv o q l b->Inv o q (l++m) (m.foldl (step o q) b)
 |[],l,b,h=>by simpa using h
 |c::m,l,b,h=>by
  have:=HN m (l++[c]) _ (Aa (c:=c) h)
  grind
def tL(o:Int->Int)(q l:List Int):Inv o q l (sz o q l):=by
 have:=HN (o:=o) (q:=q) l [] [] ⟨List.Sublist.refl _,by simp,by simp,by simp⟩;rw[List.nil_append]at this;exact this
def vx{o o':Int->Int}{q:List Int}:∀(l b:List Int),(∀c,c∈l->o c=o' c)->l.foldl (step o q) b=l.foldl (step o' q) b
 |[],_,_=>rfl
 |c::l,b,h=>by
  have:step o q b c=step o' q b c:=by unfold step;rw[h c (by simp)]
  rw[List.foldl_cons,List.foldl_cons,this]
  exact vx l _ λd hd=>h d (by simp[hd])
def yN(o:Int->Int)(b:List Int):Int:=if(b.length:Int)=0 then-1 else if(b.length:Int)=1 then o (at' 0 b 0)else-2
def out(p q:List Int)(a:List Bool):Nat->Int->Int
 |0,_=> -1
 |k+1,i=>
  let c:=yN (out p q a k) (sz (out p q a k) q (ch p i))
  if c= -1/\at' ah a i=af then i else c
def cout(p q:List Int)(a:List Bool)(k:Nat)(i:Int):Int:=yN (out p q a k) (sz (out p q a k) q (ch p i))
def wK(p q:List Int)(a:List Bool)(k:Nat)(i:Int):out p q a (k+1) i=if cout p q a k i= -1/\at' ah a i=af then i else cout p q a k i:=rfl
def tM{p q:List Int}(hv:V p q){i c:Int}(h:c∈ch p i):i<c/\0<=c/\c<8/\c<p.length:=by
 obtain⟨h1,h2,h3⟩:=YW.1 h;have:=hv.n8;obtain⟨j,rfl⟩:=aqV h1;have:=(hv.par j (by omega)).2;omega
def A3{o o':Int->Int}{b:List Int}(h:∀c,c∈b->o c=o' c):yN o b=yN o' b:=by
 cases b with
 |nil=>rfl
 |cons x b=>unfold yN;rw[EG,h x (by simp)]
def A4{p q:List Int}{a:List Bool}{k k':Nat}{i:Int}(h:∀c,c∈ch p i->out p q a k c=out p q a k' c):cout p q a k i=cout p q a k' i:=by
 unfold cout;have:sz (out p q a k) q (ch p i)=sz (out p q a k') q (ch p i):=vx _ _ h;rw[this]
 exact A3 λc hc=>h c ((tL _ _ _).sub.subset hc)
def A5{p q:List Int}(hv:V p q)(a:List Bool):∀(k:Nat)(i:Int),8<k+i->out p q a k i=out p q a (k+1) i\/8<=i
 |0,i,h=> .inr (by omega)
 |k+1,i,h=>by
  by_cases h8:8<=i
  .exact .inr h8
  .left
   rw[wK,wK p q a (k+1),A4 (k:=k) (k':=k+1)];intro c hc;have:=tM hv hc;exact(A5 hv a k c (by omega)).resolve_right (by omega)
def O(p q:List Int)(a:List Bool)(i:Int):Int:=out p q a 16 i
def C(p q:List Int)(a:List Bool)(i:Int):Int:=yN (O p q a) (sz (O p q a) q (ch p i))
def WB{p q:List Int}(hv:V p q)(a:List Bool):∀(d k:Nat)(i:Int),8<k+i->i<8->d+k=16->out p q a k i=O p q a i
 |0,k,i,_,_,hd=>by
  obtain rfl:k=16:=by omega
  rfl
 |d+1,k,i,h,h8,hd=>by
  rw[(A5 hv a k i h).resolve_right (by omega)];exact WB hv a d (k+1) i (by omega) h8 (by omega)
def acu{p q:List Int}(hv:V p q)(a:List Bool){k:Nat}{i:Int}(h:7<k+i)(hk:k<=16):cout p q a k i=C p q a i:=by
 show _=cout p q a 16 i
 refine A4 λc hc=>?_
 have:=tM hv hc;exact WB hv a (16-k) k c (by omega) (by omega) (by omega)
def ajd{p q:List Int}(hv:V p q)(a:List Bool){i:Int}(h0: -1<=i):O p q a i=if C p q a i= -1/\at' ah a i=af then i else C p q a i:=by
 unfold O;rw[wK,acu hv a (by omega) (by omega)]
def C1{q b:List Int}{c y:Int}{o:Int->Int}(hy:o c=y)(hb:∀x,x∈b->0<=x/\x<q.length)(hl:b.length<=8)(hc:0<=c/\c<q.length):
 (if(decide (y=(-1:Int)))=af then
some b
else
(((if(decide ((0:Int)<(b.length:Int)))=af then
(idx q c).bind λx8=>
(idx b (0:Int)).bind λx9=>
(idx q x9).bind λWl=>
some (decide (Wl<x8))
else
some ah):Option (Bool)).bind λj7=>
(if j7=af then
(gD b (0:Int) (0:Int)).bind λl11=>
some l11
else
some b):Option (List Int)).bind λj6=>
((if(decide ((j6.length:Int)=(0:Int)))=af then
some af
else
(idx q c).bind λYG=>
(idx j6 (0:Int)).bind λSk=>
(idx q Sk).bind λZi=>
some (decide (YG=Zi))):Option (Bool)).bind λS9=>
(if S9=af then
(cf j6 ([c]:List Int)).bind λl16=>
some l16
else
some j6))=aa (step o q b c):=by
 subst hy;unfold step;by_cases h:o c= -1
 .simp only[h,decide_true,if_true]
 .simp only[h,decide_false,aqM,if_false];rw[qQ 0 hc.1 hc.2]
  cases b with
  |nil=>simp[cf]
  |cons x r=>
   have hx:=hb x (by simp)
   have h0:(0:Int)<((x::r).length:Int):=by simp only[arh];omega
   have h1:¬((x::r).length:Int)=0:=by omega
   simp only[h0,decide_true,if_true,aqI,vY,qQ 0 hx.1 hx.2]
   grind [gD,vY,S.qQ,br]
def SE{q b:List Int}{c y:Int}{o:Int->Int}(hy:o c=y)(hb:∀x,x∈b->0<=x/\x<q.length)(hl:b.length<=8)(hc:0<=c/\c<q.length):
 (if(decide (y=(-1:Int)))=af then
some b
else
(((if(decide ((0:Int)<(b.length:Int)))=af then
(idx q c).bind λx8=>
(idx b (0:Int)).bind λx9=>
(idx q x9).bind λWl=>
some (decide (Wl<x8))
else
some ah):Option (Bool)).bind λj7=>
(if j7=af then
some ([]:List Int)
else
some b):Option (List Int)).bind λj6=>
((if(decide ((j6.length:Int)=(0:Int)))=af then
some af
else
(idx q c).bind λYG=>
(idx j6 (0:Int)).bind λSk=>
(idx q Sk).bind λZi=>
some (decide (YG=Zi))):Option (Bool)).bind λS9=>
(if S9=af then
(cf j6 ([c]:List Int)).bind λl16=>
some l16
else
some j6))=aa (step o q b c):=by
 rw[<-C1 hy hb hl hc];rfl
theorem wL{l:List Int}{o:Int->Int}{q:List Int}{k:Nat}:((l.take k).foldl (step o q) []).Sublist l:=(tL o q (l.take k)).sub.trans (List.take_sublist _ _)
def Vy{N:Nat}{p q r:List Int}(hv:V p q)(hr:r.length=p.length)(i:Int)(hN:20<=N):M.fQ N (p,(q,r)) i=aa (sz (at' 0 r) q (ch p i)):=by
 have h8:=hv.n8;have hl:=SD p i;unfold M.fQ;simp only;rw[yr i h8 (by omega),aqI];refine rS (λk:Nat=>((k:Int),((ch p i).take k).foldl (step (at' 0 r) q) [])) (ch p i).length _ rfl ?_ ?_ (by omega)
 .intro k hk
  have hw:aqJ.wrap ((k:Int)+1)=((k+1:Nat):Int):=by rw[aH]<;>omega
  have hc:=tM hv (aqN hk);have hq:=hv.len;simp only;rw[al (by simp;omega),aF hk,aqI,qQ 0 hc.2.1 (by omega),aqI,hw];have hb:=C1 (q:=q) (b:=((ch p i).take k).foldl (step (at' 0 r) q) []) (c:=(ch p i)[k]) (o:=at' 0 r) rfl (λx hx=>by have:=tM hv (wL.subset hx);omega) (by grind [S.wL]) ⟨hc.2.1,by omega⟩
  grind [List.take_succ_eq_append_getElem]
 .simp only;rw[aj (by simp),ara];rfl
def Vz{p q:List Int}(hv:V p q){o:Int->Int}{i c:Int}(h:c∈sz o q (ch p i)):i<c/\0<=c/\c<8/\c<p.length:=tM hv ((tL o q _).sub.subset h)
def uT{N:Nat}{p q r:List Int}(hv:V p q)(hr:r.length=p.length)(i:Int)(hN:20<=N):M.cS N (p,(q,r)) i=aa (yN (at' 0 r) (sz (at' 0 r) q (ch p i))):=by
 unfold M.cS yN;rw[Vy hv hr i hN,aqI]
 cases hb:sz (at' 0 r) q (ch p i)with
 |nil=>simp
 |cons x b=>
  have hx:=Vz hv (o:=at' 0 r) (i:=i) (c:=x) (by rw[hb];simp)
  have h1:¬((x::b).length:Int)=0:=by simp;omega
  simp only[h1,decide_false,aqM,if_false,vY,aqI,EG,qQ 0 hx.2.1 (show x<(r.length:Int) by omega)];by_cases h2:((x::b).length:Int)=1
  .simp only[h2,decide_true,if_true]
  .simp only[h2,decide_false,aqM,if_false]
def LZ{p q r:List Int}(hv:V p q){a:List Bool}{i:Int}(h:∀c,i<c->0<=c->c<p.length->at' 0 r c=O p q a c):yN (at' 0 r) (sz (at' 0 r) q (ch p i))=C p q a i:=by
 unfold C
 have h':∀c,c∈ch p i->at' 0 r c=O p q a c:=λc hc=>by
  have:=tM hv hc;exact h c this.1 this.2.1 this.2.2.2
 have:sz (at' 0 r) q (ch p i)=sz (O p q a) q (ch p i):=vx _ _ h';rw[this]
 exact A3 λc hc=>h' c ((tL _ _ _).sub.subset hc)
def outs(p q:List Int)(a:List Bool)(k:Nat):List Int:=(arK p.length).map λj=>if p.length<=j+k then O p q a (j:Int)else 0
theorem SF{n:Nat}{f:Nat->Int}{c:Int}(h0:0<=c)(h:c<n):at' 0 ((arK n).map f) c=f c.toNat:=by
 grind [S.at']
def HO{N:Nat}{p q:List Int}{a:List Bool}(hv:V p q)(ha:a.length=p.length)(hN:20<=N):M.gv N p q a=aa (outs p q a p.length):=by
 have h8:=hv.n8;unfold M.gv
 have h0:ol (p.length:Int) (0:Int)=aa (aqO p.length 0):=by
  unfold ol;rw[al (by omega)];simp
 rw[h0,aqI];refine rS (λk:Nat=>((p.length:Int)-1-(k:Int),outs p q a k)) p.length _ ?_ ?_ ?_ (by omega)
 .rw[aH (by omega) (by omega)]
  have:outs p q a 0=aqO p.length 0:=by
   unfold outs
   refine List.ext_getElem (by simp) λj h1 h2=>?_
   simp at h2;rw[List.getElem_map,List.getElem_range,List.getElem_replicate,aj (by omega)]
  grind
 .intro k hk
  have hlen:(outs p q a k).length=p.length:=by simp[outs]
  have hO:=ajd hv a (i:=(p.length:Int)-1-(k:Int)) (by omega);generalize hi:(p.length:Int)-1-(k:Int)=i at*
  have hc:yN (at' 0 (outs p q a k)) (sz (at' 0 (outs p q a k)) q (ch p i))=C p q a i:=LZ hv λc h1 h2 h3=>by
   unfold outs;rw[SF h2 h3,al (by omega),Int.toNat_of_nonneg h2]
  simp only;rw[al (by simp;omega),uT hv hlen i hN,aqI,hc,qQ 0 (by omega) (by omega),aqI]
  have Sc:∀v,bn (bn (outs p q a k) i v) i (O p q a i)=outs p q a (k+1)/\(v=O p q a i->bn (outs p q a k) i v=outs p q a (k+1)):=by
   intro v
   have e:bn (outs p q a k) i (O p q a i)=outs p q a (k+1):=by
    unfold bn outs;rw[Bz]
    refine List.map_congr_left λj hj=>?_
    have:=List.mem_range.1 hj;by_cases h:j=i.toNat
    .rw[al h,al (by omega),h,Int.toNat_of_nonneg (by omega)]
    .rw[aj h];by_cases h':p.length<=j+k
     .rw[al h',al (by omega)]
     .rw[aj h',aj (by omega)]
   refine⟨?_,λh=>h▸e⟩;unfold bn at e⊢;rw[List.set_set];exact e
  grind [idx,bn,S.at',aH]
 .simp only;rw[aj (by simp;omega)]
def VA{p q:List Int}{a:List Bool}{c:Int}(h0:0<=c)(h:c<p.length):at' 0 (outs p q a p.length) c=O p q a c:=by
 grind [S.outs,S.SF]
def SG{p q:List Int}{a:List Bool}{k:Nat}:(outs p q a k).length=p.length:=by simp[outs]
def WC(e:Int)(y:Bool){α:Type}(k:Bool->Option α):((if(!decide (e=(0:Int)))=af then aa af else aa y:Option Bool).bind k)=k (!decide (e=0)||y):=by
 cases decide (e=0)<;>rfl
def EH{N:Nat}(hN:20<=N)(p q:List Int)(a:List Bool):(M.eP N p q a=aa (-1)/\M.jS N p q a=aa (-1))\/
 (V p q/\a.length=p.length/\M.eP N p q a=aa (C p q a (-1))/\M.jS N p q a=M.nL N p q a (-1)):=by
 obtain⟨e,he,hv⟩:=HM (N:=N) p q (by omega);unfold M.eP M.jS;rw[EE,he];simp only[aqI];rw[WC,WC];by_cases h:(!decide (e=0)||(!decide ((a.length:Int)=(p.length:Int))))=af
 .left
  rw[al h,al h];exact⟨rfl,rfl⟩
 .right
  have h1:e=0:=by simp at h;exact h.1
  have h2:a.length=p.length:=by simp at h;omega
  have hv:=hv h1;rw[aj h,aj h,HO hv h2 hN];simp only[aqI];rw[uT hv SG (-1) hN];refine⟨hv,h2,?_,?_⟩
  .exact ay aa (LZ hv λc _ h0 h=>VA h0 h)
  .cases M.nL N p q a (-1)<;>rfl
section
variable {p q:List Int} {a:List Bool} (hv:V p q) (ha:a.length=p.length)
include hv ha
def acv{N:Nat}{o:Int->Int}{i:Int}(hN:20<=N)(ho:∀c,c∈ch p i->M.eT aJ N p q a c=aa (o c)):M.py aJ (N+1) p q a i=aa (sz o q (ch p i)):=by
 have h8:=hv.n8;have hl:=SD p i;unfold M.py;rw[EF,yr i h8 (by unfold aJ;omega),aqI];refine rS (λk:Nat=>((k:Int),((ch p i).take k).foldl (step o q) [])) (ch p i).length _ rfl ?_ ?_ (by unfold aJ;omega)
 .intro k hk
  have hw:aqJ.wrap ((k:Int)+1)=((k+1:Nat):Int):=by rw[aH]<;>omega
  have hc:=tM hv (aqN hk);have hq:=hv.len;simp only;rw[al (by simp;omega),aF hk,aqI,ho _ (aqN hk),aqI,hw];have hb:=SE (q:=q) (b:=((ch p i).take k).foldl (step o q) []) (c:=(ch p i)[k]) (o:=o) rfl (λx hx=>by have:=tM hv (wL.subset hx);omega) (by grind [S.wL]) ⟨hc.2.1,by omega⟩;simp only[aqI]
  grind [List.take_succ_eq_append_getElem]
 .simp only;rw[aj (by simp),ara];rfl
def C2{N:Nat}{o:Int->Int}{i:Int}(hN:20<=N)(ho:∀c,c∈ch p i->M.eT aJ N p q a c=aa (o c))(oY:∀c,c∈ch p i->M.eT aJ (N+1) p q a c=aa (o c)):M.gX aJ (N+2) p q a i=aa (yN o (sz o q (ch p i))):=by
 unfold M.gX;rw[acv hv ha hN ho,aqI];unfold yN
 cases hb:sz o q (ch p i)with
 |nil=>simp
 |cons x b=>
  have hx:=(tL o q (ch p i)).sub.subset (show x∈sz o q (ch p i) by rw[hb];simp)
  have h1:¬((x::b).length:Int)=0:=by simp only[arh];omega
  simp only[h1,decide_false,aqM,if_false,vY,aqI,EG];by_cases h2:1<((x::b).length:Int)
  .simp only[h2,decide_true,if_true];rw[aj (by omega)]
  .simp only[h2,decide_false,aqM,if_false];rw[oY x hx,al (by simp only[arh]at h1 h2⊢;omega)];rfl
def A6:∀(k N:Nat)(i:Int),8<k+i->0<=i->i<p.length->3*k+30<=N->M.eT aJ N p q a i=aa (out p q a k i)
 |0,N,i,h,_,h2,_=>by have:=hv.n8;omega
 |k+1,N,i,h,h0,h2,hN=>by
  obtain⟨N,rfl⟩:∃n,N=n+3:=⟨N-3,by omega⟩
  unfold M.eT;rw[C2 hv ha (o:=out p q a k) (by omega) (λc hc=>?_) (λc hc=>?_),aqI,wK]
  .grind [S.cout,S.qQ]
  .have:=tM hv hc;exact A6 k N c (by omega) (by omega) (by omega) (by omega)
  .have:=tM hv hc;exact A6 k (N+1) c (by omega) (by omega) (by omega) (by omega)
theorem ajf{N:Nat}{i:Int}(h0:0<=i)(h:i<p.length)(hN:90<=N):M.eT aJ N p q a i=aa (O p q a i):=A6 hv ha 16 N i (by omega) h0 h (by omega)
def EI{N:Nat}{i:Int}(hN:100<=N):M.gX aJ N p q a i=aa (C p q a i):=by
 obtain⟨N,rfl⟩:∃n,N=n+2:=⟨N-2,by omega⟩
 refine C2 hv ha (by omega) (λc hc=>?_) λc hc=>?_
 all_goals
  have:=tM hv hc
  grind [S.ajf]
end
def YX(p q:List Int)(a:List Bool):M.eP aJ p q a=M.jS aJ p q a:=by
 rcases EH (N:=aJ) (by unfold aJ;omega) p q a with⟨h1,h2⟩|⟨hv,ha,h1,h2⟩
 .rw[h1,h2]
 .rw[h1,h2];exact(EI hv ha (N:=aJ) (by unfold aJ;omega)).symm
end L.S
end
namespace L.P
def HP{e:List Ty}{s:Sg}(Lp:∀n∈e,WF aD n){r:Ty×Int×Int}(hT:M.iO aJ e s=aa r)(h0:r.2.2=0){env:bR.den}(he:kl env)(ht:AA env)(ag:Yz s env):Wp (M.mN aJ e env) (oW r.1):=by
 obtain⟨r',er,hr⟩:=CQ (s:=s) Lp;rw[hT]at er;obtain rfl:=aqL er;obtain⟨st,w,ty,Kj,N0⟩:=hr h0;have oZ:0<e.length:=List.length_pos_iff.2 w.ne;rw[He w he ht Lp,Kj];exact .some (vr w he ag N0 e.length (e.length-1) (by omega) (by omega))
end L.P
namespace L
def SH(x:iV)(a d:Int)(hl:x.2.2.2.2.length<=100000):M.nJ aJ x a d=M.fP aJ x a d:=(T.SC x a d hl).trans (T.Oi x a d hl).symm
def Oj{l:Lw}(hw:WF cC l){x:iV}{d:Int}{m:Tc}(hM:BM l x d m)(hs:jW x){env:Su}(hE:J6 l x d env)(hT:P.AA env)(mem a:Int):mW (M.pz aJ x env mem a) (M.cG aJ m env mem a) (Sv l x d m mem a):=by
 have UX:=hs.2.2.2.1;have he:=hE.ok hw;have ag:=hE.agr;unfold M.pz M.cG;rw[hM.scope,hE.date,SH x a d (by omega)]
 refine mW.same (Oc x a d (by omega)) λt ht=>?_
 obtain⟨li,pa,pr⟩:=t;obtain⟨t1,t2,t3⟩:=ht;dsimp only at t1 t2 t3⊢
 have hle:li.length<=60:=by rw[t1];exact Nat.le_trans (pI ..) (by omega)
 have vi:∀y∈li,0<=y/\∃i j,∃hj:j<x.2.2.2.2.length,Rl l x d m y i j hj/\(x.2.2.2.2[j].2.1:Int)=a:=λy hy=>by
  rw[t1]at hy;obtain⟨j,hj,hp,rfl⟩:=kG.1 hy;rw[qD hj]at hp;have hp:=ao hp;have Qf:((j:Nat):Int)∈yM x.2.2.2.2 d:=kG.2 ⟨j,hj,by rw[qD hj];exact au hp.2,rfl⟩;obtain⟨i,j',EL,hR⟩:=hM.Vx hs Qf
  obtain rfl:j=j':=by have:=hR.num;omega
  exact⟨by omega,i,j,EL,hR,hp.1⟩
 have Bc:ol (li.length:Int) ah=aa (aqO li.length ah):=by
  unfold ol;rw[al (by omega),aqR]
 rw[Bc,aqI];refine mW.join ?_
 refine(mW.count (Q:=Sm (λb b'=>b=b'/\b.length=li.length) (λr r'=>r=r'/\(r.2.1:Int)≠0)) li.length (λk s s'=>s.1=(k:Int)/\s'.1=(k:Int)/\s.2.length=k/\s'.2=s.2++aqO (li.length-k) ah) (by omega) ⟨rfl,rfl,rfl,by simp⟩ λk s s' hk hJ=>?_).mono λu u' hu=>?_
 .obtain⟨c,b⟩:=s;obtain⟨c',b'⟩:=s';obtain⟨j1,j2,j3,j4⟩:=hJ;dsimp only at j1 j2 j3 j4;subst j1 j2 j4
  refine mW.dec (λaI=>?_) λhge=>?_
  rotate_left
  .have:k=li.length:=by dsimp only at hge;omega
   refine .some ⟨by rw[this,Nat.sub_self];simp,by dsimp only;omega⟩
  have aI:k<li.length:=by dsimp only at aI;omega
  have Sc:∀v:Bool,bn (b++aqO (li.length-k) ah) (k:Int) v=(b++[v])++aqO (li.length-(k+1)) ah:=λv=>by
   obtain⟨n,hn⟩:∃n,li.length-k=n+1:=⟨li.length-k-1,by omega⟩
   rw[hn,show li.length-(k+1)=n by omega];unfold bn;rw[aqR,List.set_append_right _ _ (by omega),List.replicate_succ,j3];simp
  have hb:k<(b++aqO (li.length-k) ah).length:=by simp;omega
  dsimp only;refine mW.join ?_;obtain⟨_,i,j,hj,hR,_⟩:=vi _ (aqN aI);obtain⟨g,v,e1,e2,cg,cv⟩:=hR.code
  have hx:idx x.2.2.2.2 li[k]=aa x.2.2.2.2[j]:=by rw[hR.num];exact aF hj
  rw[aF aI,aqI,aqI,hx,aqI,hR.pos,aqI,e1,aqI]
  rcases cg with⟨c1,c2⟩|⟨c1,c2⟩
  .subst c2;rw[al (au (show((x.2.2.2.2[j].2.2.2.2.2.1.length:Nat):Int)=0 by omega)),al (by decide),aF hb,aqI,br (by simp;omega),aqI];exact .some (.some ⟨aI,bF (m:=li.length) (by omega) aI,bF (m:=li.length) (by omega) aI,by simp[j3],Sc _⟩)
  .have hg:=c2.pos;obtain⟨n,w,r1,r2⟩:=c2.run env he hT ag;rw[aj (by rw[az];omega),aj (by rw[az];omega),r1,r2];simp only[aqI];by_cases YY:w.2=0
   .rw[aj (by simpa using YY),aj (by simpa using YY),aF hb,aqI,br (by simp;omega),aqI];exact .some (.some ⟨aI,bF (m:=li.length) (by omega) aI,bF (m:=li.length) (by omega) aI,by simp[j3],Sc _⟩)
   .rw[al (by simpa using YY),al (by simpa using YY)];exact .some ⟨rfl,YY⟩
 .cases u<;>cases u'
  .obtain⟨rfl,hb⟩:=hu;rename_i b
   show mW ((M.jS aJ pa pr b).bind _) ((M.eP aJ pa pr b).bind _) _
   rw[<-S.YX]
   refine mW.same (Od pa pr b (by omega)) λr hr=>?_
   rw[t2]at hr
   rcases hr with rfl|rfl|⟨r1,r2⟩
   .exact .some (.none rfl)
   .exact .some (.two rfl)
   .obtain⟨y,hy,hm⟩:=xP r1 r2;obtain⟨h0,i,j,hj,hR,ha⟩:=vi y hm;rw[aj (by rw[az];omega),aj (by rw[az];omega),aj (by rw[az];omega),hy,aqI,aqI,hR.pos,aqI];exact .some (.Vx rfl rfl h0 ha hR)
  .exact hu.elim
  .exact hu.elim
  .rename_i r r';obtain⟨rfl,hn⟩:=hu;obtain⟨r,e⟩:=r;exact .err hn
def YZ{l:Lw}(hw:WF cC l){x:iV}{d:Int}{m:Tc}(hM:BM l x d m)(hs:jW x)(wP:WF bg x)(hv:∀i,∀hi:i<x.2.2.2.2.length,r7 l x i x.2.2.2.2[i]=0){env:Su}(hE:J6 l x d env)(hT:P.AA env)(mem a:Int):
 ∃(r':Int)(e':aG.den),M.cG aJ m env mem a=aa (r',e')/\
  (((e'.1:Int)≠0/\M.jT aJ x env mem a=aa (((0:Int),((0:Int),(0:Int))),(0:Int),e'))\/
    ((e'.1:Int)=0/\∃(v:Vl×Int)(c:List Ty)(n rr:Int),idx m.2.1.2.2.2 r'=aa c/\idx m.2.2 r'=aa rr/\M.rL aJ c env=aa (v.1,n,v.2)/\
      (v.2≠0->M.jT aJ x env mem a=aa (((0:Int),((0:Int),(0:Int))),(0:Int),(v.2,(mem,(a,rr)))))/\
      (v.2=0->M.jT aJ x env mem a=aa (v.1,rr,((0:Int),((0:Int),((0:Int),(0:Int)))))/\∃k:Nat,a=(k:Int)/\∃f,x.2.2.2.1[k]? =aa f/\P.ma v.1 f.2))):=by
 obtain⟨p,q,e1,e2,hQ⟩:=Oj hw hM hs hE hT mem a;unfold M.jT;rw[e1,aqI]
 cases hQ with
 |err h=>exact⟨_,_,e2, .inl ⟨h,by rw[al (by simpa using h)]⟩⟩
 |none h=>exact⟨_,_,e2, .inl ⟨by show(10:Int)≠0;decide,by rw[aj (by simpa using h),al (by simp)]⟩⟩
 |two h=>exact⟨_,_,e2, .inl ⟨by show(11:Int)≠0;decide,by rw[aj (by simpa using h),aj (by simp),al (by simp)]⟩⟩
 | @Vx e e' y i j hj h h' h0 ha hR=>
   obtain⟨g,c,_,i2,_,cc⟩:=hR.code;obtain⟨n,v,r1,r2⟩:=cc.run env (hE.ok hw) hT hE.agr
   have hx:idx x.2.2.2.2 y=aa x.2.2.2.2[j]:=by rw[hR.num];exact aF hj
   dsimp only;rw[aj (by simpa using h),aj (by rw[az];omega),aj (by rw[az];omega),hx,aqI,r2,aqI];refine⟨_,_,e2, .inr ⟨h',v,c,n,y,i2,hR.ind,r1,λhz=>by rw[al (by simpa using hz)],λhz=>⟨by rw[aj (by simpa using hz)],?_⟩⟩⟩;obtain⟨⟨k,hk,e3,r,t1,t2,t3⟩,_⟩:=vw wP hj (hv j hj);have G6:=wP.2.2.2.2.2 _ (aqN hj);obtain⟨w,ew,_,hw2⟩:=P.HP G6.2.2.2.2.2.2.1.2 t1 t2 (hE.ok hw) hT hE.agr;rw[r2]at ew;obtain rfl:=aqL ew;refine⟨k,ha.symm.trans e3,_,aqK hk,?_⟩;rw[<-t3];exact hw2 hz
end L
namespace L
def Td.set{D:List Vl}{fs:List Fd}(h:Td D fs){k:Nat}{v:Vl}{f:Fd}(hf:fs[k]? =aa f)(hv:P.ma v f.2):Td (bn D (k:Int) v) fs:=by
 refine⟨by rw[fg];exact h.1,λj w g hw hg=>?_⟩;unfold bn at hw;rw[aqR,List.getElem?_set]at hw;by_cases e:k=j
 .subst e;rw[al rfl]at hw;split at hw
  .obtain rfl:=aqL hw;rw[hf]at hg;obtain rfl:=aqL hg;exact .inl hv
  .cases hw
 .rw[aj e]at hw;exact h.2 j w g hw hg
def wM{α:Type}(n:Nat)(v:α)(h:n<=100000):ol (n:Int) v=aa (aqO n v):=by
 unfold ol;rw[al (by omega),aqR]
end L
namespace L
def C4(l:List Int)(h:l.length<=100000):M.ri aJ l l=aa af:=by
 apply Wp.eq;unfold M.ri;rw[aj (by simp)]
 refine Wp.count (λs=>s) l.length (λ_ _=>True) (by omega) rfl trivial λk s hk hs _=>?_
 obtain rfl:s=_:=hs
 refine Wp.seq (λj=>j=decide (k<l.length)) ?_ λj hj=>?_
 .refine Wp.dec (λh=> .some ?_) λh=> .some ?_
  .simp
  .simp;omega
 .subst hj
  refine Wp.dec (λaI=>?_) λ_=> .some rfl
  rw[aF aI,aqI,aqI,aj (by simp)];exact .some ⟨aI,bF (m:=l.length) (by omega) aI,trivial⟩
def yt(l:List Vl)(h:l.length<=100000):M.oR aJ l l=aa af:=by
 apply Wp.eq;unfold M.oR;rw[aj (by simp)]
 refine Wp.count (λs=>s) l.length (λ_ _=>True) (by omega) rfl trivial λk s hk hs _=>?_
 obtain rfl:s=_:=hs
 refine Wp.seq (λj=>j=decide (k<l.length)) ?_ λj hj=>?_
 .refine Wp.dec (λh=> .some ?_) λh=> .some ?_
  .simp
  .simp;omega
 .subst hj
  refine Wp.dec (λaI=>?_) λ_=> .some rfl
  rw[aF aI,aqI,aqI,aj (by rw[G9];decide)];exact .some ⟨aI,bF (m:=l.length) (by omega) aI,trivial⟩
def Ol(l:List aM.den)(h:l.length<=100000)(hm:∀r∈l,r.1.length<=100000/\r.2.length<=100000):M.jU aJ l l=aa af:=by
 apply Wp.eq;unfold M.jU;rw[aj (by simp)]
 refine Wp.count (λs=>s) l.length (λ_ _=>True) (by omega) rfl trivial λk s hk hs _=>?_
 obtain rfl:s=_:=hs
 refine Wp.seq (λj=>j=decide (k<l.length)) ?_ λj hj=>?_
 .refine Wp.dec (λh=> .some ?_) λh=> .some ?_
  .simp
  .simp;omega
 .subst hj
  refine Wp.dec (λaI=>?_) λ_=> .some rfl
  have:=hm _ (aqN aI)
  have e:M.kF aJ l[k] l[k]=aa af:=by
   unfold M.kF;rw[yt _ this.1,aqI,al rfl,C4 _ this.2];rfl
  rw[aF aI,aqI,aqI,e,aqI,aj (by simp)];exact .some ⟨aI,bF (m:=l.length) (by omega) aI,trivial⟩
abbrev Rs:=aG.den×List aE.den×List Int×List aM.den
def Bd(p:Rs):Prop:=p.2.1.length<=100000/\p.2.2.1.length<=100000/\p.2.2.2.length<=100000/\∀r∈p.2.2.2,r.1.length<=100000/\r.2.length<=100000
def A7(e:aG.den):Bd (e,([],([],[]))):=⟨by simp,by simp,by simp,λr h=>by cases h⟩
def VB(n:Nat)(h:n<=100000){body:Int×List Bool->Option ((Int×List Bool)⊕List Bool)}(hb:∀(k:Nat)(l:List Bool),l.length=n->body ((k:Int),l)=if k<n then(if(k:Int)<(n:Int)then aa (arj (((k+1:Nat):Int),bn l (k:Int) af))else ae)else aa (arc l)):Loop (S:=Int×List Bool) (X:=List Bool) body aJ ((0:Int),aqO n ah)=aa (aqO n af):=by
 apply Wp.eq
 refine Wp.count (λs=>s.1) n (λk s=>s.2=aqO k af++aqO (n-k) ah) (by omega) rfl (by simp) λk s hk hs hJ=>?_
 obtain⟨c,l⟩:=s;dsimp only at hs hJ;subst hs
 have hl:l.length=n:=by rw[hJ];simp;omega
 rw[hb k l hl];by_cases h:k<n
 .rw[al h,al (by omega)];refine .some ⟨h,rfl,?_⟩;dsimp only;rw[hJ]
  obtain⟨q,hq⟩:∃q,n-k=q+1:=⟨n-k-1,by omega⟩
  rw[hq,show n-(k+1)=q by omega];unfold bn;rw[aqR,List.set_append_right _ _ (by simp),List.length_replicate,Nat.sub_self,List.replicate_succ,List.set_cons_zero,List.replicate_succ' (n:=k),ard];rfl
 .rw[aj h]
  have:k=n:=by omega
  subst this;refine .some (show l=aqO k af from ?_);rw[hJ];simp
def Om(fs:List Fd)(h:fs.length<=100000)(d:Int)(vs:List Vl)(T:List aP.den):Loop (S:=Int×Int×(List aE.den)×(List aP.den)×List aD.den) (X:=Int×(List aE.den)×(List aP.den)×List aD.den) (λs8=>
(if(decide (s8.1<(fs.length:Int)))=af then
(idx fs s8.1).bind λx9=>
(cf s8.2.2.2.2 ([x9.2]:List aD.den)).bind λl10=>
some (arj (aqJ.wrap (s8.1+(1:Int)),s8.2.1,s8.2.2.1,s8.2.2.2.1,l10))
else
some (arc (s8.2.1,s8.2.2.1,s8.2.2.2.1,s8.2.2.2.2)))) aJ ((0:Int),d,vs,T,([]:List aD.den))=aa (d,vs,T,fs.map (·.2)):=by
 apply Wp.eq
 refine Wp.count (λs=>s.1) fs.length (λk s=>s.2=(d,vs,T,(fs.take k).map (·.2))) (by omega) rfl rfl λk s hk hs hJ=>?_
 obtain⟨c,s⟩:=s;dsimp only at hs hJ;subst hs hJ
 refine Wp.dec (λaI=>?_) λhge=>?_
 .have aI:k<fs.length:=by dsimp only at aI;omega
  dsimp only;rw[aF aI,aqI,br (by simp;omega),aqI];refine .some ⟨aI,bF (m:=fs.length) (by omega) aI,?_⟩
  show(d,vs,T,(fs.take k).map (·.2)++[fs[k].2])=(d,vs,T,(fs.take (k+1)).map (·.2))
  rw[List.take_add_one,aqK aI,List.map_append];rfl
 .have hge:k=fs.length:=by dsimp only at hge;omega
  subst hge;refine .some ?_;rw[ara];rfl
end L
namespace L
def L0{l:Lw}{x:iV}(h:¬(0:Int)<=x.2.1):(dR l x).2.2.2.2.1=[]:=by
 show(match l.2.2[(x.2.1:Int).toNat]? with|some y=>if 0<=(x.2.1:Int)then y.2.2.2.1.map (λf:Fd=>f.2)else[]|none=>[])=[]
 split
 .rw[aj h]
 .rfl
def VC{l:Lw}{x:iV}{q:Nat}(hq:q<l.2.2.length)(h:(x.2.1:Int)=(q:Int)):(dR l x).2.2.2.2.1=l.2.2[q].2.2.2.1.map (λf:Fd=>f.2):=by
 show(match l.2.2[(x.2.1:Int).toNat]? with|some y=>if 0<=(x.2.1:Int)then y.2.2.2.1.map (λf:Fd=>f.2)else[]|none=>[])=_
 rw[h,aqR,aqK hq];dsimp only;rw[al (show(0:Int)<=(q:Int)from Int.natCast_nonneg q)]
def acw{l:Lw}(hv:Valid l){k:Nat}(hk:k<l.2.2.length)(h:(0:Int)<=l.2.2[k].2.1):∃q,∃hq:q<l.2.2.length,(l.2.2[k].2.1:Int)=(q:Int)/\(l.2.2[q].2.1:Int)= -1:=by
 have hb:=(hv.scope k hk).2.2.1;unfold qL at hb;obtain⟨q,e⟩:=aqV h;have e':(l.2.2[k].2.1:Int)=(q:Int):=e;by_cases h1:(l.2.2[k].2.1:Int)= -1
 .have Da:((q:Nat):Int)= -1:=e'.symm.trans h1;omega
 .have hb:=λg=>hb ⟨h1,g⟩
  have hqk:q<k:=by
   by_cases g:(k:Int)<=l.2.2[k].2.1
   .exact absurd (.inr (.inl g)) hb
   .have g':¬(k:Int)<=(q:Int):=λz=>g (e'▸z)
    omega
  have hq:q<l.2.2.length:=by omega
  refine⟨q,hq,e',?_⟩;by_cases g:(l.2.2[q].2.1:Int)= -1
  .exact g
  .refine absurd (.inr (.inr ⟨l.2.2[q],?_,g⟩)) hb;rw[e',aqR,aqK hq]
def EJ(c:gO.den):Wp (M.m7 aJ c) λr=>r=af->c.2.1.length<=14/\c.2.2.length<=10/\∀vs∈c.2.2,vs.length<=14:=by
 unfold M.m7
 refine Wp.seq (λj=>j=ah->c.2.1.length<=14/\c.2.2.length<=10) ?_ λj hj=>?_
 .refine Wp.dec (λ_=> .some λh=>by cases h) λh=> .some λg=>?_
  have g:=aq g;exact⟨by omega,by omega⟩
 refine Wp.ite (λ_=> .some λh=>by cases h) λhc=>?_
 obtain⟨g1,g2⟩:=hj (by simpa using hc)
 refine Wp.count (λs=>s) c.2.2.length (λk _=>∀i(h:i<c.2.2.length),i<k->c.2.2[i].length<=14) (by omega) rfl (λi h g=>by omega) λk s hk hs hJ=>?_
 obtain rfl:s=_:=hs
 refine Wp.dec (λaI=>?_) λhge=> .some λ_=>⟨g1,g2,λvs Zq=>?_⟩
 .have aI:k<c.2.2.length:=by omega
  rw[aF aI,aqI]
  refine Wp.dec (λ_=> .some λh=>by cases h) λh=> .some ⟨aI,bF (m:=c.2.2.length) (by omega) aI,λi hi hik=>?_⟩
  by_cases e:i<k
  .exact hJ i hi e
  .obtain rfl:i=k:=by omega
   omega
 .obtain⟨i,hi,rfl⟩:=aqZ Zq;exact hJ i hi (by omega)
end L
namespace L
def mW.bj{α J' R R':Type}{a:Option α}{b:Option (J'⊕R')}{f:α->Option R}{k':J'->Option R'}{Q:R->R'->Prop}(h:mW a b λx y=>mW (f x) (match y with| .inl j=>k' j| .inr r=>asp r) Q):mW (a.bind f) (bK b k') Q:=by
 obtain⟨x,y,rfl,rfl,h⟩:=h
 cases y<;>exact h
def mW.jl{J R β:Type}{a:Option (J⊕R)}{b:Option β}{k:J->Option R}{Q:R->β->Prop}(h:mW a b λu y=>match u with| .inl j=>Wp (k j) (Q · y)| .inr r=>Q r y):mW (bK a k) b Q:=by
 obtain⟨x,y,rfl,rfl,h⟩:=h
 cases x with
 |inl j=>
  obtain⟨r,hr,h⟩:=h;exact⟨r,y,hr,rfl,h⟩
 |inr r=>exact⟨r,y,rfl,rfl,h⟩
abbrev Rst:Type:=List (List aE.den)×(List aD.den×List aP.den)
abbrev e00:aG.den:=((0:Int),((0:Int),((0:Int),(0:Int))))
def acx{l:Lw}(hw:WF cC l)(hT:∀t∈l.2.1,t.2.2.2.length<=64){d:Int}{vs D:List Vl}{ms:List (List Vl)}{mts:List Ty}:P.AA (d,(vs,(D,(ms,(mts,l.2.1))))):=λt ht=>by
 have h1:=hT t ht;have h2:=(hw.2.1.2 t ht).2.2.2.2;exact⟨by omega,λr hr=>(h2 r hr).2.2.2⟩
def Valid.rows{l:Lw}(h:Valid l):∀t∈l.2.1,t.2.2.2.length<=64:=λt ht=>by
 obtain⟨_,_,_,_,h5,_⟩:=h.scopes;obtain⟨k,hk,rfl⟩:=aqZ ht;have:=h5 k hk;unfold rY at this;rw[aqK hk]at this;dsimp only at this;split at this
 .cases this
 split at this
 .cases this
 split at this
 .rename_i h0;exact(LP.1 h0).1
 .cases this
def SI{l:Lw}(hw:WF cC l){x:iV}{d:Int}{m:Tc}(hM:BM l x d m)(hs:jW x)(wP:WF bg x)(hv:∀i,∀hi:i<x.2.2.2.2.length,r7 l x i x.2.2.2.2[i]=0){R':Type}(vs:List Vl)(rs:Rst)(F':aG.den->List Vl->R')(mem:Int)(Q:(aG.den×List Vl×List Int)->R'->Prop)
 (hEn:∀D,Td D x.2.2.2.1->J6 l x d (d,(vs,(D,rs))))(hT:∀D,P.AA (d,(vs,(D,rs))))(hF:∀e D,(e.1:Int)≠0->Q (e,[],[]) (F' e D)):
 mW (Loop (S:=Int×Int×(List aE.den)×(List (List aE.den)×(List aD.den×List aP.den))×(List aE.den)×List Int) (X:=(Int×(List aE.den)×(List (List aE.den)×(List aD.den×List aP.den))×(List aE.den)×List Int)⊕(aG.den×(List aE.den)×List Int)) (λs5=>
(if(decide (s5.1<(m.2.1.1.length:Int)))=af then
bK (J:=Int×(List aE.den)×(List (List aE.den)×(List aD.den×List aP.den))×(List aE.den)×List Int) (R:=(Int×Int×(List aE.den)×(List (List aE.den)×(List aD.den×List aP.den))×(List aE.den)×List Int)⊕((Int×(List aE.den)×(List (List aE.den)×(List aD.den×List aP.den))×(List aE.den)×List Int)⊕(aG.den×(List aE.den)×List Int))) ((idx m.2.1.1 s5.1).bind λx7=>
(idx (aqO x.2.2.2.1.length af) x7).bind λx8=>
(if(!x8)=af then
some (arj (s5.2.1,s5.2.2.1,s5.2.2.2.1,s5.2.2.2.2.1,s5.2.2.2.2.2))
else
(M.jT aJ x (s5.2.1,(s5.2.2.1,(s5.2.2.2.2.1,s5.2.2.2.1))) mem x7).bind λy9=>
(if(!decide (y9.2.2.1=(0:Int)))=af then
some (arc (arc (arc (y9.2.2,([]:List aE.den),([]:List Int)))))
else
(idx s5.2.2.2.2.1 x7).bind λWl=>
(idx s5.2.2.2.2.2 x7).bind λUy=>
some (arj (s5.2.1,s5.2.2.1,s5.2.2.2.1,bn s5.2.2.2.2.1 x7 y9.1,bn s5.2.2.2.2.2 x7 y9.2.1))))) λj6=>
some (arj (aqJ.wrap (s5.1+(1:Int)),j6.1,j6.2.1,j6.2.2.1,j6.2.2.2.1,j6.2.2.2.2))
else
some (arc (arj (s5.2.1,s5.2.2.1,s5.2.2.2.1,s5.2.2.2.2.1,s5.2.2.2.2.2))))) aJ ((0:Int),d,vs,rs,aqO x.2.2.2.1.length ((0:Int),((0:Int),(0:Int))),aqO x.2.2.2.1.length (0:Int)))
 (Loop (S:=Int×(List aE.den)×List Int) (X:=((List aE.den)×List Int)⊕R') (λs4=>
(if(decide (s4.1<(m.2.1.1.length:Int)))=af then
(idx m.2.1.1 s4.1).bind λx5=>
(M.cG aJ m (d,(vs,(s4.2.1,rs))) mem x5).bind λy6=>
(if(!decide (y6.2.1=(0:Int)))=af then
some (arc (arc (F' y6.2 s4.2.1)))
else
(idx m.2.1.2.2.2 y6.1).bind λx7=>
(M.rL aJ x7 (d,(vs,(s4.2.1,rs)))).bind λy8=>
(if(!decide (y8.2.2=(0:Int)))=af then
(idx m.2.2 y6.1).bind λx9=>
some (arc (arc (F' (y8.2.2,(mem,(x5,x9))) s4.2.1)))
else
(idx s4.2.1 x5).bind λWl=>
(idx m.2.2 y6.1).bind λUy=>
(idx s4.2.2 x5).bind λx12=>
some (arj (aqJ.wrap (s4.1+(1:Int)),bn s4.2.1 x5 y8.1,bn s4.2.2 x5 Uy))))
else
some (arc (arj (s4.2.1,s4.2.2))))) aJ ((0:Int),aqO x.2.2.2.1.length ((0:Int),((0:Int),(0:Int))),aqO x.2.2.2.1.length (0:Int)))
 (Sm (λb b'=>b=(d,vs,rs,b'.1,b'.2)/\Td b'.1 x.2.2.2.1/\b'.2.length=x.2.2.2.1.length) Q):=by
 have ho:=hM.prg.ord;have kt:=hM.prg.all;have EO:=hs.2.2.1;dsimp only at ho kt
 refine mW.count m.2.1.1.length (λk s s'=>s=(s'.1,d,vs,rs,s'.2.1,s'.2.2)/\s'.1=(k:Int)/\Td s'.2.1 x.2.2.2.1/\s'.2.2.length=x.2.2.2.1.length) (by omega) ⟨rfl,rfl,⟨by simp,λk v f hk _=> .inr ?_⟩,by simp⟩ λk s s' hk hJ=>?_
 .dsimp only at hk;rw[List.getElem?_replicate]at hk;split at hk
  .obtain rfl:=aqL hk;rfl
  .cases hk
 .obtain⟨c,D,rl⟩:=s';obtain⟨j1,j2,j3,j4⟩:=hJ;dsimp only at j1 j2 j3 j4;subst j1 j2
  refine mW.dec (λaI=>?_) λhge=> .some ⟨rfl,j3,j4⟩
  have aI:k<m.2.1.1.length:=by dsimp only at aI;omega
  dsimp only;obtain⟨⟨⟨a0,a1⟩,_⟩,_⟩:=ho k aI;obtain⟨q,hq⟩:=aqV a0
  have Og:q<x.2.2.2.1.length:=by omega
  rw[aF aI,aqI,aqI,hq]
  have hn:idx (aqO x.2.2.2.1.length af) (q:Int)=aa af:=by
   rw[aF (by simpa using Og)];simp
  rw[hn,aqI,aj (by decide)];obtain⟨r',e',g2,g⟩:=YZ hw hM hs wP hv (hEn D j3) (hT D) mem (q:Int);rw[g2,aqI];dsimp only
  rcases g with⟨g,g1⟩|⟨g',v,cd,n,rr,i2,i3,r1,hb,hg⟩
  .rw[g1,aqI,al (by simpa using g),al (by simpa using g)];exact⟨_,_,rfl,rfl,hF _ _ g⟩
  .rw[aj (by simpa using g'),i2,aqI,r1,aqI];dsimp only;by_cases hz:(v.2:Int)=0
   .obtain⟨g1,k',jh,f,hf,hvt⟩:=hg hz
    obtain rfl:q=k':=by omega
    rw[g1,aqI,aj (by simp),aj (by simpa using hz),aF (show q<D.length by rw[j3.1];exact Og),aqI,aqI,i3,aqI,aF (show q<rl.length by omega),aqI,aqI];exact⟨_,_,rfl,rfl,aI,rfl,bF (m:=m.2.1.1.length) (by omega) aI,j3.set hf hvt,by dsimp only;rw[fg];exact j4⟩
   .rw[hb hz,aqI,al (by simpa using hz),al (by simpa using hz),i3,aqI];exact⟨_,_,rfl,rfl,hF _ _ hz⟩
def VD(x:iV)(p:aG.den×(List Vl)×List Int)(e':aG.den)(rs':List Int)(D':List Vl):Prop:=p.1=e'/\((e'.1:Int)=0->p.2.1=D'/\p.2.2=rs'/\Td D' x.2.2.2.1/\rs'.length=x.2.2.2.1.length)
def SJ{l:Lw}(hw:WF cC l){x:iV}{d:Int}{m:Tc}(hM:BM l x d m)(hs:jW x)(wP:WF bg x)(hv:∀i,∀hi:i<x.2.2.2.2.length,r7 l x i x.2.2.2.2[i]=0)(hT:∀t∈l.2.1,t.2.2.2.length<=64)(hmt:(dR l x).2.2.2.2.1=[])(mem:Int){vs:List Vl}(eJ:YR vs x.2.2.1)(D0:List Vl):
 mW (M.iy aJ x (d,(vs,(D0,(([]:List (List aE.den)),(([]:List aD.den),l.2.1))))) mem (aqO x.2.2.2.1.length af)) (M.gw aJ m mem d vs l.2.1) λp q=>VD x p q.1 q.2.2.2.2.1 q.2.2.2.2.2:=by
 have EO:=hs.2.2.1;have ho:=CX hs hM.prg.ord hM.prg.all;dsimp only at ho;unfold M.iy M.gw;rw[hM.scope,wM _ _ (by omega),wM _ _ (by omega),ho];simp only[aqI];refine mW.join ((SI hw hM hs wP hv vs (([]:List (List aE.den)),(([]:List aD.den),l.2.1)) (λe D=>(e,d,vs,l.2.1,([]:List Int),D)) mem (λp q=>VD x p q.1 q.2.2.2.2.1 q.2.2.2.2.2) (λD hD=>⟨rfl,eJ,hD,hmt.symm,by simp,(λD h=>by cases h),rfl⟩) (λD=>acx hw hT) (λe D h=>⟨rfl,λg=>absurd g h⟩)).mono λu u' hu=>?_)
 cases u<;>cases u'
 .obtain⟨rfl,h1,h2⟩:=hu;exact .some ⟨rfl,λ_=>⟨rfl,rfl,h1,h2⟩⟩
 .exact hu.elim
 .exact hu.elim
 .exact hu
def On{l:Lw}(hw:WF cC l){x:iV}{d:Int}{m:Tc}(hM:BM l x d m)(hs:jW x)(wP:WF bg x)(hv:∀i,∀hi:i<x.2.2.2.2.length,r7 l x i x.2.2.2.2[i]=0)(hT:∀t∈l.2.1,t.2.2.2.length<=64)(mem:Int){vs:List Vl}(eJ:YR vs x.2.2.1){ms:List (List Vl)}(hl:ms.length<=100)(M9:∀D∈ms,∀(k:Nat)(t:Ty),(dR l x).2.2.2.2.1[k]? =aa t->∃v,D[k]? =aa v/\(P.ma v t\/(v.1:Int)=0))(D0:List Vl):
 mW (M.iy aJ x (d,(vs,(D0,(ms,((dR l x).2.2.2.2.1,l.2.1))))) mem (aqO x.2.2.2.1.length af)) (M.gx aJ m mem d vs l.2.1 ms (dR l x).2.2.2.2.1) λp q=>VD x p q.1 q.2.2.2.2.2.2.1 q.2.2.2.2.2.2.2:=by
 have EO:=hs.2.2.1;have ho:=CX hs hM.prg.ord hM.prg.all;dsimp only at ho;unfold M.iy M.gx;rw[hM.scope,wM _ _ (by omega),wM _ _ (by omega),ho];simp only[aqI];refine mW.join ((SI hw hM hs wP hv vs (ms,((dR l x).2.2.2.2.1,l.2.1)) (λe D=>(e,d,vs,l.2.1,ms,(dR l x).2.2.2.2.1,([]:List Int),D)) mem (λp q=>VD x p q.1 q.2.2.2.2.2.2.1 q.2.2.2.2.2.2.2) (λD hD=>⟨rfl,eJ,hD,rfl,hl,M9,rfl⟩) (λD=>acx hw hT) (λe D h=>⟨rfl,λg=>absurd g h⟩)).mono λu u' hu=>?_)
 cases u<;>cases u'
 .obtain⟨rfl,h1,h2⟩:=hu;exact .some ⟨rfl,λ_=>⟨rfl,rfl,h1,h2⟩⟩
 .exact hu.elim
 .exact hu.elim
 .exact hu
end L
namespace L
def SK{S X:Type}{f:S->Option (S⊕X)}{s:S}{z:X}(h:f s=aa (.inr z)):Loop f aJ s=aa z:=
 Wp.eq (Wp.loop (λt=>t=s) (λ_=>0) rfl (by unfold aJ;omega) (by rintro _ rfl;rw[h];exact .some rfl))
def yu(l:Lw)(fs:List Fd)(vs:List Vl):M.nC aJ l fs vs=M.dK aJ l vs fs:=by
 unfold M.nC M.dK;by_cases h1:(vs.length:Int)<(fs.length:Int)
 .rw[al (au h1),al (au h1)]
 have n1:¬(decide ((vs.length:Int)<(fs.length:Int)))=af:=by rw[az];exact h1
 rw[aj n1,aj n1];by_cases h2:(fs.length:Int)<(vs.length:Int)
 .rw[al (au h2),al (au h2)]
 have n2:¬(decide ((fs.length:Int)<(vs.length:Int)))=af:=by rw[az];exact h2
 rw[aj n2,aj n2];refine ay (λf=>Loop f aJ (0:Int)) (funext λs=>?_);by_cases h:s<(vs.length:Int)
 rotate_left
 .rw[aj (by simpa using h),aj (by simpa using h)]
 rw[al (au h),al (au h)]
 cases hx:idx vs s with
 |none=>rw[asc,asc]
 |some v=>
 unfold M.vg;simp only[aqI]
 cases hy:idx fs s with
 |none=>rw[asc,asc]
 |some f=>
 simp only[aqI,Q7,ze]
 have he:o6 aD (v.1,v.2.1) f.2=decide ((v.1:Int)=f.2.1/\(v.2.1:Int)=f.2.2):=by
  rw[arB,Tm,az];exact⟨λg=>by rw[<-g];exact⟨rfl,rfl⟩,λg=>Prod.ext g.1 g.2⟩
 rw[he];unfold D4;by_cases g1:(v.1:Int)=f.2.1
 .by_cases g2:(v.2.1:Int)=f.2.2
  .by_cases g3:(v.2.2:Int)<(I6 f.2 l.1).1
   .simp only[g1,g2,g3,decide_true,decide_false,and_self,ari,Bool.not_false,aqM,if_false,if_true,aqI]
    grind
   .by_cases g4:(I6 f.2 l.1).2<(v.2.2:Int)<;>simp only[g1,g2,g3,g4,decide_true,decide_false,and_self,ari,Bool.not_false,aqM,if_false,if_true,aqI]<;>grind
  .simp[g1,g2]
 .simp[g1]
def Oo(l:Lw)(at_:Int)(c:gO.den):M.nD aJ l at_ c=M.gq aJ l at_ c:=by
 unfold M.nD M.gq;refine ay (aqH _) (funext λj1=>?_)
 cases j1 with
 |true=>rw[al rfl,al rfl]
 |false=>
 rw[aj ast,aj ast];refine ay (aqH _) (funext λj2=>?_)
 cases j2 with
 |true=>rw[al rfl,al rfl]
 |false=>
 rw[aj ast,aj ast]
 cases hx:idx l.2.2 at_ with
 |none=>rw[asc,asc]
 |some x=>
 rw[aqI,aqI,yu];refine ay (aqH _) (funext λy4=>?_);by_cases h4:y4.2=0
 rotate_left
 .rw[al (by simpa using h4),al (by simpa using h4)]
 rw[aj (by simpa using h4),aj (by simpa using h4)];unfold M.qI M.fK;rw[hx,aqI,aqI];by_cases hb:(x.2.1:Int)<0\/(l.2.2.length:Int)<=x.2.1
 .have hj:((if(decide ((x.2.1:Int)<(0:Int)))=af then aa af else aa (decide ((l.2.2.length:Int)<=(x.2.1:Int)))):Option Bool)=aa af:=by
   by_cases g:(x.2.1:Int)<0
   .rw[al (au g)]
   .rw[aj (by simpa using g),au (hb.resolve_left g)]
  rw[hj,aqI,aqI,al rfl,al rfl,aqI,aqI];dsimp only;by_cases h5:(0:Int)<(c.2.2.length:Int)
  .rw[al (au h5),al (au h5)]
  .rw[aj (by simpa using h5),aj (by simpa using h5)]
   have h0:c.2.2.length=0:=by omega
   refine(SK (z:=((0:Int),(0:Int),(0:Int))) ?_).trans (SK ?_).symm<;>rw[aj (by simp[h0])]
 .have hj:((if(decide ((x.2.1:Int)<(0:Int)))=af then aa af else aa (decide ((l.2.2.length:Int)<=(x.2.1:Int)))):Option Bool)=aa ah:=by
   rw[aj (by rw[az];exact λg=>hb (.inl g)),av (λg=>hb (.inr g))]
  obtain⟨q,hq⟩:=aqV (show(0:Int)<=x.2.1 from Int.not_lt.1 λg=>hb (.inl g));have sC:(x.2.1:Int)=(q:Int):=hq
  have Og:q<l.2.2.length:=by
   have:¬(l.2.2.length:Int)<=(q:Int):=λg=>hb (.inr (sC▸g))
   omega
  have hi:idx l.2.2 x.2.1=aa l.2.2[q]:=by rw[show idx l.2.2 x.2.1=idx l.2.2 (q:Int)from ay _ sC,aF Og]
  rw[hj,aqI,aqI,aj (by decide),aj (by decide),hi,aqI,aqI,aqI];dsimp only;by_cases h5:(8:Int)<(c.2.2.length:Int)
  .rw[al (au h5),al (au h5)]
  .rw[aj (by simpa using h5),aj (by simpa using h5)];refine ay (λf=>Loop f aJ (0:Int)) (funext λs=>?_);rw[hi,aqI];simp only[yu]
def SL(l:Lw)(hw:WF cC l)(lU:lf l):M.ov aJ l=aa (decide (Valid l)):=by
 unfold M.ov;rw[UZ l hw lU,aqI];exact ay aa (decide_eq_decide.2 Iff.rfl)
def HQ(n:Nat)(h:n<=100000):M.oQ aJ (n:Int)=aa (aqO n af):=by
 unfold M.oQ;rw[wM _ _ h,aqI]
 refine VB n h λk l hl=>?_
 dsimp only;by_cases hk:k<n
 .rw[al (au (by omega)),al hk,al (by omega),aF (by omega),aqI,bF (m:=n) (by omega) hk]
 .rw[aj (by rw[az];omega),aj hk]
def J9(fs:List Fd)(h:fs.length<=100000)(d:Int)(vs:List Vl)(Ms:List (List Vl))(T:List aP.den):Loop (S:=Int×Int×(List aE.den)×(List (List aE.den))×(List aP.den)×List aD.den) (X:=Int×(List aE.den)×(List (List aE.den))×(List aP.den)×List aD.den) (λs3=>
(if(decide (s3.1<(fs.length:Int)))=af then
(idx fs s3.1).bind λx4=>
(cf s3.2.2.2.2.2 ([x4.2]:List aD.den)).bind λl5=>
some (arj (aqJ.wrap (s3.1+(1:Int)),s3.2.1,s3.2.2.1,s3.2.2.2.1,s3.2.2.2.2.1,l5))
else
some (arc (s3.2.1,s3.2.2.1,s3.2.2.2.1,s3.2.2.2.2.1,s3.2.2.2.2.2)))) aJ ((0:Int),d,vs,Ms,T,([]:List aD.den))=aa (d,vs,Ms,T,fs.map (·.2)):=by
 apply Wp.eq
 refine Wp.count (λs=>s.1) fs.length (λk s=>s.2=(d,vs,Ms,T,(fs.take k).map (·.2))) (by omega) rfl rfl λk s hk hs hJ=>?_
 obtain⟨c,s⟩:=s;dsimp only at hs hJ;subst hs hJ
 refine Wp.dec (λaI=>?_) λhge=>?_
 .have aI:k<fs.length:=by dsimp only at aI;omega
  dsimp only;rw[aF aI,aqI,br (by simp;omega),aqI];refine .some ⟨aI,bF (m:=fs.length) (by omega) aI,?_⟩
  show(d,vs,Ms,T,(fs.take k).map (·.2)++[fs[k].2])=(d,vs,Ms,T,(fs.take (k+1)).map (·.2))
  rw[List.take_add_one,aqK aI,List.map_append];rfl
 .have hge:k=fs.length:=by dsimp only at hge;omega
  subst hge;refine .some ?_;rw[ara];rfl
def VE(VS:List (List Vl))(RS:List (List Int))(h:VS.length<=100000)(hl:RS.length=VS.length)(D:List Vl)(rl:List Int):Loop (S:=Int×(List aE.den)×(List Int)×List aM.den) (X:=(List aE.den)×(List Int)×List aM.den) (λTe=>
(if(decide (Te.1<(VS.length:Int)))=af then
(idx VS Te.1).bind λUy=>
(idx RS Te.1).bind λx12=>
(cf Te.2.2.2 ([(Uy,x12)]:List aM.den)).bind λl13=>
some (arj (aqJ.wrap (Te.1+(1:Int)),Te.2.1,Te.2.2.1,l13))
else
some (arc (Te.2.1,Te.2.2.1,Te.2.2.2)))) aJ ((0:Int),D,rl,([]:List aM.den))=aa (D,rl,VS.zip RS):=by
 apply Wp.eq
 refine Wp.count (λs=>s.1) VS.length (λk s=>s.2=(D,rl,(VS.zip RS).take k)) (by omega) rfl rfl λk s hk hs hJ=>?_
 obtain⟨c,s⟩:=s;dsimp only at hs hJ;subst hs hJ
 refine Wp.dec (λaI=>?_) λhge=>?_
 .have aI:k<VS.length:=by dsimp only at aI;omega
  have hz:k<(VS.zip RS).length:=by simp;omega
  dsimp only;rw[aF aI,aqI,aF (show k<RS.length by omega),aqI,br (by simp;omega),aqI];refine .some ⟨aI,bF (m:=VS.length) (by omega) aI,?_⟩;dsimp only;rw[List.take_add_one,aqK hz,List.getElem_zip];rfl
 .have hge:k=VS.length:=by dsimp only at hge;omega
  subst hge;refine .some ?_;rw[List.take_of_length_le (by simp;omega)];rfl
def acy{l:Lw}(lU:lf l)(hv:Valid l){k:Nat}(hk:k<l.2.2.length):∃ms:iV,M.gy aJ l (k:Int)=aa ms/\ms.2.2.2.1.length<=14/\((¬(0:Int)<=l.2.2[k].2.1/\ms.2.2.2.1=[])\/∃q,∃hq:q<l.2.2.length,(l.2.2[k].2.1:Int)=(q:Int)/\(l.2.2[q].2.1:Int)= -1/\ms=l.2.2[q]):=by
 unfold M.gy;rw[aF hk,aqI];by_cases h:(0:Int)<=l.2.2[k].2.1
 .obtain⟨q,hq,e,e1⟩:=acw hv hk h;have q14:=(lU.2.2.2.2.2 _ (aqN hq)).2.2.1;refine⟨l.2.2[q],?_,q14, .inr ⟨q,hq,e,e1,rfl⟩⟩
  have ei:idx l.2.2 l.2.2[k].2.1=aa l.2.2[q]:=by
   rw[show idx l.2.2 l.2.2[k].2.1=idx l.2.2 (q:Int)from ay _ e,aF hq]
  have aI:¬(l.2.2.length:Int)<=l.2.2[k].2.1:=λg=>by
   have g:(l.2.2.length:Int)<=(q:Int):=e▸g;omega
  rw[aj (by rw[az];exact Int.not_lt.2 h),av aI,aqI,aj (by decide),ei,aqI]
 .refine⟨(ByteArray.empty,((0:Int),(([]:List Fd),(([]:List Fd),([]:List jV))))),?_,by simp, .inl ⟨h,rfl⟩⟩;rw[al (au (Int.not_le.1 h)),aqI,al rfl]
def VF(l:Lw)(hw:WF cC l)(lU:lf l)(at_:Int)(c:gO.den)(h1:c.2.1.length<=14)(h2:c.2.2.length<=10)(h3:∀vs∈c.2.2,vs.length<=14):mW (M.ug aJ l at_ c) (M.lz aJ l at_ c) λp q=>p=q/\Bd q:=by
 unfold M.ug M.pU M.lz;rw[Vm l hw lU,SL l hw lU,aqI,aqI];by_cases hv:Valid l
 rotate_left
 .rw[al (show(!decide (Valid l))=af by simpa using hv),aqI,al (by simp),al (by simpa using(show¬(uE l).1=0 from hv))];exact .some ⟨rfl,A7 _⟩
 have Iy:(uE l).1=0:=hv;rw[aj (show¬(!decide (Valid l))=af by simpa using hv),aj (show¬(!decide ((uE l).1=0))=af by simpa using Iy)];by_cases ho:at_<0\/(l.2.2.length:Int)<=at_
 .have hj:((if(decide (at_<(0:Int)))=af then aa af else aa (decide ((l.2.2.length:Int)<=at_))):Option Bool)=aa af:=by
   by_cases g:at_<0
   .rw[al (au g)]
   .rw[aj (by simpa using g),au (ho.resolve_left g)]
  have EL:((if(decide (at_<(0:Int)))=af then aa af else(if(decide ((l.2.2.length:Int)<=at_))=af then aa af else(if ah=af then(if(decide ((0:Int)<(0:Int)))=af then aa af else(idx l.2.2 at_).bind λx3=>aa (decide ((x3.2.2.2.1.length:Int)<=(0:Int))))else aa ah))):Option Bool)=aa af:=by
   by_cases g:at_<0
   .rw[al (au g)]
   .rw[aj (by simpa using g),al (au (ho.resolve_left g))]
  rw[hj,EL,aqI,aqI,al rfl,al rfl,aqI,al (by simp)];exact .some ⟨rfl,A7 _⟩
 obtain⟨k,rfl⟩:=aqV (show 0<=at_ by omega)
 have hk:k<l.2.2.length:=by omega
 have hj:((if(decide ((k:Int)<(0:Int)))=af then aa af else aa (decide ((l.2.2.length:Int)<=(k:Int)))):Option Bool)=aa ah:=by
  rw[aj (by rw[az];omega),av (by omega)]
 have EL:((if(decide ((k:Int)<(0:Int)))=af then aa af else(if(decide ((l.2.2.length:Int)<=(k:Int)))=af then aa af else(if ah=af then(if(decide ((0:Int)<(0:Int)))=af then aa af else(idx l.2.2 (k:Int)).bind λx3=>aa (decide ((x3.2.2.2.1.length:Int)<=(0:Int))))else aa ah))):Option Bool)=aa ah:=by
  rw[aj (by rw[az];omega),aj (by rw[az];omega),aj (by decide)]
 rw[hj,EL,aqI,aqI,aj (by decide),aj (by decide)];obtain⟨y,hy,hyc⟩:=Vw hv.enl lU hk c h1 h2 h3;rw[Oo,hy,aqI,aqI];by_cases h0:(y.2.2:Int)=0
 rotate_left
 .have hp:(!decide ((y.2.2:Int)=0))=af:=by simpa using h0
  simp only[al hp,aqI];exact .some ⟨rfl,A7 _⟩
 have hC:=hyc h0;rw[aj (by simpa using h0),aqI,aj (by simp),aj (by simpa using h0)];have rE:=lU.2.2.2.2.2 _ (aqN hk);have wP:=hw.2.2.2 _ (aqN hk);have hru:=(hv.scope k hk).2.2.2.2.2.2.1;have EO:=rE.2.2.1;have hT:=hv.rows;obtain⟨m,em,hm⟩:=A0 l hw lU hv k hk c.1;obtain⟨ms,en,m14,M9⟩:=acy lU hv hk;rw[en,aqI,HQ _ (by omega),aqI]
 have hmt:(dR l l.2.2[k]).2.2.2.2.1=ms.2.2.2.1.map (λf:Fd=>f.2):=by
  rcases M9 with⟨g1,g2⟩|⟨q,hq,g1,_,rfl⟩
  .rw[L0 g1,g2];rfl
  .exact VC hq g1
 refine mW.bj ?_
 refine mW.mono (Q:=λp u=>(∃(VS:List (List Vl))(RS:List (List Int)),p=(e00,VS,RS)/\u=arj (c.1,c.2.1,l.2.1,VS.zip RS,VS,ms.2.2.2.1.map (λf:Fd=>f.2))/\VS.length<=100/\RS.length=VS.length/\(∀D∈VS,Td D ms.2.2.2.1)/\∀r∈RS,r.length<=100000)\/∃e:aG.den,(e.1:Int)≠0/\p=(e,[],[])/\u=arc (e,[],[],[])) ?_ λp u hu=>?_
 .unfold M.kw;rw[en,aqI,aF hk,aqI]
  rcases M9 with⟨g1,g2⟩|⟨q,hq,g1,gn,rfl⟩
  .rw[aj (show¬(decide ((0:Int)<=l.2.2[k].2.1))=af by simpa using g1),g2]
   have hc0:c.2.2.length=0:=by
    rcases hc:c.2.2 with _|⟨vs,t⟩
    .rfl
    .obtain⟨q,_,e,_⟩:=hC.mem vs (by rw[hc];exact ary ..);exact absurd (show(0:Int)<=l.2.2[k].2.1 from e▸Int.natCast_nonneg q) g1
   refine⟨_,_,?_,rfl, .inl ⟨[],[],rfl,rfl,by simp,rfl,(λD h=>by cases h),λr h=>by cases h⟩⟩;rw[SK (z:=arj (([]:List (List Vl)),([]:List (List Int)))) (by rw[aj (by rw[az,hc0];omega)])];rfl
  .obtain⟨mm,emm,Ov⟩:=A0 l hw lU hv q hq c.1;have hsq:=lU.2.2.2.2.2 _ (aqN hq);have hwq:=hw.2.2.2 _ (aqN hq);have hrq:=(hv.scope q hq).2.2.2.2.2.2.1
   have hnq:(dR l l.2.2[q]).2.2.2.2.1=[]:=L0 (λg=>by
    have:(0:Int)<=-1:=gn▸g
    omega)
   rw[al (au (show(0:Int)<=l.2.2[k].2.1 from g1▸Int.natCast_nonneg q)),show M.cX aJ l l.2.2[k].2.1 c.1=M.cX aJ l (q:Int) c.1 by rw[g1],emm,aqI,Ov.scope,Om _ (by omega),aqI];have h8:=hC.le;refine mW.jl ?_
   refine mW.count c.2.2.length (λi s s'=>∃(VS:List (List Vl))(RS:List (List Int)),s=((i:Int),VS,RS)/\s'=((i:Int),c.1,c.2.1,l.2.1,l.2.2[q].2.2.2.1.map (λf:Fd=>f.2),VS.zip RS,VS)/\VS.length=i/\RS.length=i/\(∀D∈VS,Td D l.2.2[q].2.2.2.1)/\∀r∈RS,r.length<=100000) (by omega) ⟨[],[],rfl,rfl,rfl,rfl,(λD h=>by cases h),λr h=>by cases h⟩ λi s s' hi hJ=>?_
   obtain⟨VS,RS,rfl,rfl,j1,j2,j3,j4⟩:=hJ
   refine mW.dec (λajg=>?_) λhge=>?_
   rotate_left
   .exact .some (.some (.inl ⟨VS,RS,rfl,rfl,by omega,by omega,j3,j4⟩))
   have aI:i<c.2.2.length:=by dsimp only at ajg;omega
   dsimp only;unfold M.pe;rw[aF aI,aqI,aqI,aqI];obtain⟨q',sC,e',eJ⟩:=hC.mem _ (aqN aI)
   obtain rfl:q'=q:=by
    have:((q':Nat):Int)=(q:Int):=e'.symm.trans g1;omega
   refine mW.seq _ (SJ hw Ov hsq hwq hrq hT hnq (i:Int) eJ []) λp p' hp=>?_
   obtain⟨r1,r4⟩:=hp;rw[r1];by_cases hz:(p'.1.1:Int)=0
   .obtain⟨r2,r3,d1,d2⟩:=r4 hz;have dl:=d1.1;have ao6:=hsq.2.2.1;rw[aj (by simpa using hz),aj (by simpa using hz),r2,r3,br (by simp;omega),aqI,br (by simp;omega),aqI,aqI,br (by simp;omega),aqI];refine .some ⟨aI,VS++[p'.2.2.2.2.2],RS++[p'.2.2.2.2.1],?_,?_,by simp[j1],by simp[j2],λD hD=>?_,λr hr=>?_⟩
    .rw[bF (m:=c.2.2.length) (by omega) aI]
    .rw[bF (m:=c.2.2.length) (by omega) aI,List.zip_append (by omega)];rfl
    .rcases aq7.1 hD with h|h
     .exact j3 D h
     .obtain rfl:D=p'.2.2.2.2.2:=by simpa using h
      exact d1
    .rcases aq7.1 hr with h|h
     .exact j4 r h
     .obtain rfl:r=p'.2.2.2.2.1:=by simpa using h
      omega
   .rw[al (by simpa using hz),al (by simpa using hz)];exact .some (.inr ⟨_,hz,rfl,rfl⟩)
 .rcases hu with⟨VS,RS,rfl,rfl,k1,k2,k3,k4⟩|⟨e,he,rfl,rfl⟩
  rotate_left
  .rw[al (by simpa using he)];exact .some ⟨rfl,A7 _⟩
  dsimp only;unfold M.xw;rw[aj (by simp),aF hk,aqI,en,aqI,J9 _ (by omega),aqI,aqI,HQ _ (by omega),aqI,em,aqI,<-hmt];dsimp only
  refine mW.seq _ (On hw hm rE wP hru hT (-1) hC.inp k1 (λD hD i t ht=>?_) []) λp p' hp=>?_
  .rw[hmt,arP]at ht;obtain⟨f,hf,rfl⟩:=arH.1 ht;have hD:=k3 D hD;have hl:=(aqQ.1 hf).1
   have zJ:i<D.length:=by rw[hD.1];exact hl
   exact⟨_,aqK zJ,hD.2 i _ f (aqK zJ) hf⟩
  .obtain⟨r1,r4⟩:=hp;rw[r1];by_cases hz:(p'.1.1:Int)=0
   .obtain⟨r2,r3,d1,d2⟩:=r4 hz;have:=d1.1;rw[aj (by simpa using hz),aj (by simpa using hz),r2,r3,VE VS RS (by omega) k2,aqI];refine .some ⟨rfl,by dsimp only;omega,by dsimp only;omega,by simp;omega,λr hr=>?_⟩;obtain⟨D,R⟩:=r;have HU:=List.of_mem_zip hr;have:=(k3 D HU.1).1;exact⟨by dsimp only;omega,k4 R HU.2⟩
   .rw[al (by simpa using hz),al (by simpa using hz)];exact .some ⟨rfl,A7 _⟩
def xR(l:Lw)(scope:Int)(c:gO.den)(hw:WF cC l)(_:WF aC scope)(_:WF gO c):M.nM aJ l scope c=aa af:=by
 apply Wp.eq;unfold M.nM
 refine Wp.seq (λj=>j=ah->lf l/\c.2.1.length<=14/\c.2.2.length<=10/\∀vs∈c.2.2,vs.length<=14) ?_ λj hj=>?_
 .refine Wp.seq _ (NJ l hw) λy hy=>?_
  cases y with
  |false=>rw[al (by decide)];exact .some λh=>by cases h
  |true=>
   rw[aj (by decide)]
   refine Wp.seq _ (EJ c) λz hz=> .some λh=>⟨hy rfl,hz (by simpa using h)⟩
 rw[Vp]
 cases j with
 |true=>rw[al rfl];exact .some rfl
 |false=>
 rw[aj (by decide)];obtain⟨lU,g1,g2,g3⟩:=hj rfl;obtain⟨p,q,e1,e2,rfl,hb⟩:=VF l hw lU scope c g1 g2 g3;unfold M.xx;rw[e1,e2,aqI,aqI,aqI]
 have hs:M.qs aJ (p.2.1,(p.2.2.1,p.2.2.2)) (p.2.1,(p.2.2.1,p.2.2.2))=aa af:=by
  unfold M.qs;rw[yt _ hb.1,aqI,al rfl,C4 _ hb.2.1,aqI,al rfl,Ol _ hb.2.2.1 hb.2.2.2];rfl
 rw[hs,aqI,al rfl,al (G9 ..)];exact .some rfl
end L
end Go.Proofs.YtfjgcenlllgonaaGreatDoor
