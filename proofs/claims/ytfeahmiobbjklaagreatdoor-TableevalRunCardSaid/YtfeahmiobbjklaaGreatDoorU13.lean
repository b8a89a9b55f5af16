/- Joined texts: KA KA2 PX6 KV VP KN VR VJ VW VM. -/
import Derived.Test.YtfeahmiobbjklaaGreatDoorU12
import Derived.Test.YtfeahmiobbjklaaGreatDoorU11
import Derived.Test.YtfeahmiobbjklaaGreatDoorU10
open _root_.Bool renaming false->ag,true->af,eq_iff_iff->art,false_eq_true->aqT,not_true->arA,false_ne_true->asC
open _root_.Option renaming some->aa,bind_some->aqN,bind->aqM,bind_none->asi
open _root_.Int renaming reduceEq->ar3,tdiv->aq1,tdiv_eq_ediv_of_nonneg->aq7,tmod->aq3,toNat_natCast->aqX,eq_ofNat_of_zero_le->aqY
open _root_.Go.IntKind renaming i64->aqO
open _root_.List renaming getElem_mem->aqS,getElem_of_mem->aq6,mem_singleton->ari,append_assoc->arQ,getElem?_eq_some_iff->aq9,getElem_append_left->arE,replicate->aqW,drop_eq_getElem_cons->aqZ,getElem?_eq_getElem->aqR,length_take->ard,mem_append->arf
open _root_.Nat renaming div_le_self->arX,div_lt_iff_lt_mul->arp,le_refl->aqU
open _root_.Sum renaming inr->arM
open _root_.Option.some renaming inj->aqP
open _root_.ByteArray renaming empty->asg
namespace Go.Proofs.YtfeahmiobbjklaaGreatDoor
open Go Go.RowKit
set_option maxRecDepth 100000
set_option linter.unusedSimpArgs false
set_option linter.unusedVariables false
set_option linter.defProp false
namespace L.P
def SK{op:Int}(h:1<=op/\op<=39):op=1\/op=2\/op=3\/op=4\/op=5\/op=6\/op=7\/op=8\/op=9\/op=10\/op=11\/op=12\/op=13\/op=14\/op=15\/op=16\/op=17\/op=18\/op=19\/op=20\/op=21\/op=22\/op=23\/op=24\/op=25\/op=26\/op=27\/op=28\/op=29\/op=30\/op=31\/op=32\/op=33\/op=34\/op=35\/op=36\/op=37\/op=38\/op=39:=by omega
theorem Dn(N:Nat)(op:Int):M.gw N op=aa (ar op):=by
 unfold M.gw ar
 grind
def OI(N:Nat)(op:Int):M.iI N op=M.lW N op:=by
 by_cases h:1<=op/\op<=39
 .rcases SK h with rfl|rfl|rfl|rfl|rfl|rfl|rfl|rfl|rfl|rfl|rfl|rfl|rfl|rfl|rfl|rfl|rfl|rfl|rfl|rfl|rfl|rfl|rfl|rfl|rfl|rfl|rfl|rfl|rfl|rfl|rfl|rfl|rfl|rfl|rfl|rfl|rfl|rfl|rfl<;>rfl
 .have ne:∀k:Int,1<=k->k<=39->decide (op=k)=ag:=λk h1 h2=>by simp;omega
  unfold M.iI M.lW;simp only[aS,aqN,mC,ko]
  rcases(show op<1\/39<op by omega)with g|g
  .have l:∀k:Int,1<=k->decide (k<=op)=ag:=λk h1=>by simp;omega
   simp[ne,l]
  .have l:∀k:Int,k<=39->decide (op<=k)=ag:=λk h1=>by simp;omega
   simp[ne,l]
def OJ(N:Nat)(op m l:Int)(hl:0<=l){y:Bool}(hy:M.fh N (op,m)=aa y):M.lm N (op,m) l=aa (y&&decide (l=ar op)):=by
 unfold M.fh at hy;unfold M.lm;rw[pg,OI]at hy;rw[Dn]
 grind
def If(N:Nat)(n:Ty)(env:b8.den):M.kG N n env=M.o4 N n env:=rfl
def zv:Vl:=((0,0,0):Int×Int×Int)
def fin(r:Vl×Int):Vl×Int:=if(r.2:Int)=0 then(if bK r.1.1 r.1.2.1 r.1.2.2 then(r.1,0)else(zv,3))else(zv,r.2)
noncomputable def fP(op m:Int)(args:List Vl)(env:b8.den):Option (Vl×Int):=
 ((M.bX aK ((op,m):Int×Int) args env).bind λy7=>aa (!y7)).bind λj5=>if j5=af then aa (zv,(8:Int))else
   (M.cn aK ((op,m):Int×Int) args env).bind λy8=>(if(!decide (y8.2=(0:Int)))=af then aa (zv,y8.2)else(M.dj aK y8.1).bind λy9=>(if(!y9)=af then aa (zv,(3:Int))else aa (y8.1,(0:Int))))
def kY{op m:Int}{args:List Vl}{env:b8.den}{C:Prop}[Decidable C]{r:Vl×Int}(ha:M.bX aK ((op,m):Int×Int) args env=aa (decide C))(hc:C->M.cn aK ((op,m):Int×Int) args env=aa r):fP op m args env=aa (if C then fin r else(zv,8)):=by
 grind [P.fP,P.fin,P.db]
theorem kZ(N:Nat)(k n:Int):M.cS N k n=aa (fin ((k,0,n),0)):=by
 rw[wV];rfl
theorem qa(N:Nat)(k n e:Int):M.iL N k n e=aa (fin ((k,0,n),e)):=by
 unfold M.iL fin;by_cases h:e=0
 .rw[ai (by simpa using h),wV,aqN];subst h;simp only[if_true];rfl
 .rw[aj (by simpa using h),ai h];rfl
theorem gW(N:Nat)(k:Int):M.da N k=aa (decide (2<=k/\k<=4)):=by
 unfold M.da;simp only[aS,aqN,mC];refine av aa ?_
 grind
theorem iD(N:Nat)(a b:Vl):M.eH N a b=aa (decide ((a.1:Int)=b.1/\(a.2.1:Int)=b.2.1)):=by
 unfold M.eH
 grind
theorem qb(N:Nat)(b:Bool):M.eL N b=aa (1,0,if b=af then 1 else 0):=by
 unfold M.eL;cases b<;>rfl
theorem oA(N:Nat)(b:Bool):M.fK N b=aa (fin ((1,0,if b=af then 1 else 0),0)):=by
 unfold M.fK fin;cases b<;>rfl
theorem Bk{α:Type}(a:α):idx [a] (0:Int)=aa a:=rfl
def SL{α:Type}(a b:α):idx [a,b] (0:Int)=aa a:=rfl
def SM{α:Type}(a b:α):idx [a,b] (1:Int)=aa b:=rfl
theorem Wy{α:Type}(a b c:α):idx [a,b,c] (0:Int)=aa a:=rfl
theorem Wz{α:Type}(a b c:α):idx [a,b,c] (1:Int)=aa b:=rfl
theorem WA{α:Type}(a b c:α):idx [a,b,c] (2:Int)=aa c:=rfl
def xU{α β:Type}(o:Option (α×β)):(o.bind λy=>aa (y.1,y.2))=o:=by cases o<;>rfl
theorem tN{v:Vl}(h:bK v.1 v.2.1 v.2.2):fin (v,0)=(v,0):=by
 unfold fin
 grind
theorem Vy(k:Int):(if 2<=k/\k<=4 then aa af else aa (decide (k=5)))=aa (decide (2<=k)&&decide (k<=5)):=by
 by_cases h:2<=k/\k<=4
 .grind
 .rw[ai h];refine av aa ?_
  grind
def two{op m:Int}{a b:Vl}{env:b8.den}(mR:11<=op/\op<=30){C:Prop}[Decidable C]{r:Vl×Int}(h1:M.aZ aK op a b=aa (decide C))(h2:C->M.b9 aK ((op,m):Int×Int) a b=aa r)
 (h3:M.aX aK ((op,m):Int×Int) a b=aa (if C then fin r else(zv,8))):fP op m [a,b] env=M.aX aK ((op,m):Int×Int) a b:=by
 have ne:∀k:Int,k<11\/30<k->decide (op=k)=ag:=λk h=>by simp;omega
 rw[h3]
 refine kY ?_ λc=>?_
 .unfold M.bX;simp only[ne 7 (by omega),ne 8 (by omega),ne 33 (by omega),ne 34 (by omega),ne 36 (by omega),ne 37 (by omega),ne 38 (by omega),ne 39 (by omega),aqT,if_false,aqN,SL,SM,h1];rfl
 .unfold M.cn;simp only[ne 1 (by omega),ne 2 (by omega),ne 3 (by omega),ne 4 (by omega),ne 5 (by omega),ne 6 (by omega),ne 7 (by omega),ne 8 (by omega),ne 9 (by omega),ne 33 (by omega),ne 34 (by omega),ne 35 (by omega),ne 36 (by omega),ne 37 (by omega),ne 38 (by omega),ne 39 (by omega),aqT,if_false,aqN,SL,SM,h2 c];rfl
def acx(m ka ea na kb eb nb:Int)(env:b8.den):fP 11 m [((ka,ea,na):Int×Int×Int),((kb,eb,nb):Int×Int×Int)] env=M.aX aK ((11,m):Int×Int) ((ka,ea,na):Int×Int×Int) ((kb,eb,nb):Int×Int×Int):=by
 refine two (by omega) (C:=(ka=kb/\ea=eb)/\2<=ka/\ka<=4) (r:=((ka,0,aqO.wrap (na+nb)),0)) ?_ (λ_=>?_) ?_
 .unfold M.aZ;simp[iD,gA]
  grind
 all_goals grind [M.b9,M.aX,M.cV,P.gW,P.kZ,P.zv]
def acy(m ka ea na kb eb nb:Int)(env:b8.den):fP 12 m [((ka,ea,na):Int×Int×Int),((kb,eb,nb):Int×Int×Int)] env=M.aX aK ((12,m):Int×Int) ((ka,ea,na):Int×Int×Int) ((kb,eb,nb):Int×Int×Int):=by
 refine two (by omega) (C:=(ka=kb/\ea=eb)/\2<=ka/\ka<=4) (r:=((ka,0,aqO.wrap (na-nb)),0)) ?_ (λ_=>?_) ?_
 .unfold M.aZ;simp[iD,gA]
  grind
 all_goals grind [M.b9,M.aX,M.cV,P.gW,P.kZ,P.zv]
def acz(m ka ea na kb eb nb:Int)(ha:bK ka ea na)(hb:bK kb eb nb)(env:b8.den):fP 17 m [((ka,ea,na):Int×Int×Int),((kb,eb,nb):Int×Int×Int)] env=M.aX aK ((17,m):Int×Int) ((ka,ea,na):Int×Int×Int) ((kb,eb,nb):Int×Int×Int):=by
 refine two (by omega) (C:=(ka=kb/\ea=eb)/\2<=ka/\ka<=5) (r:=(if decide (True)=decide (nb<na)then((kb,eb,nb):Vl)else((ka,ea,na):Vl),0)) ?_ (λ_=>?_) ?_
 .unfold M.aZ;simp[iD,gA]
  grind [P.Vy]
 .grind [M.b9]
 .unfold M.aX M.cV;have fa:=tN (v:=((ka,ea,na):Int×Int×Int)) ha;have fb:=tN (v:=((kb,eb,nb):Int×Int×Int)) hb;by_cases h1:ka=kb
  .subst h1;by_cases h2:ea=eb
   .subst h2
    have eG:∀k:Int,k<2\/5<k->¬(2<=k/\k<=5):=λk h=>by omega
    by_cases h3:2<=ka/\ka<=5
    .have gg:((M.da aK ka).bind λGQ=>(if(!GQ)=af then aa (!decide (ka=(5:Int)))else aa ag):Option Bool)=aa ag:=by
      rw[gW,aqN];by_cases h5:ka=5
      .subst h5;simp
      .grind
     simp only[gg]
     rcases Int.lt_trichotomy na nb with g|g|g
     all_goals grind
    .have gg:((M.da aK ka).bind λGQ=>(if(!GQ)=af then aa (!decide (ka=(5:Int)))else aa ag):Option Bool)=aa af:=by
      rw[gW,aqN,aj]
      .simp;omega
      .simp;omega
     simp only[gg];simp[h3,zv]
   .simp[h2,zv]
  .simp[h1,zv]
def acA(m ka ea na kb eb nb:Int)(ha:bK ka ea na)(hb:bK kb eb nb)(env:b8.den):fP 18 m [((ka,ea,na):Int×Int×Int),((kb,eb,nb):Int×Int×Int)] env=M.aX aK ((18,m):Int×Int) ((ka,ea,na):Int×Int×Int) ((kb,eb,nb):Int×Int×Int):=by
 refine two (by omega) (C:=(ka=kb/\ea=eb)/\2<=ka/\ka<=5) (r:=(if decide (False)=decide (nb<na)then((kb,eb,nb):Vl)else((ka,ea,na):Vl),0)) ?_ (λ_=>?_) ?_
 .unfold M.aZ;simp[iD,gA]
  grind [P.Vy]
 .grind [M.b9]
 .unfold M.aX M.cV;have fa:=tN (v:=((ka,ea,na):Int×Int×Int)) ha;have fb:=tN (v:=((kb,eb,nb):Int×Int×Int)) hb;by_cases h1:ka=kb
  .subst h1;by_cases h2:ea=eb
   .subst h2
    have eG:∀k:Int,k<2\/5<k->¬(2<=k/\k<=5):=λk h=>by omega
    by_cases h3:2<=ka/\ka<=5
    .have gg:((M.da aK ka).bind λGQ=>(if(!GQ)=af then aa (!decide (ka=(5:Int)))else aa ag):Option Bool)=aa ag:=by
      rw[gW,aqN];by_cases h5:ka=5
      .subst h5;simp
      .grind
     simp only[gg]
     rcases Int.lt_trichotomy na nb with g|g|g
     all_goals grind
    .have gg:((M.da aK ka).bind λGQ=>(if(!GQ)=af then aa (!decide (ka=(5:Int)))else aa ag):Option Bool)=aa af:=by
      rw[gW,aqN,aj]
      .simp;omega
      .simp;omega
     simp only[gg];simp[h3,zv]
   .simp[h2,zv]
  .simp[h1,zv]
def aiM(m ka ea na kb eb nb:Int)(env:b8.den):fP 19 m [((ka,ea,na):Int×Int×Int),((kb,eb,nb):Int×Int×Int)] env=M.aX aK ((19,m):Int×Int) ((ka,ea,na):Int×Int×Int) ((kb,eb,nb):Int×Int×Int):=by
 refine two (by omega) (C:=ka=kb/\ea=eb) (r:=((1,0,if(decide (na=nb))=af then 1 else 0),0)) ?_ (λ_=>?_) ?_
 all_goals grind [M.aZ,P.iD,M.b9,P.qb,M.aX,M.cV,P.oA,P.zv]
def aiN(m ka ea na kb eb nb:Int)(env:b8.den):fP 20 m [((ka,ea,na):Int×Int×Int),((kb,eb,nb):Int×Int×Int)] env=M.aX aK ((20,m):Int×Int) ((ka,ea,na):Int×Int×Int) ((kb,eb,nb):Int×Int×Int):=by
 refine two (by omega) (C:=ka=kb/\ea=eb) (r:=((1,0,if(!decide (na=nb))=af then 1 else 0),0)) ?_ (λ_=>?_) ?_
 all_goals grind [M.aZ,P.iD,M.b9,P.qb,M.aX,M.cV,P.oA,P.zv]
def aiO(m ka ea na kb eb nb:Int)(env:b8.den):fP 21 m [((ka,ea,na):Int×Int×Int),((kb,eb,nb):Int×Int×Int)] env=M.aX aK ((21,m):Int×Int) ((ka,ea,na):Int×Int×Int) ((kb,eb,nb):Int×Int×Int):=by
 refine two (by omega) (C:=(ka=kb/\ea=eb)/\2<=ka/\ka<=5) (r:=((1,0,if decide (na<nb)=af then 1 else 0),0)) ?_ (λ_=>?_) ?_
 .unfold M.aZ;simp[iD,gA]
  grind [P.Vy]
 .unfold M.b9;simp[qb]
 .unfold M.aX M.cV;by_cases h1:ka=kb
  .subst h1;by_cases h2:ea=eb
   .subst h2;by_cases h3:2<=ka/\ka<=5
    .have gg:((M.da aK ka).bind λGQ=>(if(!GQ)=af then aa (!decide (ka=(5:Int)))else aa ag):Option Bool)=aa ag:=by
      rw[gW,aqN];by_cases h5:ka=5
      .subst h5;simp
      .grind
     grind [P.oA]
    .have gg:((M.da aK ka).bind λGQ=>(if(!GQ)=af then aa (!decide (ka=(5:Int)))else aa ag):Option Bool)=aa af:=by
      rw[gW,aqN,aj]
      .simp;omega
      .simp;omega
     simp only[gg];simp[h3,zv]
   .simp[h2,zv]
  .simp[h1,zv]
def aiP(m ka ea na kb eb nb:Int)(env:b8.den):fP 22 m [((ka,ea,na):Int×Int×Int),((kb,eb,nb):Int×Int×Int)] env=M.aX aK ((22,m):Int×Int) ((ka,ea,na):Int×Int×Int) ((kb,eb,nb):Int×Int×Int):=by
 refine two (by omega) (C:=(ka=kb/\ea=eb)/\2<=ka/\ka<=5) (r:=((1,0,if decide (na<=nb)=af then 1 else 0),0)) ?_ (λ_=>?_) ?_
 .unfold M.aZ;simp[iD,gA]
  grind [P.Vy]
 .unfold M.b9;simp[qb]
 .unfold M.aX M.cV;by_cases h1:ka=kb
  .subst h1;by_cases h2:ea=eb
   .subst h2;by_cases h3:2<=ka/\ka<=5
    .have gg:((M.da aK ka).bind λGQ=>(if(!GQ)=af then aa (!decide (ka=(5:Int)))else aa ag):Option Bool)=aa ag:=by
      rw[gW,aqN];by_cases h5:ka=5
      .subst h5;simp
      .grind
     grind [P.oA]
    .have gg:((M.da aK ka).bind λGQ=>(if(!GQ)=af then aa (!decide (ka=(5:Int)))else aa ag):Option Bool)=aa af:=by
      rw[gW,aqN,aj]
      .simp;omega
      .simp;omega
     simp only[gg];simp[h3,zv]
   .simp[h2,zv]
  .simp[h1,zv]
def acB(m ka ea na kb eb nb:Int)(ha:bK ka ea na)(hb:bK kb eb nb)(env:b8.den):fP 23 m [((ka,ea,na):Int×Int×Int),((kb,eb,nb):Int×Int×Int)] env=M.aX aK ((23,m):Int×Int) ((ka,ea,na):Int×Int×Int) ((kb,eb,nb):Int×Int×Int):=by
 refine two (by omega) (C:=ka=1/\kb=1) (r:=((1,0,if na=1/\nb=1 then 1 else 0),0)) ?_ (λ_=>?_) ?_
 .grind [M.aZ]
 .grind [M.b9,P.qb]
 .unfold M.aX M.cV;unfold bK at ha hb;by_cases h1:ka=1
  .grind [P.oA,aE,P.zv]
  .by_cases h2:ka=kb
   all_goals grind [P.zv]
def aiQ(m ka ea na kb eb nb:Int)(ha:bK ka ea na)(hb:bK kb eb nb)(env:b8.den):fP 24 m [((ka,ea,na):Int×Int×Int),((kb,eb,nb):Int×Int×Int)] env=M.aX aK ((24,m):Int×Int) ((ka,ea,na):Int×Int×Int) ((kb,eb,nb):Int×Int×Int):=by
 refine two (by omega) (C:=ka=1/\kb=1) (r:=((1,0,if na=1\/nb=1 then 1 else 0),0)) ?_ (λ_=>?_) ?_
 .grind [M.aZ]
 .grind [M.b9,P.qb]
 .unfold M.aX M.cV;unfold bK at ha hb;by_cases h1:ka=1
  .subst h1;by_cases h2:kb=1
   .subst h2
    grind [P.oA,aE]
   grind [P.zv]
  .by_cases h2:ka=kb
   all_goals grind [P.zv]
def OK(m ka ea na kb eb nb:Int)(env:b8.den):fP 27 m [((ka,ea,na):Int×Int×Int),((kb,eb,nb):Int×Int×Int)] env=M.aX aK ((27,m):Int×Int) ((ka,ea,na):Int×Int×Int) ((kb,eb,nb):Int×Int×Int):=by
 refine two (by omega) (C:=ka=5/\kb=2) (r:=((ka,0,aqO.wrap (na+nb)),0)) ?_ (λ_=>?_) ?_
 all_goals grind [M.aZ,M.b9,M.aX,M.mK,P.kZ,P.zv]
def aiR(d n:Int):∃r,M.dq aK d n=aa r/\M.eA aK d n=aa r:=by
 obtain⟨r,e,_⟩:=sq d n
 grind [P.tM]
def acC(d:Int):∃r,M.eN aK d=aa r/\M.ju aK d=aa r:=by
 obtain⟨r,e,_⟩:=tI d
 grind [P.Bh]
def aiS(a b:Int):∃r,M.eP aK a b=aa r/\M.gR aK a b=aa r:=by
 obtain⟨r,e,_⟩:=sG a b
 grind [P.wU]
def Ig(m ka ea na kb eb nb:Int)(env:b8.den):fP 28 m [((ka,ea,na):Int×Int×Int),((kb,eb,nb):Int×Int×Int)] env=M.aX aK ((28,m):Int×Int) ((ka,ea,na):Int×Int×Int) ((kb,eb,nb):Int×Int×Int):=by
 obtain⟨y,e1,e2⟩:=aiR na nb;refine two (by omega) (C:=ka=5/\kb=2) (r:=((5,0,y.1),y.2)) ?_ (λ_=>?_) ?_
 all_goals grind [M.aZ,M.b9,M.aX,M.mK,P.qa,P.zv]
def YU(m ka ea na kb eb nb:Int)(env:b8.den):fP 29 m [((ka,ea,na):Int×Int×Int),((kb,eb,nb):Int×Int×Int)] env=M.aX aK ((29,m):Int×Int) ((ka,ea,na):Int×Int×Int) ((kb,eb,nb):Int×Int×Int):=by
 refine two (by omega) (C:=ka=5/\kb=5) (r:=((2,0,aqO.wrap (nb-na)),0)) ?_ (λ_=>?_) ?_
 all_goals grind [M.aZ,M.b9,M.aX,M.mK,P.kZ,P.zv]
def Vz(m ka ea na kb eb nb:Int)(env:b8.den):fP 30 m [((ka,ea,na):Int×Int×Int),((kb,eb,nb):Int×Int×Int)] env=M.aX aK ((30,m):Int×Int) ((ka,ea,na):Int×Int×Int) ((kb,eb,nb):Int×Int×Int):=by
 obtain⟨y,e1,e2⟩:=aiS na nb;refine two (by omega) (C:=ka=5/\kb=5) (r:=((2,0,y),0)) ?_ (λ_=>?_) ?_
 all_goals grind [M.aZ,M.b9,M.aX,M.mK,P.kZ,P.zv]
def WB(a b:Int):Int×Int:=if 1000000000000000<a.natAbs*b.natAbs then(0,3)else(a*b,0)
def YV(a b:Int):sg (ng a b) (a.natAbs*b.natAbs)=a*b:=by
 grind [P.sg,P.ng]
theorem Kx{a b:Int}(ha: -1000000000000000<=a/\a<=1000000000000000)(hb: -1000000000000000<=b/\b<=1000000000000000):M.la aK a b=aa (WB a b):=by
 grind [M.la,P.WB,P.Ks,P.wN,aE]
theorem Ih{a b k:Int}(ha: -1000000000000000<=a/\a<=1000000000000000)(hb: -1000000000000<=b/\b<=1000000000000)(hk:k=2\/k=3):M.oL aK k a b=aa (fin ((k,0,(WB a b).1),(WB a b).2)):=by
 unfold M.oL;have hm:=YV a b;have hs:=Ko (ng a b) (a.natAbs*b.natAbs);rw[hm]at hs
 obtain⟨L,hL,hbd⟩:∃L:Nat,M.ll aK k=aa (-(L:Int),(L:Int))/\(k=2/\L=1000000000000\/k=3/\L=1000000000000000):=by
  grind [P.Bj]
 have ab:∀x:Int,-1000000000000000<=x/\x<=1000000000000000->((if(decide (x<(0:Int)))=af then aa (aqO.wrap ((0:Int)-x))else aa x):Option Int)=aa ((x.natAbs:Nat):Int):=by
  intro x hx;by_cases c:x<0
  .grind [aE]
  .grind
 rw[hL,aqN,ab a ha,ab b (by omega),aqN,aqN]
 obtain⟨A,hA⟩:∃A,A=a.natAbs:=⟨_,rfl⟩
 obtain⟨B,hB⟩:∃B,B=b.natAbs:=⟨_,rfl⟩
 obtain⟨P,hP⟩:∃P,P=A*B:=⟨_,rfl⟩
 rw[<-hA,<-hB,<-hP]at hs;have hPb:P<=1000000000000000*1000000000000:=hP▸Nat.mul_le_mul (by omega) (by omega);rw[<-hA,<-hB];dsimp only
 have g1:((if(!decide ((B:Int)=(0:Int)))=af then(n9 (L:Int) (B:Int)).bind λx5=>aa (decide ((aqO.wrap x5)<(A:Int)))else aa ag):Option Bool)=aa (decide (L<P)):=by
  by_cases h0:B=0
  .rw[ai (by simp;omega)];refine av aa ?_
   grind
  .rw[aj (by simp;omega),sQ _ _ h0,aqN];have hq:=arX L B;rw[n4 (by omega)];refine av aa ?_;rw[art,aw,aw,hP];have:=arp (x:=L) (y:=A) (show 0<B by omega);omega
 rw[g1,aqN]
 have hPR:WB a b=if 1000000000000000<P then(0,3)else(a*b,0):=by
  unfold WB;rw[<-hA,<-hB,<-hP]
 by_cases h:L<P
 .rw[aj (by simpa using h)];refine av aa ?_;by_cases h2:1000000000000000<P
  .rw[hPR,aj h2];rfl
  .rw[hPR,ai h2];unfold fin;dsimp only;rw[aj rfl,ai]
   .rfl
   .unfold bK;omega
 .have PZ: -1000000000000000<=a*b/\a*b<=1000000000000000:=by omega
  rw[ai (by simpa using h),aE (by omega) (by omega),kZ,aqN,hPR,ai (show¬1000000000000000<P by omega)]
def acD(m ka ea na kb eb nb:Int)(ha:bK ka ea na)(hb:bK kb eb nb)(env:b8.den):fP 13 m [((ka,ea,na):Int×Int×Int),((kb,eb,nb):Int×Int×Int)] env=M.aX aK ((13,m):Int×Int) ((ka,ea,na):Int×Int×Int) ((kb,eb,nb):Int×Int×Int):=by
 refine two (by omega) (C:=kb=2/\(ka=2\/ka=3)) (r:=((ka,0,(WB na nb).1),(WB na nb).2)) ?_ (λhC=>?_) ?_
 .grind [M.aZ]
 .grind [M.b9,M.jt,P.bK,P.Kx]
 .unfold M.aX M.lq
  grind [P.bK,P.Ih,P.zv]
def OL(m ka ea na kb eb nb:Int)(env:b8.den):fP 14 m [((ka,ea,na):Int×Int×Int),((kb,eb,nb):Int×Int×Int)] env=M.aX aK ((14,m):Int×Int) ((ka,ea,na):Int×Int×Int) ((kb,eb,nb):Int×Int×Int):=by
 have hmu:∃y,M.mX aK na nb m=aa y/\M.rB aK na nb m=aa y:=by
  obtain⟨y,e⟩:∃y,M.mX aK na nb m=aa y:=by
   by_cases h:rO m
   .obtain⟨y,e,_⟩:=LU (a:=na) (b:=nb) h
    grind
   .unfold M.mX;rw[Be,ao h];exact⟨_,rfl⟩
  exact⟨y,e,by rw[<-Vu,e]⟩
 obtain⟨y,e1,e2⟩:=hmu;refine two (by omega) (C:=kb=4/\(ka=3\/ka=4)) (r:=if ka=3 then((ka,0,(Vt na nb m).1),(Vt na nb m).2)else((ka,0,y.1),y.2)) ?_ (λhC=>?_) ?_
 .grind [M.aZ]
 .grind [M.b9,M.jt,P.OC]
 .unfold M.aX M.lq
  grind [P.Kr,P.qa,P.zv]
def acE(m ka ea na kb eb nb:Int)(env:b8.den):fP 15 m [((ka,ea,na):Int×Int×Int),((kb,eb,nb):Int×Int×Int)] env=M.aX aK ((15,m):Int×Int) ((ka,ea,na):Int×Int×Int) ((kb,eb,nb):Int×Int×Int):=by
 refine two (by omega) (C:=(kb=2/\(ka=2\/ka=3))\/(ka=3/\kb=3)) (r:=if kb=2 then((ka,0,(O8 na nb m).1),(O8 na nb m).2)else((4,0,(SA na nb m).1),(SA na nb m).2)) ?_ (λhC=>?_) ?_
 .unfold M.aZ;by_cases h1:kb=2
  .subst h1
   grind
  grind
 .grind [M.b9,M.jt,P.qP,P.E1]
 .unfold M.aX M.lq;by_cases h1:kb=2
  .subst h1;by_cases h2:ka=2
   .subst h2;simp[wQ,qa]
   .by_cases h3:ka=3
    .subst h3;simp[wQ,qa]
    .simp[h2,h3,zv]
  grind [P.BU,P.qa,P.zv]
def OM(m ka ea na kb eb nb:Int)(env:b8.den):fP 16 m [((ka,ea,na):Int×Int×Int),((kb,eb,nb):Int×Int×Int)] env=M.aX aK ((16,m):Int×Int) ((ka,ea,na):Int×Int×Int) ((kb,eb,nb):Int×Int×Int):=by
 have hmu:∃y,M.fH aK na nb m=aa y/\M.lX aK na nb m=aa y:=by
  obtain⟨y,e⟩:∃y,M.fH aK na nb m=aa y:=by
   by_cases h:rO m
   .obtain⟨y,e,_⟩:=AX (a:=na) (b:=nb) h
    grind
   .unfold M.fH;rw[wO,ao h];exact⟨_,rfl⟩
  exact⟨y,e,by rw[<-Kq,e]⟩
 obtain⟨y,e1,e2⟩:=hmu;refine two (by omega) (C:=ka=3/\kb=3) (r:=((ka,0,y.1),y.2)) ?_ (λhC=>?_) ?_
 .grind [M.aZ]
 .grind [M.b9,M.jt]
 .unfold M.aX M.lq;by_cases h1:ka=3
  .subst h1;by_cases h2:kb=3
   .subst h2;simp[e2,qa]
   .simp[h2,zv]
  .simp[h1,zv]
theorem one{op m:Int}{a:Vl}{env:b8.den}(mR:op=10\/op=25\/op=31\/op=32){C:Prop}[Decidable C]{r:Vl}(h1:M.c9 aK op a.1=aa (decide C))(h2:C->M.jC aK op a=aa r)
 (h3:M.cB aK ((op,m):Int×Int) a env=aa (if C then fin (r,0)else(zv,8))):fP op m [a] env=M.cB aK ((op,m):Int×Int) a env:=by
 rw[h3]
 refine kY ?_ λc=>?_
 .unfold M.bX
  rcases mR with rfl|rfl|rfl|rfl<;>simp only[ar3,decide_false,decide_true,aqT,if_false,if_true,aqN,Bk,h1]<;>rfl
 .unfold M.cn
  rcases mR with rfl|rfl|rfl|rfl<;>simp only[ar3,decide_false,decide_true,aqT,if_false,if_true,aqN,Bk,h2 c]<;>rfl
def acF(m ka ea na:Int)(env:b8.den):fP 10 m [((ka,ea,na):Int×Int×Int)] env=M.cB aK ((10,m):Int×Int) ((ka,ea,na):Int×Int×Int) env:=by
 refine one (by omega) (C:=2<=ka/\ka<=4) (r:=((ka,0,aqO.wrap (0-na)):Int×Int×Int)) ?_ (λ_=>?_) ?_
 all_goals grind [M.c9,P.gA,M.jC,M.cB,P.gW,P.kZ,P.zv]
def acG(m ka ea na:Int)(env:b8.den):fP 25 m [((ka,ea,na):Int×Int×Int)] env=M.cB aK ((25,m):Int×Int) ((ka,ea,na):Int×Int×Int) env:=by
 refine one (by omega) (C:=ka=1) (r:=((1,0,if decide (na=0)=af then 1 else 0):Int×Int×Int)) ?_ (λ_=>?_) ?_
 all_goals grind [M.c9,M.jC,P.qb,M.cB,P.oA,P.zv]
def YW(m ka ea na:Int)(env:b8.den):fP 31 m [((ka,ea,na):Int×Int×Int)] env=M.cB aK ((31,m):Int×Int) ((ka,ea,na):Int×Int×Int) env:=by
 obtain⟨y,e1,e2⟩:=acC na
 grind [P.one,M.c9,M.jC,M.cB,P.kZ,P.zv]
def VA(m ka ea na:Int)(env:b8.den):fP 32 m [((ka,ea,na):Int×Int×Int)] env=M.cB aK ((32,m):Int×Int) ((ka,ea,na):Int×Int×Int) env:=by
 obtain⟨y,e1,e2⟩:=acC na
 grind [P.one,M.c9,M.jC,M.cB,P.kZ,P.zv]
def BZ(env:b8.den):Prop:=∀t∈env.2.2.2.2.2,t.2.2.2.length<=1000/\∀r∈t.2.2.2,-9223372036854775808<=(r.2.2.2:Int)/\(r.2.2.2:Int)<=9223372036854775807
def SN{m ka ea na:Int}{env:b8.den}(ht:BZ env)(hm:0<=m/\m<env.2.2.2.2.2.length)(ha:bK ka ea na):fP 33 m [((ka,ea,na):Int×Int×Int)] env=M.cB aK ((33,m):Int×Int) ((ka,ea,na):Int×Int×Int) env:=by
 obtain⟨k,rfl⟩:∃k:Nat,m=k:=⟨m.toNat,by omega⟩
 have hk:k<env.2.2.2.2.2.length:=by omega
 obtain⟨t,hte,htm⟩:∃t,t=env.2.2.2.2.2[k]/\t∈env.2.2.2.2.2:=⟨_,rfl,aqS hk⟩
 have vW:=aC hk;rw[<-hte]at vW;obtain⟨y,ey,hy⟩:=Dc t env.1 na (by have:=(ht t htm).1;omega)
 have ey2:M.nv aK t env.1 na=aa y:=by rw[<-HT];exact ey
 obtain⟨x,hx⟩:∃x:iW.den,y.2=af->idx t.2.2.2 y.1=aa x:=by
  by_cases h:y.2=af
  .obtain⟨h1,h2⟩:=hy h
   obtain⟨j,hj⟩:∃j:Nat,y.1=j:=⟨y.1.toNat,by omega⟩
   rw[hj]at h2⊢;exact⟨_,λ_=>aC (show j<t.2.2.2.length by omega)⟩
  simp_all
 obtain⟨nm,⟨(tk:Int),(te:Int)⟩,⟨(vk:Int),(ve:Int)⟩,rows⟩:=t;dsimp only at ey ey2 hx vW
 have key:M.cB aK ((33,(k:Int)):Int×Int) ((ka,ea,na):Int×Int×Int) env=aa (if(ka=tk/\ea=te)/\1<=vk/\vk<=6 then fin (if y.2=af then(((vk,ve,x.2.2.2):Int×Int×Int),0)else(zv,6))else(zv,8)):=by
  unfold M.cB;simp only[ar3,decide_false,decide_true,aqT,if_false,if_true,aqN,vW];unfold M.r3;dsimp only
  have g:((if(!decide (ka=tk))=af then aa af else(if(!decide (ea=te))=af then aa af else(if(decide (vk<(1:Int)))=af then aa af else aa (decide ((6:Int)<vk))))):Option Bool)=aa (decide (¬((ka=tk/\ea=te)/\1<=vk/\vk<=6))):=by
   by_cases h1:ka=tk<;>by_cases h2:ea=te<;>by_cases h3:vk<1<;>simp[h1,h2,h3]<;>omega
  rw[g,aqN];by_cases hC:(ka=tk/\ea=te)/\1<=vk/\vk<=6
  .rw[ai (by rw[aw];exact λh=>h hC),aj hC,ey2,aqN]
   cases hb:y.2 with
   |false=>rfl
   |true=>
    simp only[arA,aqT,if_false,if_true];rw[hx hb,aqN,fO,aqN];unfold fin;by_cases hp:bK vk ve x.2.2.2
    .grind
    .rw[aj (by simpa using hp)];dsimp only;rw[aj rfl,ai hp];rfl
  .rw[aj (an hC),ai hC];rfl
 rw[key]
 refine kY ?_ λhC=>?_
 .grind [M.bX,P.Bk,P.vH,P.yo]
 .unfold M.cn;simp only[ar3,decide_false,decide_true,aqT,if_false,if_true,aqN,vW,Bk,ey]
  cases hb:y.2 with
  |false=>rfl
  |true=>grind
def Ky{m ka ea na:Int}{env:b8.den}(ht:BZ env)(h0:0<=m)(hm:aqO.wrap (aq1 m 8)<env.2.2.2.2.2.length)(hm2:m<=9223372036854775807)(h5:aq3 m 8<=5):fP 34 m [((ka,ea,na):Int×Int×Int)] env=M.cB aK ((34,m):Int×Int) ((ka,ea,na):Int×Int×Int) env:=by
 have hd:aq1 m 8=m/8:=aq7 h0;rw[hd,aE (by omega) (by omega)]at hm
 obtain⟨k,hk⟩:∃k:Nat,m/8=k:=⟨(m/8).toNat,by omega⟩
 have jn:k<env.2.2.2.2.2.length:=by omega
 have hw:aqO.wrap (aq1 m 8)=k:=by rw[hd,aE (by omega) (by omega),hk]
 obtain⟨t,hte,htm⟩:∃t,t=env.2.2.2.2.2[k]/\t∈env.2.2.2.2.2:=⟨_,rfl,aqS jn⟩
 have vW:=aC jn;rw[<-hte]at vW;have B3:=BV (ht t htm).1 (ht t htm).2 env.1 na (aq3 m 8)
 have acI:t.2.1=((3,0):Int×Int)->t.2.2.1=((4,0):Int×Int)->∃y,M.gM aK t env.1 na (aq3 m 8)=aa y:=λa b=>by
  obtain⟨y,e,_⟩:=yq (d:=env.1) (k:=na) (m:=aq3 m 8) (by grind) a b (by have:=(ht t htm).1;omega)
  grind
 obtain⟨nm,⟨(tk:Int),(te:Int)⟩,⟨(vk:Int),(ve:Int)⟩,rows⟩:=t;dsimp only at B3 acI vW;have hC:(ka=3/\(tk=3/\te=0)/\vk=4/\ve=0)\/¬(ka=3/\(tk=3/\te=0)/\vk=4/\ve=0):=Decidable.em _
 rcases hC with hC|hC
 .obtain⟨rfl,⟨rfl,rfl⟩,rfl,rfl⟩:=hC;obtain⟨y,ey⟩:=acI rfl rfl;rw[ey]at B3;rw[kY (C:=True) (r:=((3,0,y.1),y.2))]
  all_goals grind [M.cB,P.qa,M.bX,P.Bk,mD,M.cn]
 .rw[kY (C:=False) (r:=(zv,0))]
  .unfold M.cB;simp only[ar3,decide_false,decide_true,aqT,if_false,if_true,aqN,hw,vW]
   have g:((if(!decide (ka=(3:Int)))=af then aa af else(if(!decide (tk=(3:Int)))=af then aa af else(if(!decide (te=(0:Int)))=af then aa af else(if(!decide (vk=(4:Int)))=af then aa af else aa (!decide (ve=(0:Int))))))):Option Bool)=aa af:=by
    by_cases h1:ka=3<;>by_cases h2:tk=3<;>by_cases h3:te=0<;>by_cases h4:vk=4<;>simp[h1,h2,h3,h4]at hC⊢<;>exact hC
   rw[g];rfl
  all_goals grind [M.bX,P.Bk,mD]
def aiW(m ka ea na kb eb nb kc ec nc:Int)(hb:bK kb eb nb)(hc:bK kc ec nc)(env:b8.den):fP 26 m [((ka,ea,na):Int×Int×Int),((kb,eb,nb):Int×Int×Int),((kc,ec,nc):Int×Int×Int)] env=
 (((if(!decide (ka=(1:Int)))=af then aa af else(if(!decide (kb=kc))=af then aa af else aa (!decide (eb=ec)))):Option (Bool)).bind λj18=>(if j18=af then aa (((0:Int),((0:Int),(0:Int))),(8:Int))else(if(decide (na=(1:Int)))=af then aa (((kb,eb,nb):Int×Int×Int),(0:Int))else aa (((kc,ec,nc):Int×Int×Int),(0:Int))))):=by
 have fb:=tN (v:=((kb,eb,nb):Int×Int×Int)) hb;have fc:=tN (v:=((kc,ec,nc):Int×Int×Int)) hc;rw[kY (C:=ka=1/\kb=kc/\eb=ec) (r:=(if na=1 then((kb,eb,nb):Int×Int×Int)else((kc,ec,nc):Int×Int×Int),0))]
 all_goals grind [P.zv,M.bX,P.Wy,P.Wz,P.WA,P.iD,M.cn]
def acJ{op m:Int}(h:1<=op/\op<=5)(env:b8.den):fP op m [] env=M.cO aK ((op,m):Int×Int) env:=by
 have mR:op=1\/op=2\/op=3\/op=4\/op=5:=by omega
 rw[kY (C:=True) (r:=((op,0,m),0))]
 .grind [M.cO,P.kZ]
 .unfold M.bX
  rcases mR with rfl|rfl|rfl|rfl|rfl<;>simp
 grind [M.cn]
def YX(m:Int)(env:b8.den):fP 6 m [] env=M.cO aK ((6,m):Int×Int) env:=by
 rw[kY (C:=True) (r:=((6,aqO.wrap (aq1 m 16),aq3 m 16),0))]
 all_goals grind [M.cO,P.fin,P.fO,P.zv,M.bX,M.cn]
def YY(m:Int)(env:b8.den):fP 9 m [] env=M.cO aK ((9,m):Int×Int) env:=by
 rw[kY (C:=True) (r:=((5,0,env.1),0))]
 all_goals grind [M.cO,P.kZ,M.bX,M.cn]
def VB{m:Int}{env:b8.den}(h:0<=m/\m<env.2.1.length):fP 7 m [] env=M.cO aK ((7,m):Int×Int) env:=by
 obtain⟨k,rfl⟩:∃k:Nat,m=k:=⟨m.toNat,by omega⟩
 have hx:=aC (l:=env.2.1) (k:=k) (by omega);generalize env.2.1[k]=x at hx;rw[kY (C:=bK x.1 x.2.1 x.2.2) (r:=(x,0))]
 all_goals grind [M.cO,P.fO,P.tN,P.zv,M.bX,P.db,M.cn]
def acK{m:Int}{env:b8.den}(h:0<=m/\m<env.2.2.1.length):fP 8 m [] env=M.cO aK ((8,m):Int×Int) env:=by
 obtain⟨k,rfl⟩:∃k:Nat,m=k:=⟨m.toNat,by omega⟩
 have hx:=aC (l:=env.2.2.1) (k:=k) (by omega);generalize env.2.2.1[k]=x at hx;rw[kY (C:=bK x.1 x.2.1 x.2.2) (r:=(x,0))]
 all_goals grind [M.cO,P.fO,P.tN,P.zv,M.bX,P.db,M.cn]
end L.P
namespace L.P
def AP(l:List Vl):Bool:=l.all λv=>decide (bK v.1 v.2.1 v.2.2)
def YZ{l:List Vl}(h:AP l=af){v:Vl}(hv:v∈l):bK v.1 v.2.1 v.2.2:=al (List.all_eq_true.1 h v hv)
def WC{l:List Vl}{v:Vl}(hv:v∈l)(h:¬bK v.1 v.2.1 v.2.2):AP l=ag:=by
 unfold AP;rw[List.all_eq_false];exact⟨v,hv,by simp[h]⟩
def SO{l:List Vl}(h:∀k(hk:k<l.length),bK l[k].1 l[k].2.1 l[k].2.2):AP l=af:=by
 unfold AP;rw[List.all_eq_true];intro v hv;obtain⟨k,hk,rfl⟩:=aq6 hv;exact an (h k hk)
def all_eq{l:List Vl}(hl:l.length<=100000):M.dO aK l=aa (AP l):=by
 apply Wp.eq;unfold M.dO;refine Wp.loop (λs:Int=>∃k:Nat,s=k/\k<=l.length/\∀j(hj:j<l.length),j<k->bK l[j].1 l[j].2.1 l[j].2.2) (λs=>(l.length-s).toNat) ⟨0,rfl,Nat.zero_le _,λj _ h=>absurd h (Nat.not_lt_zero j)⟩ (by unfold aK;omega) ?_
 rintro _ ⟨k,rfl,hk,hp⟩
 refine Wp.dec (λh=>?_) λh=> .some (SO λj hj=>hp j hj (by omega)).symm
 have jn:k<l.length:=by omega
 rw[aC jn,aqN,db,aqN];by_cases c:bK l[k].1 l[k].2.1 l[k].2.2
 .rw[ai (by simpa using c),aR (by omega)];refine .some ⟨⟨k+1,rfl,jn,λj hj h=>?_⟩,by simp only;omega⟩
  rcases Nat.lt_or_ge j k with g|g
  .exact hp j hj g
  .have:j=k:=by omega
   subst this;exact c
 .rw[aj (by simpa using c)];exact .some (WC (aqS jn) c).symm
def VC{l:List Vl}(hl:l.length<=100000)(kk:Unit->Option (Vl×Int)):bS (J:=Unit) (R:=aB.den×Int) (Loop (S:=Int) (X:=(Unit)⊕(aB.den×Int)) (λs4=>(if(decide (s4<(l.length:Int)))=af then(idx l s4).bind λx5=>(M.cu aK x5).bind λy6=>(if(!y6)=af then aa (arM (arM (((0:Int),((0:Int),(0:Int))),(8:Int))))else aa (Sum.inl (aqO.wrap (s4+(1:Int)))))else aa (arM (Sum.inl ())))) aK (0:Int)) kk=if AP l=af then kk ()else aa (zv,8):=by
 have key:Wp (Loop (S:=Int) (X:=(Unit)⊕(aB.den×Int)) (λs4=>(if(decide (s4<(l.length:Int)))=af then(idx l s4).bind λx5=>(M.cu aK x5).bind λy6=>(if(!y6)=af then aa (arM (arM (((0:Int),((0:Int),(0:Int))),(8:Int))))else aa (Sum.inl (aqO.wrap (s4+(1:Int)))))else aa (arM (Sum.inl ())))) aK (0:Int)) (λx=>x=if AP l=af then Sum.inl ()else arM (zv,8)):=by
  refine Wp.loop (λs:Int=>∃k:Nat,s=k/\k<=l.length/\∀j(hj:j<l.length),j<k->bK l[j].1 l[j].2.1 l[j].2.2) (λs=>(l.length-s).toNat) ⟨0,rfl,Nat.zero_le _,λj _ h=>absurd h (Nat.not_lt_zero j)⟩ (by unfold aK;omega) ?_
  rintro _ ⟨k,rfl,hk,hp⟩
  refine Wp.dec (λh=>?_) λh=> .some ?_
  .have jn:k<l.length:=by omega
   rw[aC jn,aqN,fO,aqN];by_cases c:bK l[k].1 l[k].2.1 l[k].2.2
   .rw[ai (by simpa using c),aR (by omega)];refine .some ⟨⟨k+1,rfl,jn,λj hj h=>?_⟩,by simp only;omega⟩
    rcases Nat.lt_or_ge j k with g|g
    .exact hp j hj g
    .have:j=k:=by omega
     subst this;exact c
   .rw[aj (by simpa using c)];refine .some ?_
    show _=_
    rw[WC (aqS jn) c];rfl
  .show _=_
   rw[SO λj hj=>hp j hj (by omega)];rfl
 obtain⟨x,e,rfl⟩:=key;rw[e]
 cases AP l<;>rfl
def Kz{n:Ty}{args:List Vl}{env:b8.den}(he:ph env)(ht:BZ env)(hn:WF aA n)(hl:args.length<=100000):M.gN aK n args env=M.kT aK n args env:=by
 obtain⟨(op:Int),(m:Int)⟩:=n;have ZB: -9223372036854775808<=m/\m<=9223372036854775807:=hn.2
 by_cases sL:(35<=op/\op<=39)/\args=[]
 .obtain⟨h,rfl⟩:=sL;rw[OH (by unfold aK;omega) op m env h he.1,BY (by unfold aK;omega) op m env h he.1]
 unfold M.gN M.kT;obtain⟨y,hy,hyf⟩:=Dd aK op m;dsimp only;rw[OJ aK op m _ (by omega) hy,hy,pg,aqN,aqN,aqN]
 cases y with
 |false=>rfl
 |true=>
  by_cases vN:(args.length:Int)=ar op
  case neg=>simp[vN,zv]
  have hf:=hyf rfl;obtain⟨x,hx,Td⟩:=De aK op m env;rw[<-If,hx,aqN];simp only[vN,decide_true,arA,Bool.and_self,aqT,if_false,aqN]
  cases x with
  |false=>rfl
  |true=>
   have Td:=Td rfl;simp only[arA,aqT,if_false];rw[<-vN];rw[VC hl,all_eq hl,aqN]
   cases hA:AP args with
   |false=>rfl
   |true=>
    have uP:=λv hv=>YZ hA (v:=v) hv
    simp only[arA,aqT,if_false,if_true]
    show fP op m args env=_
    have Rv:=hf.1
    have mR:1<=op/\op<=39:=by
     unfold ar at Rv;split at Rv
     .omega
     .split at Rv
      .omega
      .split at Rv
       .omega
       .split at Rv
        .omega
        .omega
    have hal:=qJ op
    have hlen:args.length=0\/args.length=1\/args.length=2\/args.length=3:=by omega
    rcases hlen with g|g|g|g
    .obtain rfl:=List.eq_nil_of_length_eq_zero g
     have Lv:¬(35<=op/\op<=39):=λh=>sL ⟨h,rfl⟩
     have e1:((if(decide ((36:Int)<=op))=af then aa (decide (op<=(39:Int)))else aa ag):Option Bool)=aa ag:=by
      rw[ai];simp;unfold ar at vN;simp at vN
      split at vN<;>omega
     have ao4:op<=9:=by
      unfold ar at vN;simp at vN
      split at vN<;>(try split at vN)<;>(try split at vN)<;>(try split at vN)<;>omega
     simp only[List.length_nil,Int.ofNat_zero,decide_true,if_true,e1,aqN,aqT,if_false,xU]
     have:op=6\/op=7\/op=8\/op=9\/(1<=op/\op<=5):=by omega
     rcases this with rfl|rfl|rfl|rfl|h
     .exact YX m env
     .exact VB (Td.1 rfl)
     .exact acK (Td.2.1 rfl)
     .exact YY m env
     .exact acJ h env
    .obtain⟨⟨(ka:Int),(ea:Int),(na:Int)⟩,rfl⟩:=List.length_eq_one_iff.1 g;have ha:bK ka ea na:=uP _ (ari.2 rfl);rw[ai (by simp),aj (by simp),Bk,aqN,xU]
     have aiX:op=10\/op=25\/op=31\/op=32\/op=33\/op=34:=by
      unfold ar at vN;simp at vN
      split at vN<;>(try split at vN)<;>(try split at vN)<;>(try split at vN)<;>omega
     rcases aiX with rfl|rfl|rfl|rfl|rfl|rfl
     .exact acF ..
     .exact acG ..
     .exact YW ..
     .exact VA ..
     .exact SN ht (Td.2.2.1 rfl) ha
     .exact Ky ht (hf.2.2.1 rfl).1 (Td.2.2.2.1 rfl) ZB.2 (hf.2.2.1 rfl).2
    .obtain⟨⟨(ka:Int),(ea:Int),(na:Int)⟩,⟨(kb:Int),(eb:Int),(nb:Int)⟩,rfl⟩:∃a b,args=[a,b]:=by
      match args,g with
      |[a,b],_=>exact⟨a,b,rfl⟩
     have ha:bK ka ea na:=uP ((ka,ea,na):Int×Int×Int) (by simp);have hb:bK kb eb nb:=uP _ (List.mem_cons_of_mem _ (ari.2 rfl));rw[ai (by simp),ai (by simp),aj (by simp),SL,SM,aqN,aqN,xU]
     have aiY:op=11\/op=12\/op=13\/op=14\/op=15\/op=16\/op=17\/op=18\/op=19\/op=20\/op=21\/op=22\/op=23\/op=24\/op=27\/op=28\/op=29\/op=30:=by
      unfold ar at vN;simp at vN
      split at vN<;>(try split at vN)<;>(try split at vN)<;>(try split at vN)<;>omega
     rcases aiY with rfl|rfl|rfl|rfl|rfl|rfl|rfl|rfl|rfl|rfl|rfl|rfl|rfl|rfl|rfl|rfl|rfl|rfl
     .exact acx ..
     .exact acy ..
     .exact acD _ _ _ _ _ _ _ ha hb _
     .exact OL ..
     .exact acE ..
     .exact OM ..
     .exact acz _ _ _ _ _ _ _ ha hb _
     .exact acA _ _ _ _ _ _ _ ha hb _
     .exact aiM ..
     .exact aiN ..
     .exact aiO ..
     .exact aiP ..
     .exact acB _ _ _ _ _ _ _ ha hb _
     .exact aiQ _ _ _ _ _ _ _ ha hb _
     .exact OK ..
     .exact Ig ..
     .exact YU ..
     .exact Vz ..
    .obtain⟨⟨(ka:Int),(ea:Int),(na:Int)⟩,⟨(kb:Int),(eb:Int),(nb:Int)⟩,⟨(kc:Int),(ec:Int),(nc:Int)⟩,rfl⟩:∃a b c,args=[a,b,c]:=by
      match args,g with
      |[a,b,c],_=>exact⟨a,b,c,rfl⟩
     have hb:bK kb eb nb:=uP ((kb,eb,nb):Int×Int×Int) (by simp);have hc:bK kc ec nc:=uP ((kc,ec,nc):Int×Int×Int) (by simp);rw[ai (by simp),ai (by simp),ai (by simp),Wy,Wz,WA,aqN,aqN,aqN]
     have aiZ:op=26:=by
      unfold ar at vN;simp at vN
      split at vN<;>(try split at vN)<;>(try split at vN)<;>(try split at vN)<;>omega
     subst aiZ;exact aiW m ka ea na kb eb nb kc ec nc hb hc env
end L.P
namespace L.P
def SP{e:List Ty}{st:List Nat}(v:Hq e st)(hl:e.length<=100000){i:Nat}(hi:i<e.length):((idx e (i:Int)).bind λx3=>
(M.fX aK x3.1).bind λy4=>
(qh y4 (0:Int)).bind λl5=>
Loop (S:=Int×Int×List Int) (X:=List Int) (λs6=>
(if(decide ((0:Int)<=s6.2.1))=af then
(idx s6.2.2 s6.2.1).bind λx7=>
(idx (dc st) s6.1).bind λx8=>
some (Sum.inl (aqO.wrap (x8-(1:Int)),aqO.wrap (s6.2.1-(1:Int)),bH s6.2.2 s6.2.1 s6.1))
else
some (arM s6.2.2))) aK (aqO.wrap ((i:Int)-(1:Int)),aqO.wrap ((l5.length:Int)-(1:Int)),l5))=aa (dc (opsL st (ar e[i].1).toNat i)):=by
 apply Wp.eq;obtain⟨h0,l,hc,ha,hd,_⟩:=v.node i hi;rw[aC hi];simp only[aqN,pg]
 obtain⟨a,hea⟩:∃a:Nat,ar e[i].1=a:=⟨(ar e[i].1).toNat,by omega⟩
 have hle:=qJ e[i].1;rw[hea]at ha hle⊢;rw[aqX]at ha⊢
 have QJ:qh (a:Int) (0:Int)=aa (aqW a 0):=by
  unfold qh;rw[aj (by omega),aqX]
 rw[QJ];simp only[aqN,List.length_replicate];refine Wp.loop (λs:Int×Int×List Int=>∃b p:Nat,∃dn l':List Nat,s=((p:Int)-1,(b:Int)-1,aqW b (0:Int)++dc dn)/\b<=a/\p<=i/\opsL st a i=opsL st b p++dn/\Ch st p l'/\b<=l'.length) (λs=>(s.2.1+1).toNat) ⟨a,i,[],l,?_,aqU _,aqU _,by simp,hc,ha⟩ ?_ ?_
 .rw[aE (by omega) (by omega),aE (by omega) (by omega)];simp
 .simp only;rw[aE (n:=(a:Int)-1) (by omega) (by omega)];unfold aK;omega
 .rintro _ ⟨b,p,dn,l',rfl,h1,h2,h3,h4,h5⟩
  simp only
  refine Wp.dec (λhb=>?_) λhb=> .some ?_
  .obtain⟨b,rfl⟩:∃m,b=m+1:=⟨b-1,by omega⟩
   cases h4 with
   |nil=>simp at h5
   | @snoc p u l' g1 g2 c=>
     simp at h5;have hp:p<st.length:=(aq9.1 g1).1
     have e5:idx (aqW (b+1) (0:Int)++dc dn) (((b+1:Nat):Int)-1)=aa 0:=by
      rw[show((b+1:Nat):Int)-1=(b:Int) by omega,aC (by simp;omega),arE (by simp)];simp
     have e6:idx (dc st) (((p+1:Nat):Int)-1)=aa (u:Int):=by
      rw[show((p+1:Nat):Int)-1=(p:Int) by omega,aC (by simpa using hp)];have:=(aq9.1 g1).2;simp[this]
     rw[e5,e6];simp only[aqN];rw[aE (n:=(u:Int)-1) (by omega) (by omega),aE (n:=(((b+1:Nat):Int)-1)-1) (by omega) (by omega)];refine .some ⟨⟨b,u,p::dn,l',?_,by omega,by omega,?_,c,h5⟩,by simp only;omega⟩
     .have e7:bH (aqW (b+1) (0:Int)++dc dn) (((b+1:Nat):Int)-1) (((p+1:Nat):Int)-1)=aqW b (0:Int)++dc (p::dn):=by
       unfold bH;rw[show(((b+1:Nat):Int)-1).toNat=b by omega,show((p+1:Nat):Int)-1=(p:Int) by omega,List.replicate_succ',arQ,List.set_append_right _ _ (by simp)];simp
      rw[e7];simp only[Prod.mk.injEq,and_true,true_and];omega
     .rw[h3,opsL]
      have:st.getD (p+1-1) 0=u:=by simp[List.getD,g1]
      rw[this];simp
  .obtain rfl:b=0:=by omega
   show _=_
   rw[h3];simp[opsL]
end L.P
namespace L.P
def xV(e:List Ty):L.o9 e=o9 e:=aqP ((L.AG e).symm.trans (sr e))
def E4{e:List Ty}{st:List Nat}(w:Whole e st){i:Nat}(hi:i<e.length):M.nu aK e (i:Int)=aa (dc (opsL st (ar e[i].1).toNat i)):=by
 have hle:=w.le;have h:=SP w.val (by omega) hi;rw[<-h];unfold M.nu;rw[L.nQ,xV,w.res,aqN]
 grind [P.Dn,P.pg,qh]
def ON{r:Vl×Int}(h:(l7 r).2=0):(l7 r).1=r.1:=by
 grind [P.l7]
def Ii(r:Vl×Int)(K:Option (Vl×Int)):(if(!decide (r.2=(0:Int)))=af then
 some (((0:Int),((0:Int),(0:Int))),r.2)
 else
 ((if(!decide (r.1.1=(1:Int)))=af then
 some af
 else
 (M.cu aK r.1).bind λy12=>
 some (!y12)):Option (Bool)).bind λj11=>
 (if j11=af then
 some (((0:Int),((0:Int),(0:Int))),(8:Int))
 else K))=if(l7 r).2≠0 then aa (z3,(l7 r).2)else K:=by
 grind [P.l7,P.fO,P.z3]
def KA(r:Vl×Int):(if(l7 r).2≠0 then aa (z3,(l7 r).2)else aa (r.1,(0:Int)))=aa (l7 r):=by
 grind [P.l7]
def ai0(a:Int):((if decide (a=(23:Int))=af then aa af else(if decide (a=(24:Int))=af then aa af else aa (decide (a=(26:Int))))):Option Bool)=aa (decide (su a)):=by
 grind [P.su]
theorem SQ{e:List Ty}{st:List Nat}(w:Whole e st){env:b8.den}(he:ph env)(ht:BZ env)(hw:∀n∈e,WF aA n):∀(f N i:Nat),i<f->i<e.length->2*f<=N->M.eI aK N e (i:Int) env=aa (ma (EV env) e st f i):=by
 intro f
 induction f with
 |zero=>grind
 |succ f ih=>
  intro N i hif hi hN;have v:=w.val;have hl:=w.le
  obtain⟨N,rfl⟩:∃m,N=m+2:=⟨N-2,by omega⟩
  have YK:=v.ops hi
  have hge:e.getD i ((0,0):Int×Int)=e[i]:=by simp[List.getD,hi]
  have hlen:=AZ st (ar e[i].1).toNat i;have Rv:=qJ e[i].1
  have uY:∀M',2*f<=M'->∀o∈opsL st (ar e[i].1).toNat i,M.eI aK M' e (o:Int) env=aa (ma (EV env) e st f o):=by
   intro M' hM' o ho;obtain⟨g1,_⟩:=YK o ho;exact ih M' o (by omega) (by omega) hM'
  unfold ma M.eI;rw[hge,E4 w hi,aqN,aC hi,aqN,ai0,aqN];have hwf:=hw e[i] (aqS hi);generalize aiy:opsL st (ar e[i].1).toNat i=ops at*;by_cases hz:su e[i].1
  .rw[aj hz,aj (an hz)]
   have ha2:2<=ops.length/\((e[i].1:Int)=26->3<=ops.length):=by
    have:2<=ar e[i].1/\((e[i].1:Int)=26->ar e[i].1=3):=by
     revert hz;generalize(e[i].1:Int)=op;intro hz
     rcases hz with rfl|rfl|rfl<;>decide
    refine⟨by omega,λh=>?_⟩;have:=this.2 h;omega
   have gd:∀k(hk:k<ops.length),idx (dc ops) (k:Int)=aa ((ops.getD k 0:Nat):Int)/\ops.getD k 0∈ops:=by
    intro k hk
    have:ops.getD k 0=ops[k]:=by simp[List.getD,hk]
    rw[this];refine⟨?_,aqS hk⟩;rw[aC (by simpa using hk)];simp
   obtain⟨i0,m0⟩:=gd 0 (by omega);obtain⟨i1,m1⟩:=gd 1 (by omega);rw[show((0:Nat):Int)=0 from rfl]at i0;rw[show((1:Nat):Int)=1 from rfl]at i1;have MV:=uY N (by omega) _ m0;have vK:=uY N (by omega) _ m1;unfold M.r6;unfold Sk;rw[aC hi,aqN];by_cases h2:(e[i].2:Int)=0
   rotate_left
   .rw[aj (by simpa using h2),aj h2];rfl
   rw[ai (by simpa using h2),ai (by simpa using h2),i0,aqN,MV,aqN];generalize ma (EV env) e st f (ops.getD 0 0)=r;rw[Ii];by_cases Ry:(l7 r).2=0
   rotate_left
   .grind
   have eG:¬(l7 r).2≠0:=λg=>g Ry
   rw[ai eG,ai eG,ON Ry,aqN];by_cases Vm:(e[i].1:Int)=26
   .obtain⟨i2,m2⟩:=gd 2 (by grind);rw[show((2:Nat):Int)=2 from rfl]at i2;have qj:=uY N (by omega) _ m2;rw[aj (an Vm)];by_cases hn:(r.1.2.2:Int)=1
    all_goals grind
   .rw[ai (by simpa using Vm),ai (λg=>Vm g.1),ai Vm,aqN]
    by_cases hc:((e[i].1:Int)=23)=((r.1.2.2:Int)=0)
    .grind
    .rw[ai hc,ai (by grind),i1,aqN,vK,aqN];generalize ma (EV env) e st f (ops.getD 1 0)=r';rw[Ii,KA];rfl
  .rw[ai hz,ai (by simpa using hz)];apply Wp.eq;refine Wp.join (Wp.loop (λs:Int×List Vl=>s.1=((s.2.length:Nat):Int)/\s.2.length<=ops.length/\lK (ma (EV env) e st f) (ops.take s.2.length)= .inl s.2) (λs=>(ops.length-s.1).toNat) ⟨by simp,by simp,by simp[lK]⟩ (by simp only;unfold aK;omega) ?_)
   rintro⟨c,vs⟩ ⟨hs,Y4,hva⟩
   dsimp only at hs Y4 hva⊢;subst hs;have uL:=pj ops vs.length Y4 vs hva
   refine Wp.dec (λhk=>?_) λhk=> .some ?_
   .have jn:vs.length<ops.length:=by simp at hk;omega
    have YL:vs.length<(dc ops).length:=by simpa using jn
    rw[aC YL];simp only[aqN,List.getElem_map];rw[uY (N+1) (by omega) _ (aqS jn)];simp only[aqN];have hd:ops.drop vs.length=ops[vs.length]::ops.drop (vs.length+1):=aqZ jn;rw[hd,lK]at uL;have ai1:ops.take (vs.length+1)=ops.take vs.length++[ops[vs.length]]:=List.take_succ_eq_append_getElem jn
    obtain⟨r,hr⟩:∃r,ma (EV env) e st f ops[vs.length]=r:=⟨_,rfl⟩
    rw[hr]at uL⊢;by_cases h0:r.2=0
    .rw[ai (by simp[h0]),eZ (by simp;omega),aqN,aR (by omega)]
     have n5:lK (ma (EV env) e st f) [ops[vs.length]]= .inl [r.1]:=by
      simp only[lK,hr];rw[aj h0]
     have P0:=pj (g:=ma (EV env) e st f) (ops.take (vs.length+1)) vs.length (by simp;omega) vs (by grind);rw[ai1,List.drop_append_of_le_length (by simp;omega),List.drop_of_length_le (by simp;omega),List.nil_append,n5]at P0;refine .some ⟨⟨by simp,by simp;omega,?_⟩,by grind⟩
     grind
    .rw[aj (by simp[h0])];rw[ai h0]at uL;refine .some ?_
     show _=_
     rw[uL];rfl
   .have Zq:ops.drop vs.length=[]:=(by grind)
    rw[Zq,lK]at uL;rw[uL]
    show Wp ((aa e[i]).bind λx47=>(M.kT aK x47 vs env).bind λy48=>aa (y48.1,y48.2)) _
    rw[aqN,<-Kz he ht hwf (by omega),Ws he hwf (by omega)];simp only[List.append_nil];exact .some rfl
def SR{e:List Ty}{st:List Nat}(w:Whole e st){env:b8.den}(he:ph env)(ht:BZ env)(hw:∀n∈e,WF aA n):M.kU aK e env=aa (ma (EV env) e st e.length (e.length-1)):=by
 have qe:0<e.length:=List.length_pos_iff.2 w.ne;have hle:=w.le;unfold M.kU M.pG M.tj;rw[L.nQ,xV,w.res]
 grind [aE,P.SQ,aK]
def E5{e:List Ty}(h:(o9 e).2.1≠0)(env:b8.den):M.kU aK e env=aa (z3,(o9 e).2.1):=by
 unfold M.kU M.pG;rw[L.nQ,xV,aqN,aqN,aj (by simp[h])];rfl
end L.P
namespace L
def SU{env:Kk}(he:P.ph env)(ht:P.BZ env){e:nV}(hw:∀n∈e,WF aA n):M.kU aK e env=aa (ev env e):=by
 have h1:=EW he hw
 rcases P.A3 e with h|⟨st,w⟩
 .rw[P.E5 h];rw[P.Hu h]at h1;exact h1
 .rw[P.SR w he ht hw];rw[P.A4 w he hw]at h1;exact h1
def SV(t:EI){env:Kk}(he:P.ph env)(ht:P.BZ env)(hw:∀g∈t.2.1,∀n∈g,WF aA n)(h8:t.2.1.length<=8):M.jc aK t env=aa (jw (ev env) 0 0 t.2.1):=by
 unfold M.jc;rw[ai (by simp;omega)];refine Wp.eq (Wp.count (λs=>s.2.2) t.2.1.length (λk s=>∃x:Nat,s.1=(x:Int)/\s.2.1=((2 ^ k:Nat):Int)/\x<2 ^ k/\jw (ev env) 0 0 t.2.1=jw (ev env) x k (t.2.1.drop k)) (by omega) rfl ⟨0,rfl,rfl,by simp,rfl⟩ λk s hk hs hJ=>?_);obtain⟨y,b,c⟩:=s;obtain⟨x,e,e2,hx,hJ⟩:=hJ;dsimp only at hs e e2;subst hs e e2;refine .dec (λh=>?_) (λh=> .some ?_)
 .have aF:k<t.2.1.length:=by dsimp only at h;omega
  have hg:=hw _ (aqS aF);have h2:2 ^ k*2=2 ^ (k+1):=(Nat.pow_succ ..).symm;have hp:2 ^ k<=2 ^ 8:=Nat.pow_le_pow_right (by omega) (by omega);rw[aqZ aF,A6]at hJ;refine .bind (.idx k rfl aF (.be (SU he ht hg) (Wp.seq (λj=>j=py (ev env) t.2.1[k]) ?_ λj hj=>?_)))
  .refine Wp.seq (λj=>j=af↔(ev env t.2.1[k]).2=0/\((ev env t.2.1[k]).1.1:Int)≠1) (.dec (λh=> .some (by simp[h])) λh=> .some (by simp[h])) λj hj=> .ite (λh=> .some ?_) λh=> .some ?_
   .obtain⟨g1,g2⟩:=hj.1 h;exact(Dh g1 g2).symm
   .by_cases g1:(ev env t.2.1[k]).2=0
    .have g2:((ev env t.2.1[k]).1.1:Int)=1:=Decidable.byContradiction λg2=>h (hj.2 ⟨g1,g2⟩)
     rw[LX g1 g2];exact g1
    .exact(A5 g1).symm
  .subst hj
   refine .kq (λh1=> .some ?_) λh1=>?_
   .rw[aj h1]at hJ;exact hJ.symm
   .rw[ai (λg=>g h1)]at hJ
    have hw2:aqO.wrap ((2:Int)*((2 ^ k:Nat):Int))=((2 ^ (k+1):Nat):Int):=by
     rw[aE (by omega) (by omega)];omega
    refine Wp.seq (λj=>j=(((x+if BT (ev env) t.2.1[k]=af then 2 ^ k else 0):Nat):Int)) (.dec (λh4=> .some ?_) λh4=> .some ?_) λj hj=> .some ⟨aF,aR (by omega),_,hj,hw2,?_,hJ⟩
    .rw[aj (show BT (ev env) t.2.1[k]=af from an h4)]
     show aqO.wrap ((x:Int)+((2 ^ k:Nat):Int))=_
     rw[aE (by omega) (by omega)];omega
    .rw[ai (show¬BT (ev env) t.2.1[k]=af from λg=>h4 (al g))];rfl
    .split<;>omega
 .have:k=t.2.1.length:=by dsimp only at h;omega
  subst this;rw[List.drop_length]at hJ;exact hJ.symm
end L
namespace L
def has_eq(l:List Int)(x:Int)(hl:l.length<=100000):M.rD aK l x=aa (decide (x∈l)):=by
 apply Wp.eq;unfold M.rD
 refine Wp.count (λs=>s) l.length (λk _=>∀i(h:i<l.length),i<k->l[i]≠x) (by omega) rfl (λi h g=>by omega) λk s hk hs hJ=>?_
 obtain rfl:s=_:=hs
 refine Wp.dec (λaF=>?_) λhge=> .some ?_
 .have aF:k<l.length:=by omega
  rw[aC aF,aqN]
  refine Wp.dec (λh=> .some ?_) λh=> .some ⟨aF,bQ (m:=l.length) (by omega) aF,λi hi P6=>?_⟩
  .exact(an (h▸aqS aF)).symm
  .by_cases e:i<k
   .exact hJ i hi e
   .obtain rfl:i=k:=by omega
    exact h
 .refine(ao λhm=>?_).symm;obtain⟨i,hi,e⟩:=aq6 hm;exact hJ i hi (by omega) e
def SX{s:jm}(hs:ow s)(d:Int)(p:List Int)(hp:p.length<=100000):M.qG aK s d p=aa (decide (∀y∈lQ s d,y∈p)):=by
 have hl:=(kW s d).len;have Fb:=hs.2.2.1;apply Wp.eq;unfold M.qG;rw[Lz s hs.few d,aqN]
 refine Wp.count (λs=>s) (lQ s d).length (λk _=>∀i(h:i<(lQ s d).length),i<k->(lQ s d)[i]∈p) (by omega) rfl (λi h g=>by omega) λk t hk ht hJ=>?_
 obtain rfl:t=_:=ht
 refine Wp.dec (λaF=>?_) λhge=> .some ?_
 .have aF:k<(lQ s d).length:=by omega
  rw[aC aF,aqN,has_eq _ _ hp,aqN]
  refine Wp.kq (λh=> .some ?_) λh=> .some ⟨aF,bQ (m:=(lQ s d).length) (by omega) aF,λi hi P6=>?_⟩
  .exact(ao λg=>h (g _ (aqS aF))).symm
  .by_cases e:i<k
   .exact hJ i hi e
   .obtain rfl:i=k:=by omega
    exact h
 .refine(an λy hy=>?_).symm;obtain⟨i,hi,rfl⟩:=aq6 hy;exact hJ i hi (by omega)
def Dq{s:jm}(hs:ow s){o:List Int}(h:rJ s o)(hl:o.length=s.2.2.2.1.length):M.fu aK s=aa ((0:Int),o):=by
 have Fb:=hs.2.2.1;apply Wp.eq;unfold M.fu
 refine Wp.count (λt=>(t.length:Int)) s.2.2.2.1.length (λk t=>t=o.take k) (by omega) rfl (by simp) λk t hk ht hJ=>?_
 subst hJ
 have hlen:(o.take k).length=k:=by rw[ard];omega
 refine Wp.dec (λaF=>?_) λhge=> .some ?_
 .have jn:k<o.length:=by rw[hlen]at aF;omega
  obtain⟨hR,ER⟩:=h k jn;obtain⟨m,hm⟩:=aqY hR.1.1;have Wc:=hR.1.2;rw[hm]at hR ER Wc
  refine Wp.seq (λj=>j=(m:Int)) ?_ λj hj=>?_
  .refine Wp.count (λi=>i) s.2.2.2.1.length (λi _=>i<=m) (by omega) rfl (Nat.zero_le _) λi t hi ht hJ=>?_
   obtain rfl:t=_:=ht
   refine Wp.seq (λb=>b=af↔¬Oj s (o.take k) (i:Int)) ?_ λb hb=>?_
   .refine Wp.dec (λdC=>?_) λao8=>absurd Wc (by omega)
    rw[has_eq _ _ (by omega),aqN]
    refine Wp.dec (λsL=> .some (iff_of_true rfl λg=>g.2.1 sL)) λhnm=>?_
    rw[SX hs _ _ (by omega),aqN];refine .some ?_;rw[Bool.not_eq_true',ay];exact not_congr ⟨λg=>⟨by omega,hnm,g⟩,λg=>g.2.2⟩
   .by_cases hr:Oj s (o.take k) (i:Int)
    .rw[ai (λg=>hb.1 g hr)];have:=ER _ hr;exact .some (show(i:Int)=(m:Int) by omega)
    .rw[aj (hb.2 hr)]
     have eG:i≠m:=λe=>hr (e▸hR)
     exact .some ⟨by omega,bQ (m:=s.2.2.2.1.length) (by omega) (by omega),by omega⟩
  .subst hj;rw[ai (by rw[aw];omega),eZ (by simp;omega),aqN];refine .some ⟨by omega,by simp[hlen],?_⟩
   show _=o.take (k+1)
   rw[List.take_add_one,aqR jn,hm];rfl
 .rw[hlen]at hge
  show((0:Int),o.take k)=_
  rw[List.take_of_length_le (by omega)]
end L
namespace L
def acL{l:Lw}(hw:WF cz l)(hT:∀t∈l.2.1,t.2.2.2.length<=64){d:Int}{vs D:List Vl}{ms:List (List Vl)}{uZ:List Ty}:P.BZ (d,(vs,(D,(ms,(uZ,l.2.1))))):=λt ht=>by
 have h1:=hT t ht;have h2:=(hw.2.1.2 t ht).2.2.2.2;exact⟨by omega,λr hr=>(h2 r hr).2.2.2⟩
def SY{t:OY}{E:List En}(h:(ov t E).2=0):t.2.2.2.length<=64:=by
 unfold ov at h
 grind
def Valid.rows{l:Lw}(h:Valid l):∀t∈l.2.1,t.2.2.2.length<=64:=λt ht=>by
 obtain⟨_,_,_,_,h5,_⟩:=h.scopes;obtain⟨k,hk,rfl⟩:=aq6 ht;have:=h5 k hk;unfold sO at this;rw[aqR hk]at this;dsimp only at this;split at this
 .cases this
 split at this
 .cases this
 split at this
 .rename_i h0;exact(SY h0)
 .cases this
def WD{S X:Type}{f:S->Option (S⊕X)}{s:S}{z:X}(h:f s=aa (.inr z)):Loop f aK s=aa z:=
 Wp.eq (Wp.loop (λt=>t=s) (λ_=>0) rfl (by unfold aK;omega) (by rintro _ rfl;rw[h];exact .some rfl))
def yv(l:Lw)(fs:List Fd)(vs:List Vl):M.nI aK l fs vs=M.dw aK l vs fs:=by
 unfold M.nI M.dw;by_cases h1:(vs.length:Int)<(fs.length:Int)
 .rw[aj (an h1),aj (an h1)]
 have n1:¬(decide ((vs.length:Int)<(fs.length:Int)))=af:=by rw[aw];exact h1
 rw[ai n1,ai n1];by_cases h2:(fs.length:Int)<(vs.length:Int)
 .rw[aj (an h2),aj (an h2)]
 have n2:¬(decide ((fs.length:Int)<(vs.length:Int)))=af:=by rw[aw];exact h2
 rw[ai n2,ai n2];refine av (λf=>Loop f aK (0:Int)) (funext λs=>?_);by_cases h:s<(vs.length:Int)
 rotate_left
 .rw[ai (by simpa using h),ai (by simpa using h)]
 rw[aj (an h),aj (an h)]
 cases hx:idx vs s with
 |none=>rw[asi,asi]
 |some v=>
 unfold M.vm;simp only[aqN]
 cases hy:idx fs s with
 |none=>rw[asi,asi]
 |some f=>
 simp only[aqN,Q8,zq]
 have he:mD aA (v.1,v.2.1) f.2=decide ((v.1:Int)=f.2.1/\(v.2.1:Int)=f.2.2):=by
  rw[art,vR,aw];exact⟨λg=>by rw[<-g];exact⟨rfl,rfl⟩,λg=>Prod.ext g.1 g.2⟩
 rw[he];unfold Ek;by_cases g1:(v.1:Int)=f.2.1
 .by_cases g2:(v.2.1:Int)=f.2.2
  .by_cases g3:(v.2.2:Int)<(Ju f.2 l.1).1
   .simp only[g1,g2,g3,decide_true,decide_false,and_self,arA,Bool.not_false,aqT,if_false,if_true,aqN]
    grind
   .by_cases g4:(Ju f.2 l.1).2<(v.2.2:Int)<;>simp only[g1,g2,g3,g4,decide_true,decide_false,and_self,arA,Bool.not_false,aqT,if_false,if_true,aqN]<;>grind
  .simp[g1,g2]
 .simp[g1]
def Dr(l:Lw)(at_:Int)(c:ff.den):M.nJ aK l at_ c=M.cF aK l at_ c:=by
 unfold M.nJ M.cF;refine av (aqM _) (funext λj1=>?_)
 cases j1 with
 |true=>rw[aj rfl,aj rfl]
 |false=>
 rw[ai asC,ai asC];refine av (aqM _) (funext λj2=>?_)
 cases j2 with
 |true=>rw[aj rfl,aj rfl]
 |false=>
 rw[ai asC,ai asC]
 cases hx:idx l.2.2 at_ with
 |none=>rw[asi,asi]
 |some x=>
 rw[aqN,aqN,yv];refine av (aqM _) (funext λy4=>?_);by_cases h4:y4.2=0
 rotate_left
 .rw[aj (by simpa using h4),aj (by simpa using h4)]
 rw[ai (by simpa using h4),ai (by simpa using h4)];unfold M.qV M.fq;rw[hx,aqN,aqN];by_cases hb:(x.2.1:Int)<0\/(l.2.2.length:Int)<=x.2.1
 .have hj:((if(decide ((x.2.1:Int)<(0:Int)))=af then aa af else aa (decide ((l.2.2.length:Int)<=(x.2.1:Int)))):Option Bool)=aa af:=by
   by_cases g:(x.2.1:Int)<0
   .rw[aj (an g)]
   .rw[ai (by simpa using g),an (hb.resolve_left g)]
  rw[hj,aqN,aqN,aj rfl,aj rfl,aqN,aqN];dsimp only;by_cases h5:(0:Int)<(c.2.2.length:Int)
  .rw[aj (an h5),aj (an h5)]
  .rw[ai (by simpa using h5),ai (by simpa using h5)]
   have h0:c.2.2.length=0:=by omega
   refine(WD (z:=((0:Int),(0:Int),(0:Int))) ?_).trans (WD ?_).symm<;>rw[ai (by simp[h0])]
 .have hj:((if(decide ((x.2.1:Int)<(0:Int)))=af then aa af else aa (decide ((l.2.2.length:Int)<=(x.2.1:Int)))):Option Bool)=aa ag:=by
   rw[ai (by rw[aw];exact λg=>hb (.inl g)),ao (λg=>hb (.inr g))]
  obtain⟨q,hq⟩:=aqY (show(0:Int)<=x.2.1 from Int.not_lt.1 λg=>hb (.inl g));have B8:(x.2.1:Int)=(q:Int):=hq
  have Kb:q<l.2.2.length:=by
   have:¬(l.2.2.length:Int)<=(q:Int):=λg=>hb (.inr (B8▸g))
   omega
  have hi:idx l.2.2 x.2.1=aa l.2.2[q]:=by rw[show idx l.2.2 x.2.1=idx l.2.2 (q:Int)from av _ B8,aC Kb]
  rw[hj,aqN,aqN,ai (by decide),ai (by decide),hi,aqN,aqN,aqN];dsimp only;by_cases h5:(8:Int)<(c.2.2.length:Int)
  .rw[aj (an h5),aj (an h5)]
  .rw[ai (by simpa using h5),ai (by simpa using h5)];refine av (λf=>Loop f aK (0:Int)) (funext λs=>?_);rw[hi,aqN];simp only[yv]
def wW(l:Lw)(hw:WF cz l)(gk:fZ l):M.oP aK l=aa (decide (Valid l)):=by
 unfold M.oP;rw[UJ l hw gk,aqN];exact av aa (decide_eq_decide.2 Iff.rfl)
def KB{x:jm}{d a:Int}(Fa:WF bn x)(hf:Fit x.2.2.2.2 a d){env:Kk}(he:P.ph env)(ht:P.BZ env)(mem:Int):
 M.pO aK x (HA x.2.2.2.2 d a) env mem a=aa (if(pk (ev env) x.2.2.2.2 d a).2.2≠0 then(P.z3,((0:Int),((pk (ev env) x.2.2.2.2 d a).2.2,(mem,(a,(pk (ev env) x.2.2.2.2 d a).2.1)))))else((pk (ev env) x.2.2.2.2 d a).1,((pk (ev env) x.2.2.2.2 d a).2.1,Vq))):=by
 have JT:∀r∈x.2.2.2.2,WF dX r:=Fa.2.2.2.2.2;have Zn:=hf.len;unfold M.pO;generalize x.2.2.2.2=rules at*
 have hcw:∀g∈(CS rules a d).1,∀n∈g,WF aA n:=λg hg=>by
  rcases xQ rules (TN rules a d) ([],[]) g hg with h|⟨i,rfl⟩
  .cases h
  .unfold gd;split
   .rename_i r hr;exact(JT _ (List.mem_of_getElem? hr)).2.2.2.2.2.1.2
   .intro n hn;cases hn
 have e:M.jc aK (HA rules d a) env=aa (jw (ev env) 0 0 (CS rules a d).1):=SV (HA rules d a) he ht hcw hf.n8;refine Wp.eq (.be e ?_)
 rcases HB hf (ev env)with⟨j,c,h1,h2,h3⟩|⟨y,h1,h2,h3⟩
 .rw[h2,h3]
  refine .kq (λ_=>Wp.seq (λr=>r=((CS rules a d).2[j]?).getD (-1)) (.dec (λhj=>?_) λhj=> .some ?_) λr hr=> .some ?_) λg=>absurd g h1
  .have hj:(j:Int)<(((CS rules a d).2.length:Nat):Int):=hj
   have hj:j<(CS rules a d).2.length:=by omega
   exact .be (aC hj) (.some (by rw[aqR hj];rfl))
  .have hj:¬(j:Int)<(((CS rules a d).2.length:Nat):Int):=hj;rw[List.getElem?_eq_none (by omega)];rfl
  .subst hr
   show _=if c≠0 then _ else _
   rw[aj h1];rfl
 .rw[h1,h3];have e2:M.lY aK (HA rules d a) (y:Int)=aa (oc (fM rules a d) (ed rules a d) (fE rules a d) (BB rules a d) (y:Int),af):=(U2 (HA rules d a) _ (by have:=Hz hf;show(RR rules a d).length<=_;omega)).trans (av aa h2);have hc:=HC (rules:=rules) (a:=a) (d:=d) (by omega) (y:Int);generalize oc (fM rules a d) (ed rules a d) (fE rules a d) (BB rules a d) (y:Int)=v at hc e2⊢
  refine .kq (λg=>absurd rfl g) λ_=> .be e2 ?_
  rcases hc with rfl|rfl|⟨i,hi,rfl⟩
  .exact .dec (λ_=> .some rfl) λh=>absurd rfl h
  .exact .dec (λh=>absurd h (by decide)) λ_=> .dec (λ_=> .some rfl) λh=>absurd rfl h
  .rw[Di hi]
   refine .dec (λh=>absurd h (by omega)) λ_=> .dec (λh=>absurd h (by omega)) λ_=> .be (aC hi) (.be (SU he ht (JT _ (aqS hi)).2.2.2.2.2.2.1.2) ?_)
   by_cases h0:(ev env rules[i].2.2.2.2.2.2.1).2=0
   .have k1:¬(ev env rules[i].2.2.2.2.2.2.1).2≠0:=λg=>g h0
    rw[ai k1]
    exact .kq (λh=>absurd h0 h) λ_=> .some (by rw[ai (λg=>g rfl)])
   .rw[aj h0]
    exact .kq (λ_=> .some (by rw[aj h0];rfl)) λh=>absurd h h0
def Bl{l:Lw}(gk:fZ l)(hv:Valid l){k:Nat}(hk:k<l.2.2.length)(d:Int):Wp (M.jF aK l (k:Int) d) λT=>∀a:Nat,a<l.2.2[k].2.2.2.1.length->idx T (a:Int)=aa (HA l.2.2[k].2.2.2.2 d (a:Int)):=by
 have Fb:=(gk.2.2.2.2.2 _ (aqS hk)).2.2.1;have hx:=aC hk
 have hf:=λa=>Fit.of hv gk hk a d
 unfold M.jF;rw[hx];generalize l.2.2[k]=x at*
 refine Wp.count (λs=>s.1) x.2.2.2.1.length (λi s=>s.2.length=i/\∀a:Nat,a<i->s.2[a]? =aa (HA x.2.2.2.2 d (a:Int))) (by omega) rfl ⟨rfl,λa ha=>by omega⟩ λi s hi hs hJ=>?_
 obtain⟨c,Ts⟩:=s;obtain⟨j1,j2⟩:=hJ;dsimp only at hs j1 j2;subst hs;rw[aqN];refine .dec (λh=>?_) (λh=> .some λa ha=>Kl (j2 a ?_))
 .have aF:i<x.2.2.2.1.length:=by dsimp only at h;omega
  refine .be (Hh hx (hf (i:Int))) (.bind (.wY (by simp;omega) (.some ⟨aF,aR (by omega),by simp[j1],λa ha=>?_⟩)));dsimp only;by_cases e:a<i
  .rw[List.getElem?_append_left (by omega)];exact j2 a e
  .obtain rfl:a=i:=by omega
   rw[List.getElem?_append_right (by omega),j1,Nat.sub_self];rfl
 .dsimp only at h;omega
def Me{x:jm}{d:Int}{o:List Int}{Ts:List EI}(eo:M.fu aK x=aa ((0:Int),o))(hT:∀a:Nat,a<x.2.2.2.1.length->idx Ts (a:Int)=aa (HA x.2.2.2.2 d (a:Int)))(Fa:WF bn x)(hs:ow x)(hf:∀a,Fit x.2.2.2.2 a d)(ho:∀a∈o,(0:Int)<=a/\a<(x.2.2.2.1.length:Int))(hol:o.length<=100000){vs:List Vl}{rs:Rst}(he:∀D,P.ph (d,(vs,(D,rs))))(ht:∀D,P.BZ (d,(vs,(D,rs))))(D0:List Vl)(mem:Int):
 M.kV aK x Ts (d,(vs,(D0,rs))) mem=aa (qZ mem (Bo pk x o d vs rs)):=by
 have Fb:=hs.2.2.1;unfold M.kV;rw[uz _ _ (by omega),aqN,uz _ _ (by omega),aqN,eo,aqN];refine Wp.eq (.join (Wp.count (λs=>s.1) o.length (λk s=>s.2.1=d/\s.2.2.1=vs/\s.2.2.2.1=rs/\s.2.2.2.2.1.length=x.2.2.2.1.length/\s.2.2.2.2.2.length=x.2.2.2.1.length/\Bo pk x o d vs rs=xR (λD a=>pk (ev (d,(vs,(D,rs)))) x.2.2.2.2 d a) (o.drop k) s.2.2.2.2.1 s.2.2.2.2.2) (by omega) rfl ⟨rfl,rfl,rfl,by simp,by simp,rfl⟩ λk s hk hs hJ=>?_));obtain⟨c,d',vs',rs',D,rl⟩:=s;obtain⟨i1,i2,i3,j1,j2,j3⟩:=hJ;dsimp only at hs i1 i2 i3 j1 j2 j3;subst hs i1 i2 i3;refine .dec (λh=>?_) (λh=> .some ?_)
 .have aF:k<o.length:=by dsimp only at h;omega
  obtain⟨a0,a1⟩:=ho _ (aqS aF);obtain⟨q,hq⟩:=aqY a0
  have Kb:q<x.2.2.2.1.length:=by omega
  have P6:idx o (k:Int)=aa (q:Int):=by rw[aC aF,hq]
  rw[aqZ aF,xR,hq]at j3;refine .be P6 (.be (hT q Kb) (.be P6 (.be (KB Fa (hf _) (he D) (ht D) mem) ?_)));by_cases h0:(pk (ev (d',(vs',(D,rs')))) x.2.2.2.2 d' (q:Int)).2.2=0
  .have k1:¬(pk (ev (d',(vs',(D,rs')))) x.2.2.2.2 d' (q:Int)).2.2≠0:=λg=>g h0
   rw[ai k1]at j3;rw[ai k1]
   exact .kq (λg=>absurd rfl g) λ_=> .be P6 (.bind (.idx q rfl (show q<D.length by omega) (.be P6 (.bind (.idx q rfl (show q<rl.length by omega) (.some ⟨aF,aR (by omega),rfl,rfl,rfl,by rw[cQ];exact j1,by rw[cQ];exact j2,j3⟩))))))
  .rw[aj h0]at j3;rw[aj h0]
   refine .kq (λ_=> .some ?_) λg=>absurd g h0
   show _=qZ mem _
   rw[j3];rfl
 .have:k=o.length:=by dsimp only at h;omega
  subst this;rw[List.drop_length,xR]at j3;refine .some ?_;rw[j3];rfl
def ai2{l:Lw}(hw:WF cz l)(gk:fZ l)(hv:Valid l){k:Nat}(hk:k<l.2.2.length){c:ff.den}(hC:Hv l l.2.2[k] c){y:Int×Int×Int}(hy:M.cF aK l (k:Int) c=aa y)(Zs:y.2.2=0)
 {o:List Int}(ho:rJ l.2.2[k] o)(hol:o.length=l.2.2[k].2.2.2.1.length){q:jm}{oq:List Int}{uZ:List Ty}(hA:HG l l.2.2[k] c q oq uZ):
 M.mL aK l (k:Int) c=aa (OB pk l.2.2[k] q o oq uZ c l.2.1):=by
 have sB:=gk.2.2.2.2.2 _ (aqS hk);have Fa:=hw.2.2.2 _ (aqS hk);have Fb:=sB.2.2.1;have h8:=hC.le;have hT:=hv.rows;have hx:=aC hk;unfold M.mL;rw[wW l hw gk,aqN,ai (show¬(!decide (Valid l))=af by simpa using hv)]
 have hj:((if(decide ((k:Int)<(0:Int)))=af then aa af else aa (decide ((l.2.2.length:Int)<=(k:Int)))):Option Bool)=aa ag:=by
  rw[ai (by rw[aw];omega),ao (by omega)]
 rw[hj,aqN,ai (by decide),Dr,hy,aqN,ai (by simpa using Zs),hx,aqN]
 obtain⟨f,hf⟩:∃f,f=λ(m:Nat)(vs:List Vl)=>qZ (m:Int) (Bo pk q oq c.1 vs ([],([],l.2.1))):=⟨_,rfl⟩
 refine Wp.eq (.join (Wp.mono (Q:=λu=>(∃e,uK f 0 c.2.2 []= .inl e/\u=arM (e,[],[],[]))\/∃MR,uK f 0 c.2.2 []= .inr MR/\MR.length<=100/\u=Sum.inl (MR.map (λr:aG.den=>r.1),MR)) ?_ λu hu=>?_))
 .refine .dec (λh0=>?_) λh0=>?_
  .rcases hA with⟨_,_,g3⟩|⟨j,hj,g1,rfl,g3,g4,g5,_⟩
   .rw[g3]at h0;exact absurd h0 (by decide)
   have Zt:=gk.2.2.2.2.2 _ (aqS hj);have hwq:=hw.2.2.2 _ (aqS hj);have aiD:=Zt.2.2.1
   have ei:idx l.2.2 l.2.2[k].2.1=aa l.2.2[j]:=by
    rw[show idx l.2.2 l.2.2[k].2.1=idx l.2.2 (j:Int)from av _ g1,aC hj]
   rw[show M.jF aK l l.2.2[k].2.1 c.1=M.jF aK l (j:Int) c.1 by rw[g1]]
   refine Wp.seq _ (Bl gk hv hj c.1) λTs hTs=>?_
   refine Wp.count (λs=>s.1) c.2.2.length (λi s=>∃MR:Zr,s.2=(MR.map (λr:aG.den=>r.1),MR)/\MR.length=i/\uK f 0 c.2.2 []=uK f i (c.2.2.drop i) MR) (by omega) rfl ⟨[],rfl,rfl,rfl⟩ λi s hi hs hJ=>?_
   obtain⟨ii,s⟩:=s;obtain⟨MR,rfl,j2,j3⟩:=hJ;dsimp only at hs;subst hs;refine .dec (λh=>?_) (λh=> .some (.inr ⟨MR,?_,by omega,rfl⟩))
   .have aF:i<c.2.2.length:=by dsimp only at h;omega
    rw[aqZ aF,uK]at j3
    have hr:=Me (D0:=[]) (mem:=(i:Int)) (vs:=c.2.2[i]) (rs:=([],([],l.2.1))) (Dq Zt g4 g5) hTs hwq Zt (λa=>Fit.of hv gk hj a c.1) (λa ha=>(g4.mem ha).1) (by omega) (λD=>L1 hw (by simp)) λD=>acL hw hT
    have hfi:f i c.2.2[i]=qZ (i:Int) (Bo pk l.2.2[j] oq c.1 c.2.2[i] ([],([],l.2.1))):=by rw[hf]
    rw[hfi]at j3;generalize qZ (i:Int) (Bo pk l.2.2[j] oq c.1 c.2.2[i] ([],([],l.2.1)))=r at hr j3
    have hme:M.mq aK l c (i:Int)=aa (c.1,c.2.2[i],l.2.1):=by
     unfold M.mq;rw[aC aF];rfl
    refine .be ei (.be hme (.be hr ?_))
    refine .kq (λhz=> .some (.inl ⟨_,?_,rfl⟩)) λhz=> .bind (.wY (by simp;omega) (.bind (.wY (by simp;omega) (.some ⟨aF,aR (by omega),MR++[(r.2.1,r.2.2)],by simp,by simp[j2],?_⟩))))
    .rw[j3,aj hz]
    .rw[j3,ai (λg=>g hz)]
   .have:i=c.2.2.length:=by dsimp only at h;omega
    rw[j3,this,List.drop_length];rfl
  .have:c.2.2=[]:=List.length_eq_zero_iff.1 (by omega);rw[this];exact .some (.inr ⟨[],rfl,by simp,rfl⟩)
 .unfold OB
  rcases hu with⟨e,he,rfl⟩|⟨MR,he,hl,rfl⟩
  .rw[hf]at he;rw[he];rfl
  .rw[hf]at he;rw[he]
   show Wp _ _
   dsimp only;refine .be rfl (Wp.seq _ (Bl gk hv hk c.1) λTs hTs=> .be (Vs gk hv hk hA _) (.be (Me (D0:=[]) (mem:= -1) (Dq sB ho hol) hTs Fa sB (λa=>Fit.of hv gk hk a c.1) (λa ha=>(ho.mem ha).1) (by omega) (λD=>L1 hw (by simpa using hl)) λD=>acL hw hT) ?_))
   exact .kq (λhz=> .some (by rw[aj hz])) λhz=> .some (by rw[ai (λg=>g hz)])
end L
namespace L
def Ds(l:List Int)(h:l.length<=100000):M.pT aK l l=aa af:=by
 apply Wp.eq;unfold M.pT;rw[ai (by simp)]
 refine Wp.count (λs=>s) l.length (λ_ _=>True) (by omega) rfl trivial λk s hk hs _=>?_
 obtain rfl:s=_:=hs
 refine Wp.seq (λj=>j=decide (k<l.length)) ?_ λj hj=>?_
 .refine Wp.dec (λh=> .some ?_) λh=> .some ?_
  .simp
  .simp;omega
 .subst hj
  refine Wp.dec (λaF=>?_) λ_=> .some rfl
  rw[aC aF,aqN,aqN,ai (by simp)];exact .some ⟨aF,bQ (m:=l.length) (by omega) aF,trivial⟩
def yw(l:List Vl)(h:l.length<=100000):M.o7 aK l l=aa af:=by
 apply Wp.eq;unfold M.o7;rw[ai (by simp)]
 refine Wp.count (λs=>s) l.length (λ_ _=>True) (by omega) rfl trivial λk s hk hs _=>?_
 obtain rfl:s=_:=hs
 refine Wp.seq (λj=>j=decide (k<l.length)) ?_ λj hj=>?_
 .refine Wp.dec (λh=> .some ?_) λh=> .some ?_
  .simp
  .simp;omega
 .subst hj
  refine Wp.dec (λaF=>?_) λ_=> .some rfl
  rw[aC aF,aqN,aqN,ai (by rw[pd];decide)];exact .some ⟨aF,bQ (m:=l.length) (by omega) aF,trivial⟩
def OP(l:List aG.den)(h:l.length<=100000)(hm:∀r∈l,r.1.length<=100000/\r.2.length<=100000):M.jG aK l l=aa af:=by
 apply Wp.eq;unfold M.jG;rw[ai (by simp)]
 refine Wp.count (λs=>s) l.length (λ_ _=>True) (by omega) rfl trivial λk s hk hs _=>?_
 obtain rfl:s=_:=hs
 refine Wp.seq (λj=>j=decide (k<l.length)) ?_ λj hj=>?_
 .refine Wp.dec (λh=> .some ?_) λh=> .some ?_
  .simp
  .simp;omega
 .subst hj
  refine Wp.dec (λaF=>?_) λ_=> .some rfl
  have:=hm _ (aqS aF)
  have e:M.kl aK l[k] l[k]=aa af:=by
   unfold M.kl;rw[yw _ this.1,aqN,aj rfl,Ds _ this.2];rfl
  rw[aC aF,aqN,aqN,e,aqN,ai (by simp)];exact .some ⟨aF,bQ (m:=l.length) (by omega) aF,trivial⟩
def Ij{dp:List Vl->Int->Vl×Int×Int}:∀{o:List Int}{D:List Vl}{rl:List Int}{p:List Vl×List Int},xR dp o D rl= .inl p->p.1.length=D.length/\p.2.length=rl.length
 |[],D,rl,p,h=>by cases h;exact⟨rfl,rfl⟩
 |a::o,D,rl,p,h=>by
  rw[xR]at h;split at h
  .cases h
  .have:=Ij h;rw[cQ,cQ]at this;exact this
def Ik(dt:Dt)(x:jm)(o:List Int)(d:Int)(vs:List Vl)(rs:Rst)(mem:Int):(qZ mem (Bo dt x o d vs rs)).2.1.length<=x.2.2.2.1.length/\(qZ mem (Bo dt x o d vs rs)).2.2.length<=x.2.2.2.1.length:=by
 cases h:Bo dt x o d vs rs with
 |inr q=>simp[qZ]
 |inl p=>
  unfold Bo at h;have:=Ij h;simp only[List.length_replicate]at this;simp only[qZ];omega
def Bd(p:Rs):Prop:=p.2.1.length<=100000/\p.2.2.1.length<=100000/\p.2.2.2.length<=100000/\∀r∈p.2.2.2,r.1.length<=100000/\r.2.length<=100000
def Bm(e:aD.den):Bd (e,([],([],[]))):=⟨by simp,by simp,by simp,λr h=>by cases h⟩
def Il{f:Nat->List Vl->aD.den×List Vl×List Int}{T:aG.den->Prop}(hf:∀m vs,T ((f m vs).2.1,(f m vs).2.2)):∀{ms:List (List Vl)}{k:Nat}{acc MR:Zr},uK f k ms acc= .inr MR->(∀r∈acc,T r)->∀r∈MR,T r
 |[],_,_,_,h,ha=>by cases h;exact ha
 |vs::ms,k,acc,MR,h,ha=>by
  rw[uK]at h;split at h
  .cases h
  .refine Il hf h λr hr=>?_
   rcases arf.1 hr with hr|hr
   .exact ha r hr
   .rw[ari.1 hr];exact hf k vs
def VD{dt:Dt}{x q:jm}{o oq:List Int}{uZ:List Ty}{c:ff.den}{Vr:List bj.den}(hx:x.2.2.2.1.length<=14)(hq:q.2.2.2.1.length<=14)(hc:c.2.2.length<=100):Bd (OB dt x q o oq uZ c Vr):=by
 unfold OB;split
 .exact Bm _
 .rename_i MR hM;split
  .exact Bm _
  .have h1:=Ik dt x o c.1 c.2.1 (MR.map (·.1),(uZ,Vr)) (-1);have h2:=HF hM;simp only[List.length_nil]at h2;refine⟨by dsimp only;omega,by dsimp only;omega,by dsimp only;omega,Il (T:=λr=>r.1.length<=100000/\r.2.length<=100000) (λm vs=>?_) hM λr hr=>by cases hr⟩;have:=Ik dt q oq c.1 vs ([],([],Vr)) (m:Int);dsimp only;omega
def SZ{p:Rs}(hb:Bd p):M.qH aK (p.2.1,(p.2.2.1,p.2.2.2)) (p.2.1,(p.2.2.1,p.2.2.2))=aa af:=by
 unfold M.qH;rw[yw _ hb.1,aqN,aj rfl,Ds _ hb.2.1,aqN,aj rfl,OP _ hb.2.2.1 hb.2.2.2];rfl
def E6(c:ff.den):Wp (M.nA aK c) λr=>r=af->c.2.1.length<=14/\c.2.2.length<=10/\∀vs∈c.2.2,vs.length<=14:=by
 unfold M.nA
 refine Wp.seq (λj=>j=ag->c.2.1.length<=14/\c.2.2.length<=10) ?_ λj hj=>?_
 .refine Wp.dec (λ_=> .some λh=>by cases h) λh=> .some λg=>?_
  have g:=of_decide_eq_false g;exact⟨by omega,by omega⟩
 refine Wp.ite (λ_=> .some λh=>by cases h) λhc=>?_
 obtain⟨g1,g2⟩:=hj (by simpa using hc)
 refine Wp.count (λs=>s) c.2.2.length (λk _=>∀i(h:i<c.2.2.length),i<k->c.2.2[i].length<=14) (by omega) rfl (λi h g=>by omega) λk s hk hs hJ=>?_
 obtain rfl:s=_:=hs
 refine Wp.dec (λaF=>?_) λhge=> .some λ_=>⟨g1,g2,λvs hvs=>?_⟩
 .have aF:k<c.2.2.length:=by omega
  rw[aC aF,aqN]
  refine Wp.dec (λ_=> .some λh=>by cases h) λh=> .some ⟨aF,bQ (m:=c.2.2.length) (by omega) aF,λi hi P6=>?_⟩
  by_cases e:i<k
  .exact hJ i hi e
  .obtain rfl:i=k:=by omega
   omega
 .obtain⟨i,hi,rfl⟩:=aq6 hvs;exact hJ i hi (by omega)
def S0{l:Lw}(gk:fZ l)(hv:Valid l){k:Nat}(hk:k<l.2.2.length){c:ff.den}(hC:Hv l l.2.2[k] c):∃q oq uZ,HG l l.2.2[k] c q oq uZ/\q.2.2.2.1.length<=14:=by
 have Fb:=(gk.2.2.2.2.2 _ (aqS hk)).2.2.1;by_cases h:(0:Int)<=l.2.2[k].2.1
 .obtain⟨j,hj,e,_⟩:=Wt hv hk h;obtain⟨oq,e1,e2,e3⟩:=Sv gk hv hj;exact⟨_,oq,_, .inr ⟨j,hj,e,rfl,e1,e2,e3,rfl⟩,(gk.2.2.2.2.2 _ (aqS hj)).2.2.1⟩
 .refine⟨l.2.2[k],[],[], .inl ⟨h,rfl,?_⟩,Fb⟩
  rcases hc:c.2.2 with _|⟨vs,t⟩
  .rfl
  .obtain⟨q,_,e,_⟩:=hC.mem vs (by rw[hc];exact List.mem_cons_self ..);exact absurd (show(0:Int)<=l.2.2[k].2.1 from e▸Int.natCast_nonneg q) h
def Im{n:Nat}{a:Int}(h:a<0\/(n:Int)<=a):((if(decide (a<(0:Int)))=af then aa af else aa (decide ((n:Int)<=a))):Option Bool)=aa af:=by
 by_cases g:a<0
 .rw[aj (an g)]
 .rw[ai (by simpa using g),an (h.resolve_left g)]
def Io{n k:Nat}(h:k<n):((if(decide ((k:Int)<(0:Int)))=af then aa af else aa (decide ((n:Int)<=(k:Int)))):Option Bool)=aa ag:=by
 rw[ai (by rw[aw];omega),ao (by omega)]
inductive S3(l:Lw)(a:Int)(c:ff.den):Prop
 |bad:¬Valid l->S3 l a c
 |out:Valid l->a<0\/(l.2.2.length:Int)<=a->S3 l a c
 |err (k:Nat) (y:Int×Int×Int):Valid l->k<l.2.2.length->a=(k:Int)->M.cF aK l (k:Int) c=aa y->(y.2.2:Int)≠0->S3 l a c
 |ok (k:Nat) (hk:k<l.2.2.length) (y:Int×Int×Int) (o:List Int) (q:jm) (oq:List Int) (uZ:List Ty):Valid l->a=(k:Int)->M.cF aK l (k:Int) c=aa y->(y.2.2:Int)=0->Hv l l.2.2[k] c->M.cG aK l.2.2[k]=aa ((0:Int),o)->rJ l.2.2[k] o->o.length=l.2.2[k].2.2.2.1.length->HG l l.2.2[k] c q oq uZ->q.2.2.2.1.length<=14->S3 l a c
def ai4(l:Lw)(gk:fZ l)(a:Int)(c:ff.den)(h1:c.2.1.length<=14)(h2:c.2.2.length<=10)(h3:∀vs∈c.2.2,vs.length<=14):S3 l a c:=by
 by_cases hv:Valid l
 rotate_left
 .exact .bad hv
 by_cases ho:a<0\/(l.2.2.length:Int)<=a
 .exact .out hv ho
 obtain⟨k,rfl⟩:=aqY (show 0<=a by omega)
 have hk:k<l.2.2.length:=by omega
 obtain⟨y,hy,hyc⟩:=Vo hv.enl gk hk c h1 h2 h3;by_cases h0:(y.2.2:Int)=0
 rotate_left
 .exact .err k y hv hk rfl hy h0
 obtain⟨o,e1,e2,e3⟩:=Sv gk hv hk;obtain⟨q,oq,uZ,hA,hq⟩:=S0 gk hv hk (hyc h0);exact .ok k hk y o q oq uZ hv rfl hy h0 (hyc h0) e1 e2 e3 hA hq
def acM{l:Lw}(hw:WF cz l)(gk:fZ l)(a:Int)(c:ff.den)(h:¬Valid l):M.cN aK l a c=aa (((1:Int),((-1:Int),((-1:Int),(-1:Int)))),([],([],[]))):=by
 unfold M.cN;rw[wC l hw gk,aqN,aj];rw[Bool.not_eq_true',q8];intro g;exact h (by unfold Valid;rw[g])
def acN{l:Lw}(hw:WF cz l)(gk:fZ l){a:Int}(c:ff.den)(hv:Valid l)(h:a<0\/(l.2.2.length:Int)<=a):M.cN aK l a c=aa (((6:Int),((-1:Int),((-1:Int),(-1:Int)))),([],([],[]))):=by
 unfold M.cN;rw[wC l hw gk,hv.E9,aqN,ai (by rw[show E9=Vq from rfl,pd];decide),Im h,aqN,aj rfl]
def acO{l:Lw}(hw:WF cz l)(gk:fZ l)(c:ff.den)(hv:Valid l){k:Nat}(hk:k<l.2.2.length){y:Int×Int×Int}(hy:M.cF aK l (k:Int) c=aa y)(h0:(y.2.2:Int)≠0):M.cN aK l (k:Int) c=aa ((y.2.2,(y.1,((-1:Int),(-1:Int)))),([],([],[]))):=by
 unfold M.cN;rw[wC l hw gk,hv.E9,aqN,ai (by rw[show E9=Vq from rfl,pd];decide),Io hk,aqN,ai (by decide),hy,aqN,aj (by simpa using h0)]
end L
namespace L
abbrev scT:List bn.den:=[((⟨#[104,111,117,115,101]⟩:ByteArray),((-1:Int),(([((⟨#[97]⟩:ByteArray),((3:Int),(0:Int)))]:List bJ.den),(([((⟨#[100]⟩:ByteArray),((3:Int),(0:Int)))]:List bJ.den),([((⟨#[98,97,115,101]⟩:ByteArray),((0:Int),((-1:Int),((0:Int),(((0:Int),(109573:Int)),(([]:List aA.den),(([((7:Int),(0:Int))]:List aA.den),asg)))))))]:List dX.den)))))]
abbrev VE:Lw:=(([]:List di.den),(([]:List bj.den),scT))
abbrev tbT:EI:=((0:Int),(([]:List (List aA.den)),(([]:List Int),([(((0:Int),(0:Int)),(0:Int))]:List aM.den))))
def S4:M.iu aK VE=aa ((0:Int),((0:Int),((0:Int),(0:Int)))):=by kernel_rfl
def ai6:M.kQ aK VE 0 0 36525=aa ((0:Int),(0:Int),([]:List (List aA.den)),([]:List Int),([(((0:Int),(0:Int)),(0:Int))]:List aM.den)):=by
 have hx:idx VE.2.2 0=aa VE.2.2[0]:=rfl
 have hf:Fit VE.2.2[0].2.2.2.2 0 36525:=by
  refine⟨by decide,λr hr=>?_,?_⟩
  .grind
  .grind [TN,lZ]
 have h1:=C9 S4 (by decide) (by decide) hx (by decide) (by decide) (by decide) (by decide) hf;have h2:=Hh (l:=VE) (a1:=0) hx hf
 have h3:M.jk aK VE 0 0 36525=aa ((0:Int),([]:List (List aA.den)),([]:List Int),([(((0:Int),(0:Int)),(0:Int))]:List aM.den)):=by kernel_rfl
 grind
def acQ:M.dH aK VE 0 36525=aa (scT[0],[0],[tbT],[0]):=by
 unfold M.dH;refine Wp.eq (.be (x:=scT[0]) rfl (.be (x:=[((0:Int),(([]:List (List aA.den)),(([]:List Int),([]:List aM.den))))]) rfl (.be (x:=[(0:Int)]) rfl (.be (x:=((0:Int),[(0:Int)])) (by kernel_rfl) (Wp.seq (λj=>j=([tbT],[(0:Int)])) ?_ λj hj=> .some (by rw[hj]))))))
 refine Wp.count (λs=>s.1) 1 (λk s=>s.2.1.length=1/\s.2.2.length=1/\(k=1->s.2=([tbT],[(0:Int)]))) (by omega) rfl ⟨rfl,rfl,λh=>by cases h⟩ λk s hk hs hJ=>?_
 obtain⟨c,A,B⟩:=s;obtain⟨j1,j2,j3⟩:=hJ;dsimp only at hs j1 j2 j3;subst hs
 refine .dec (λh=>?_) λh=> .some (j3 ?_)
 .have h:(k:Int)<1:=h
  obtain rfl:k=0:=by omega
  obtain⟨a,rfl⟩:=List.length_eq_one_iff.1 j1;obtain⟨b,rfl⟩:=List.length_eq_one_iff.1 j2;exact .be ai6 (.be (x:=a) rfl (.be (x:=b) rfl (.some ⟨by omega,rfl,rfl,rfl,λ_=>rfl⟩)))
 .have h:¬(k:Int)<1:=h;omega
def runT:M.cN aK VE 0 ((36525:Int),(([((3:Int),((0:Int),(1250:Int)))]:List aB.den),([]:List (List aB.den))))=aa (((0:Int),((0:Int),((0:Int),(0:Int)))),[((3:Int),((0:Int),(1250:Int)))],[(0:Int)],[]):=by
 unfold M.cN;refine Wp.eq (.be S4 (.ite (λh=>absurd h (by rw[pd];decide)) λ_=> .be (x:=ag) rfl (.ite (λh=>absurd h (by decide)) λ_=> .be (x:=((0:Int),(0:Int),(0:Int))) (by kernel_rfl) (.ite (λh=>absurd h (by decide)) λ_=> .join (.be (x:=scT[0]) rfl (.be (x:=ag) rfl (.ite (λh=>absurd h (by decide)) λ_=> .some ?_)))))))
 show Wp _ _
 exact .be acQ (.be (x:=(((0:Int),((0:Int),((0:Int),(0:Int)))),[((3:Int),((0:Int),(1250:Int)))],[(0:Int)])) (by kernel_rfl) (.ite (λh=>absurd h (by rw[pd];decide)) λ_=> .some rfl))
def Mf:M.o3 aK=aa af:=by
 unfold M.o3;exact Wp.eq (.be (x:=((1:Int),((-1:Int),(0:Int)))) (by kernel_rfl) (.be (x:=((0:Int),((1:Int),(8:Int)))) (by kernel_rfl) (.be (x:=scT) (by kernel_rfl) (.be runT (.of (x:=af) (by kernel_rfl) rfl)))))
end L
namespace L
def KC{l:Lw}(hw:WF cz l)(gk:fZ l)(a:Int)(c:ff.den)(h1:c.2.1.length<=14)(h2:c.2.2.length<=10)(h3:∀vs∈c.2.2,vs.length<=14):∃r,M.cN aK l a c=aa r/\M.mL aK l a c=aa r/\Bd r:=by
 rcases ai4 l gk a c h1 h2 h3 with hv|⟨hv,ho⟩|⟨k,y,hv,hk,rfl,hy,h0⟩|⟨k,hk,y,o,q,oq,uZ,hv,rfl,hy,h0,hC,e1,e2,e3,hA,hq⟩
 .refine⟨_,acM hw gk a c hv,?_,Bm _⟩;unfold M.mL;rw[wW l hw gk,aqN,aj (show(!decide (Valid l))=af by simpa using hv)]
 .refine⟨_,acN hw gk c hv ho,?_,Bm _⟩;unfold M.mL;rw[wW l hw gk,aqN,ai (show¬(!decide (Valid l))=af by simpa using hv),Im ho,aqN,aj rfl]
 .refine⟨_,acO hw gk c hv hk hy h0,?_,Bm _⟩;unfold M.mL;rw[wW l hw gk,aqN,ai (show¬(!decide (Valid l))=af by simpa using hv),Io hk,aqN,ai (by decide),Dr,hy,aqN,aj (by simpa using h0)]
 .have Fb:=(gk.2.2.2.2.2 _ (aqS hk)).2.2.1;exact⟨_,aiB hw gk hv hk hC hy h0 e1 e2 e3 hA,ai2 hw gk hv hk hC hy h0 e2 e3 hA,VD Fb hq (by omega)⟩
def wX(l:Lw)(scope:Int)(c:ff.den)(hw:WF cz l)(_:WF az scope)(_:WF ff c):M.mA aK l scope c=aa af:=by
 unfold M.mA;refine Wp.eq (Wp.seq (λj=>j=ag->fZ l/\c.2.1.length<=14/\c.2.2.length<=10/\∀vs∈c.2.2,vs.length<=14) (Wp.seq _ (NV l hw) λy hy=> .ite (λ_=> .some λh=>by cases h) λh=>Wp.seq _ (E6 c) λz hz=> .some λg=>⟨hy (by simpa using h),hz (by simpa using g)⟩) λj hj=> .ite (λ_=> .be Mf (.some rfl)) λh=>?_);obtain⟨gk,g1,g2,g3⟩:=hj (by simpa using h);obtain⟨r,e1,e2,hb⟩:=KC hw gk scope c g1 g2 g3;refine .be e1 (.be e2 (.be (x:=af) ?_ (.some rfl)));rw[SZ hb,aqN,aj rfl,aj (pd ..),Mf,aqN]
end L
end Go.Proofs.YtfeahmiobbjklaaGreatDoor
