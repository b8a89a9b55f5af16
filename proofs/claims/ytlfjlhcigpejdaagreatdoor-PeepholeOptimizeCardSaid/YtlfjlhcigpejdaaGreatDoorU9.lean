/- Joined texts: KT PT3 KR KA KA2 PQ PQ2. -/
import Derived.Test.YtlfjlhcigpejdaaGreatDoorU8
section
open _root_.Bool renaming eq_iff_iff->Yh,false_eq_true->X8,not_true->Yp
open _root_.Int renaming lt_or_le->Zb,tdiv->Yn,tdiv_eq_ediv_of_nonneg->Yj,tmod_eq_emod_of_nonneg->Yi
open _root_.Go.IntKind renaming i64->X6
open _root_.Nat renaming lt_or_ge->YN,zero_add->Yw,zero_le->Yk
open _root_.Option renaming bind_some->X5
open _root_.Option.some renaming inj->X7
open _root_.Sum renaming inl->YT,inr->Yv
namespace Go.Proofs.YtlfjlhcigpejdaaGreatDoor
open Go Go.RowKit
set_option maxRecDepth 100000
namespace L
def lp(y:Int):Prop:=y%4=0/\(y%100≠0\/y%400=0)
instance(y:Int):Decidable (lp y):=by unfold lp;infer_instance
def my(y m:Int):Int:=if m=2 then(if lp y then 29 else 28)else if m=4\/m=6\/m=9\/m=11 then 30 else if m=1\/m=3\/m=5\/m=7\/m=8\/m=10\/m=12 then 31 else 0
def FM(y:Int):Int:=if lp y then 366 else 365
def ly(y:Int):Int:=y/4-y/100+y/400
def ys(y:Int):Int:=(y-1900)*365+ly (y-1)-460
def ms(y:Int):Nat->Int
 |0=>0
 |k+1=>ms y k+my y (((k+1:Nat)):Int)
theorem jD(y m:Int):0<=my y m/\my y m<=31:=by unfold my;split<;>(try split)<;>(try split)<;>omega
theorem G7(y:Int){m:Int}(h:1<=m/\m<=12):28<=my y m:=by unfold my;split<;>(try split)<;>(try split)<;>omega
theorem Ai(y:Int){m:Int}(h:m<1\/12<m):my y m=0:=by unfold my;rw[if_neg (by omega),if_neg (by omega),if_neg (by omega)]
theorem nU(y:Int):ys (y+1)=ys y+FM y:=by
 unfold FM;by_cases h:lp y
 .rw[if_pos h];unfold lp at h;unfold ys ly;omega
 .rw[if_neg h];unfold lp at h;unfold ys ly;omega
theorem RH:ys 1900=0:=by decide
theorem pZ{y y':Int}(h:y<=y'):ys y<=ys y':=by
 unfold ys ly;omega
theorem uN(y:Int):365<=FM y/\FM y<=366:=by unfold FM;split<;>omega
theorem mm(y:Int){i j:Nat}(h:i<=j):ms y i<=ms y j:=by
 induction j with
 |zero=>have:i=0:=by omega
        subst this;omega
 |succ j ih=>
  rcases YN i (j+1)with h1|h1
  .have:=ih (by omega);have:=jD y ((j+1:Nat):Int)
   show ms y i<=ms y j+my y ((j+1:Nat):Int)
   omega
  .have:i=j+1:=by omega
   subst this;omega
theorem w3(y:Int):ms y 12=FM y:=by
 unfold FM
 by_cases h:lp y<;>simp[ms,my,h]
theorem lI(y:Int){i:Nat}(h:i<=12):0<=ms y i/\ms y i<=366:=by
 have h1:=mm y (Yk i);have h2:=mm y h;rw[w3]at h2;have:=uN y;have:ms y 0=0:=rfl;omega
theorem oP{y:Int}(h:1900<=y/\y<=2200):0<=ys y/\ys y<=109573:=by
 unfold ys ly;omega
theorem Aj{y d:Int}(hd:d<=109572)(h:ys y<=d):y<=2199:=by
 unfold ys ly at h;omega
theorem Ak(N:Nat){y:Int}(h:0<=y):M.iB N y=some (decide (lp y)):=by
 unfold M.iB;rw[Yi h,Yi h,Yi h];simp only[ak,X5,eQ,dM];refine congrArg some ?_;rw[Yh,decide_eq_true_eq];unfold lp;simp
theorem w4(N:Nat){y:Int}(h:0<=y):M.iS N y=some (decide (lp y)):=Ak N h
theorem uO(N:Nat){y:Int}(h:0<=y)(m:Int):M.bS N y m=some (my y m):=by
 unfold M.bS;rw[Ak N h];by_cases hm:1<=m/\m<=12
 .have:m=1\/m=2\/m=3\/m=4\/m=5\/m=6\/m=7\/m=8\/m=9\/m=10\/m=11\/m=12:=by omega
  by_cases hl:lp y
  .rcases this with rfl|rfl|rfl|rfl|rfl|rfl|rfl|rfl|rfl|rfl|rfl|rfl<;>simp[my,hl]<;>rfl
  .rcases this with rfl|rfl|rfl|rfl|rfl|rfl|rfl|rfl|rfl|rfl|rfl|rfl<;>simp[my,hl]<;>rfl
 .rw[Ai y (by omega)];simp only[ak,X5,eQ];rw[if_pos (by simp;omega)]
theorem p3(N:Nat){y:Int}(h:0<=y)(m:Int):M.bW N y m=some (my y m):=by
 unfold M.bW my;rw[w4 N h];by_cases h2:m=2
 .subst h2
  by_cases hl:lp y<;>simp[hl]
 .rw[if_neg (by simpa using h2),if_neg h2];by_cases h4:m=4\/m=6\/m=9\/m=11
  .rw[if_pos h4]
   rcases h4 with rfl|rfl|rfl|rfl<;>simp
  .rw[if_neg h4];simp only[not_or]at h4;by_cases h1:m=1\/m=3\/m=5\/m=7\/m=8\/m=10\/m=12
   .rw[if_pos h1]
    rcases h1 with rfl|rfl|rfl|rfl|rfl|rfl|rfl<;>simp
   .rw[if_neg h1];simp only[not_or]at h1;simp[h1,h4]
theorem Al(N:Nat){y:Int}(h:0<=y):M.dm N y=some (FM y):=by
 unfold M.dm FM;rw[w4 N h]
 by_cases hl:lp y<;>simp[hl]
theorem E1(N:Nat){y:Int}(h:1900<=y/\y<=2300):M.cr N y=some (ys y):=by
 unfold M.cr M.fk;rw[ag (n:=y-1) (by omega) (by omega),Yj (by omega),Yj (by omega),Yj (by omega)];simp only[X5];refine congrArg some ?_
 have e:∀z:Int,-1000000000<=z->z<=1000000000->X6.wrap z=z:=fun z h1 h2=>ag (by omega) (by omega)
 rw[show X6.wrap (X6.wrap (X6.wrap (Yn 1899 4)-X6.wrap (Yn 1899 100))+X6.wrap (Yn 1899 400))=460 by decide];rw[e ((y-1)/4) (by omega) (by omega),e ((y-1)/100) (by omega) (by omega),e ((y-1)/400) (by omega) (by omega),e (y-1900) (by omega) (by omega),e ((y-1900)*365) (by omega) (by omega),e ((y-1)/4-(y-1)/100) (by omega) (by omega),e ((y-1)/4-(y-1)/100+(y-1)/400) (by omega) (by omega),e ((y-1900)*365+((y-1)/4-(y-1)/100+(y-1)/400)) (by omega) (by omega),e _ (by omega) (by omega)];rfl
def CX(d:Int)(r:Int×Int×Int):Prop:=(1900<=r.1/\r.1<=2199)/\∃j:Nat,r.2.1=((j+1:Nat):Int)/\j<12/\1<=r.2.2/\r.2.2<=my r.1 ((j+1:Nat):Int)/\d=ys r.1+ms r.1 j+r.2.2-1
theorem CX.year{d:Int}{r:Int×Int×Int}(h:CX d r):ys r.1<=d/\d<ys (r.1+1):=by
 obtain⟨h1,j,h2,h3,h4,h5,h6⟩:=h;have a:=lI r.1 (i:=j) (by omega);have b:=mm r.1 (show j+1<=12 by omega);rw[w3]at b;have c:ms r.1 (j+1)=ms r.1 j+my r.1 ((j+1:Nat):Int):=rfl;have e:=nU r.1;omega
theorem CX.Qe{d:Int}{r s:Int×Int×Int}(h:CX d r)(g:CX d s):r=s:=by
 have hy:r.1=s.1:=by
  have a:=h.year;have b:=g.year
  rcases Int.lt_trichotomy r.1 s.1 with c|c|c
  .have:=pZ (show r.1+1<=s.1 by omega);omega
  .exact c
  .have:=pZ (show s.1+1<=r.1 by omega);omega
 obtain⟨y,m,k⟩:=r;obtain⟨y',m',k'⟩:=s;simp only at hy;subst hy;obtain⟨h1,j,h2,h3,h4,h5,h6⟩:=h;obtain⟨g1,i,g2,g3,g4,g5,g6⟩:=g;simp only at h1 h2 h3 h4 h5 h6 g1 g2 g3 g4 g5 g6
 have hj:j=i:=by
  rcases Nat.lt_trichotomy j i with c|c|c
  .have a:ms y (j+1)=ms y j+my y ((j+1:Nat):Int):=rfl;have b:=mm y (show j+1<=i from c);omega
  .exact c
  .have a:ms y (i+1)=ms y i+my y ((i+1:Nat):Int):=rfl;have b:=mm y (show i+1<=j from c);omega
 subst hj
 have:k=k':=by omega
 rw[h2,g2,this]
theorem dv(d:Int):((if(decide ((0:Int)<=d))=true then some (decide (d<=(109572:Int)))else some false):Option Bool)=some (decide (0<=d/\d<=109572)):=by
 rw[ak,dM,Bool.decide_and]
theorem rm(N:Nat)(d:Int):M.eB N d=some (decide (0<=d/\d<=109572)):=by
 unfold M.eB;rw[dv];rfl
theorem ie(N:Nat)(d:Int):M.fo N d=some (decide (0<=d/\d<=109572)):=by
 unfold M.fo;rw[dv];rfl
theorem mn{d:Int}(hd:0<=d/\d<=109572):Wp (M.cu az d) (CX d):=by
 unfold M.cu;rw[rm,X5,if_neg (by simpa using hd),Yj hd.1,ag (n:=d/366) (by omega) (by omega),ag (n:=1900+d/366) (by omega) (by omega)]
 refine Wp.seq (fun y=>(1900<=y/\y<=2199)/\ys y<=d/\d<ys (y+1)) (Wp.loop (fun y:Int=>(1900<=y/\y<=2199)/\ys y<=d) (fun y=>(2199-y).toNat) ⟨by omega,by unfold ys ly;omega⟩ (by unfold az;omega) ?_) fun y hy=>?_
 .rintro y ⟨h1,h2⟩
  rw[ag (by omega) (by omega),E1 az (by omega),X5]
  refine Wp.dec (fun h=> .some ?_) fun h=> .some ⟨h1,h2,by omega⟩
  have:=Aj hd.2 h;exact⟨⟨by omega,h⟩,by simp only;omega⟩
 .obtain⟨h1,h2,h3⟩:=hy;have hr:=oP (y:=y) (by omega);rw[E1 az (by omega),X5,ag (n:=d-ys y) (by omega) (by omega)];refine Wp.loop (fun s:Int×Int=>∃i:Nat,s.2=i/\i<=12/\s.1=d-ys y-ms y i/\0<=s.1) (fun s=>(12-s.2).toNat) ⟨0,rfl,by omega,by show d-ys y=d-ys y-0;omega,by simp only;omega⟩ (by simp only;unfold az;omega) ?_
  rintro⟨a,b⟩ ⟨i,hi,ES,ha,h0⟩
  simp only at hi ha h0;subst hi ha;have hm:=lI y ES;have e:=nU y
  refine Wp.dec (fun h=>?_) fun h=>?_
  .have hi:i<12:=by simp only at h;omega
   rw[al (by omega),uO az (by omega),X5];have CV:=jD y ((i+1:Nat):Int)
   refine Wp.dec (fun g=> .some ?_) fun g=> .some ?_
   .simp only at g;refine⟨h1,i,rfl,hi,?_,?_,?_⟩
    .show 1<=X6.wrap _
     rw[ag (by omega) (by omega)];omega
    .show X6.wrap _<=my y ((i+1:Nat):Int)
     rw[ag (by omega) (by omega)];omega
    .show d=ys y+ms y i+X6.wrap _-1
     rw[ag (by omega) (by omega)];omega
   .simp only at g⊢;rw[ag (by omega) (by omega)];refine⟨⟨i+1,rfl,hi,?_,by simp only;omega⟩,by simp only;omega⟩
    show _=d-ys y-(ms y i+my y ((i+1:Nat):Int))
    simp only;omega
  .have:i=12:=by simp only at h;omega
   subst this;rw[w3]at h0;omega
theorem sc{d:Int}(hd:0<=d/\d<=109572):Wp (M.eo az d) (CX d):=by
 unfold M.eo;rw[ie,X5,if_neg (by simpa using hd)]
 refine Wp.seq (fun s:Int×Int=>(1900<=s.2/\s.2<=2199)/\s.1=d-ys s.2/\0<=s.1/\s.1<FM s.2) (Wp.loop (fun s:Int×Int=>(1900<=s.2/\s.2<=2199)/\s.1=d-ys s.2/\0<=s.1) (fun s=>(2199-s.2).toNat) ⟨⟨by show(1900:Int)<=1900;omega,by show(1900:Int)<=2199;omega⟩,by show d=d-ys 1900;rw[RH];omega,hd.1⟩ (by simp only;unfold az;omega) ?_) fun s hs=>?_
 .rintro⟨t,y⟩ ⟨h1,h2,h3⟩
  simp only at h1 h2 h3⊢;subst h2;have e:=nU y;have hr:=oP (y:=y) (by omega);have WJ:=uN y;rw[Al az (by omega),X5]
  refine Wp.dec (fun h=>?_) fun h=> .some ⟨h1,rfl,h3,by simp only;omega⟩
  rw[X5];refine .some ?_;rw[ag (by omega) (by omega),ag (by omega) (by omega)];have:=Aj (y:=y+1) hd.2 (by omega);exact⟨⟨by simp only;omega,by simp only;omega,by simp only;omega⟩,by simp only;omega⟩
 .obtain⟨t,y⟩:=s;obtain⟨h1,h2,h3,h4⟩:=hs;simp only at h1 h2 h3 h4⊢;subst h2;have hr:=oP (y:=y) (by omega)
  refine Wp.seq (fun s:Int×Int=>∃i:Nat,s.2=((i+1:Nat):Int)/\i<12/\s.1=d-ys y-ms y i/\0<=s.1/\s.1<my y ((i+1:Nat):Int)) (Wp.loop (fun s:Int×Int=>∃i:Nat,s.2=((i+1:Nat):Int)/\i<12/\s.1=d-ys y-ms y i/\0<=s.1) (fun s=>(12-s.2).toNat) ⟨0,rfl,by omega,by show d-ys y=d-ys y-0;omega,by simp only;omega⟩ (by simp only;unfold az;omega) ?_) fun s hs=>?_
  .rintro⟨a,b⟩ ⟨i,hi,ES,ha,h0⟩
   simp only at hi ha h0⊢;subst hi ha;have hm:=lI y (i:=i) (by omega);rw[p3 az (by omega),X5];have CV:=jD y ((i+1:Nat):Int)
   refine Wp.dec (fun g=>?_) fun g=> .some ⟨i,rfl,ES,rfl,h0,by simp only;omega⟩
   rw[X5];refine .some ?_;rw[ag (by omega) (by omega),al (by omega)];have GO:ms y (i+1)=ms y i+my y ((i+1:Nat):Int):=rfl
   have dA:i+1<12:=by
    rcases YN (i+1) 12 with c|c
    .exact c
    .have:i+1=12:=by omega
     rw[this,w3]at GO;rw[this]at g;omega
   exact⟨⟨i+1,rfl,dA,by simp only;omega,by simp only;omega⟩,by simp only;omega⟩
  .obtain⟨a,b⟩:=s;obtain⟨i,hi,ES,ha,h0,h5⟩:=hs;simp only at hi ha h0 h5⊢;subst hi ha;have hm:=lI y (i:=i) (by omega);refine .some ⟨h1,i,rfl,ES,?_,?_,?_⟩
   .show 1<=X6.wrap _
    rw[ag (by omega) (by omega)];omega
   .show X6.wrap _<=my y ((i+1:Nat):Int)
    rw[ag (by omega) (by omega)];omega
   .show d=ys y+ms y i+X6.wrap _-1
    rw[ag (by omega) (by omega)];omega
theorem rn(d:Int):M.cu az d=M.eo az d:=by
 by_cases hd:0<=d/\d<=109572
 .obtain⟨r,e,h⟩:=mn hd;obtain⟨s,f,g⟩:=sc hd;rw[e,f,h.Qe g]
 .unfold M.cu M.eo;rw[rm,ie,X5,X5,if_pos (by simp;omega),if_pos (by simp;omega)]
def rp(y m k:Int):Prop:=1900<=y/\y<=2199/\1<=m/\m<=12/\1<=k/\k<=my y m
instance(y m k:Int):Decidable (rp y m k):=by unfold rp;infer_instance
def FY(y m k:Int):Int×Int:=if rp y m k then(ys y+ms y (m-1).toNat+k-1,0)else(0,3)
theorem yU(y m k:Int):M.fE az y m k=some (FY y m k):=by
 apply Wp.eq;unfold M.fE FY
 refine Wp.seq (fun j=>j=decide (¬rp y m k)) ?_ fun j hj=>?_
 .unfold rp
  refine Wp.dec (fun _=> .some (by symm;simp;omega)) fun _=>Wp.dec (fun _=> .some (by symm;simp;omega)) fun _=>Wp.dec (fun _=> .some (by symm;simp;omega)) fun h1=>Wp.dec (fun _=> .some (by symm;simp;omega)) fun h2=>Wp.dec (fun _=> .some (by symm;simp;omega)) fun _=>?_
  rw[uO az (by omega),X5];refine .some ?_;rw[Yh];simp;omega
 .subst hj;by_cases h:rp y m k
  .rw[if_neg (by simpa using h),if_pos h];obtain⟨h1,h2,h3,h4,h5,h6⟩:=h;have hr:=oP (y:=y) (by omega);rw[E1 az (by omega),X5,ag (n:=m-1) (by omega) (by omega)]
   refine Wp.seq (fun z=>z=ys y+ms y (m-1).toNat) (Wp.loop (fun s:Int×Int=>∃i:Nat,s.2=i/\(i:Int)<=m-1/\s.1=ys y+ms y i) (fun s=>(m-s.2).toNat) ⟨0,rfl,by omega,by show ys y=ys y+0;omega⟩ (by simp only;unfold az;omega) ?_) fun z hz=>?_
   .rintro⟨a,b⟩ ⟨i,hi,ES,ha⟩
    simp only at hi ha⊢;subst hi ha
    refine Wp.dec (fun g=>?_) fun g=> .some ?_
    .have hm:=lI y (i:=i) (by omega);have CV:=jD y ((i+1:Nat):Int);rw[al (by omega),uO az (by omega),X5];refine .some ?_;rw[ag (by omega) (by omega)];refine⟨⟨i+1,rfl,by omega,?_⟩,by simp only;omega⟩
     show _=ys y+(ms y i+my y ((i+1:Nat):Int))
     simp only;omega
    .show _=_
     rw[show(m-1).toNat=i by omega]
   .subst hz;have hm:=lI y (i:=(m-1).toNat) (by omega);have CV:=jD y m;rw[ag (n:=ys y+ms y (m-1).toNat+k) (by omega) (by omega),ag (by omega) (by omega)];exact .some rfl
  .rw[if_pos (by simpa using h),if_neg h];exact .some rfl
theorem w5(y m k:Int):M.iu az y m k=some (FY y m k):=by
 apply Wp.eq;unfold M.iu FY
 refine Wp.seq (fun j=>j=decide (¬rp y m k)) ?_ fun j hj=>?_
 .unfold rp
  refine Wp.dec (fun _=> .some (by symm;simp;omega)) fun _=>Wp.dec (fun _=> .some (by symm;simp;omega)) fun _=>Wp.dec (fun _=> .some (by symm;simp;omega)) fun h1=>?_
  rw[p3 az (by omega),X5];refine .some ?_;rw[Yh];by_cases hm:1<=m/\m<=12
  .simp;omega
  .have:=Ai y (m:=m) (by omega);simp;omega
 .subst hj;by_cases h:rp y m k
  .rw[if_neg (by simpa using h),if_pos h];obtain⟨h1,h2,h3,h4,h5,h6⟩:=h;have CV:=jD y m;have hr:=oP (y:=y) (by omega);rw[ag (n:=k-1) (by omega) (by omega)]
   refine Wp.seq (fun z=>z=ys y+k-1) (Wp.loop (fun s:Int×Int=>(1900<=s.2/\s.2<=y)/\s.1=ys s.2+k-1) (fun s=>(y-s.2).toNat) ⟨⟨by show(1900:Int)<=1900;omega,h1⟩,by show k-1=ys 1900+k-1;rw[RH];omega⟩ (by simp only;unfold az;omega) ?_) fun z hz=>?_
   .rintro⟨a,b⟩ ⟨hb,ha⟩
    simp only at hb ha⊢;subst ha
    refine Wp.dec (fun g=>?_) fun g=> .some ?_
    .have hq:=oP (y:=b) (by omega);have WJ:=uN b;have e:=nU b;rw[Al az (by omega),X5];refine .some ?_;rw[ag (by omega) (by omega),ag (by omega) (by omega)];exact⟨⟨by simp only;omega,by simp only;omega⟩,by simp only;omega⟩
    .show _=_
     rw[show b=y by omega]
   .subst hz;refine Wp.loop (fun s:Int×Int=>∃i:Nat,s.2=((i+1:Nat):Int)/\(i:Int)<=m-1/\s.1=ys y+k-1+ms y i) (fun s=>(m-s.2).toNat) ⟨0,rfl,by omega,by show ys y+k-1=ys y+k-1+0;omega⟩ (by simp only;unfold az;omega) ?_
    rintro⟨a,b⟩ ⟨i,hi,ES,ha⟩
    simp only at hi ha⊢;subst hi ha
    refine Wp.dec (fun g=>?_) fun g=> .some ?_
    .have hm:=lI y (i:=i) (by omega);have CV:=jD y ((i+1:Nat):Int);rw[p3 az (by omega),X5];refine .some ?_;rw[ag (by omega) (by omega),al (by omega)];refine⟨⟨i+1,rfl,by omega,?_⟩,by simp only;omega⟩
     show _=ys y+k-1+(ms y i+my y ((i+1:Nat):Int))
     simp only;omega
    .show _=_
     rw[show(m-1).toNat=i by omega];refine Prod.ext ?_ rfl;simp only;omega
  .rw[if_pos (by simpa using h),if_neg h];exact .some rfl
def oQ(r:Int×Int×Int)(n:Int):Int×Int:=
 if(r.1-1900)*12+r.2.1-1+n<0\/3599<(r.1-1900)*12+r.2.1-1+n then(0,3)else
  FY (1900+((r.1-1900)*12+r.2.1-1+n)/12) (((r.1-1900)*12+r.2.1-1+n)%12+1) (if my (1900+((r.1-1900)*12+r.2.1-1+n)/12) (((r.1-1900)*12+r.2.1-1+n)%12+1)<r.2.2 then my (1900+((r.1-1900)*12+r.2.1-1+n)/12) (((r.1-1900)*12+r.2.1-1+n)%12+1)else r.2.2)
def Cl(d n:Int):Prop:=(0<=d/\d<=109572)/\-3600<=n/\n<=3600
theorem rq(d n:Int):((if(!decide (0<=d/\d<=109572))=true then some true else(if(decide (n<(-3600:Int)))=true then some true else some (decide ((3600:Int)<n)))):Option Bool)=some (decide (¬((0<=d/\d<=109572)/\-3600<=n/\n<=3600))):=by
 simp only[ak,eQ];refine congrArg some ?_;rw[Yh];simp;omega
theorem CX.RI{d:Int}{r:Int×Int×Int}(h:CX d r):1<=r.2.1/\r.2.1<=12/\1<=r.2.2/\r.2.2<=31:=by
 obtain⟨h1,j,h2,h3,h4,h5,h6⟩:=h;have:=jD r.1 ((j+1:Nat):Int);omega
theorem nV(d n:Int):(Cl d n/\∃r,CX d r/\M.cu az d=some r/\M.bM az d n=some (oQ r n))\/(¬Cl d n/\M.bM az d n=some (0,3)):=by
 unfold M.bM;rw[rm,X5,rq,X5];by_cases h:(0<=d/\d<=109572)/\-3600<=n/\n<=3600
 .refine .inl ⟨h,?_⟩;rw[if_neg (by simp;omega)];obtain⟨⟨y,m,k⟩,e,hr⟩:=mn h.1;refine⟨_,hr,e,?_⟩;rw[e,X5];have hy:=hr.1;have hm:=hr.RI;simp only at hy hm⊢
  have w:∀z:Int,-1000000000<=z->z<=1000000000->X6.wrap z=z:=fun z h1 h2=>ag (by omega) (by omega)
  rw[w (y-1900) (by omega) (by omega),w ((y-1900)*12) (by omega) (by omega),w ((y-1900)*12+m) (by omega) (by omega),w ((y-1900)*12+m-1) (by omega) (by omega),w ((y-1900)*12+m-1+n) (by omega) (by omega)];unfold oQ;simp only[ak,eQ,X5];by_cases c:(y-1900)*12+m-1+n<0\/3599<(y-1900)*12+m-1+n
  .rw[if_pos (by simpa using c),if_pos c]
  .rw[if_neg (by simpa using c),if_neg c]
   obtain⟨K,hK⟩:∃K,K=(y-1900)*12+m-1+n:=⟨_,rfl⟩
   rw[<-hK]at c⊢;rw[Yj (by omega),Yi (by omega),w (K/12) (by omega) (by omega),w (1900+K/12) (by omega) (by omega),w (K%12+1) (by omega) (by omega),uO az (by omega),X5,yU,X5]
 .exact .inr ⟨h,by rw[if_pos (by simp;omega)]⟩
theorem lJ(d n:Int):M.bM az d n=M.b9 az d n:=by
 have key:∀r:Int×Int×Int,CX d r->M.cu az d=some r->Cl d n->M.b9 az d n=some (oQ r n):=by
  rintro⟨y,m,k⟩ hr e h
  unfold M.b9;unfold Cl at h;rw[ie,X5,rq,X5,if_neg (by simp;omega),<-rn,e,X5];have hy:=hr.1;have hm:=hr.RI;simp only at hy hm⊢
  have w:∀z:Int,-1000000000<=z->z<=1000000000->X6.wrap z=z:=fun z h1 h2=>ag (by omega) (by omega)
  rw[w (12*y) (by omega) (by omega),w (12*y+m) (by omega) (by omega),w (12*y+m-1) (by omega) (by omega),w (12*y+m-1+n) (by omega) (by omega)]
  obtain⟨K,hK⟩:∃K,K=(y-1900)*12+m-1+n:=⟨_,rfl⟩
  have e1:12*y+m-1+n=K+22800:=by omega
  rw[e1,Yj (by omega),Yi (by omega),w ((K+22800)/12) (by omega) (by omega),w ((K+22800)%12+1) (by omega) (by omega),p3 az (by omega),X5,w5,X5]
  have e2:(K+22800)/12=1900+K/12:=by omega
  have e3:(K+22800)%12=K%12:=by omega
  rw[e2,e3];unfold oQ;simp only;rw[<-hK];by_cases c:K<0\/3599<K
  .rw[if_pos c];unfold FY;rw[if_neg (by unfold rp;omega)]
  .rw[if_neg c]
 rcases nV d n with⟨h,r,hr,e,f⟩|⟨h,f⟩
 .rw[f,key r hr e h]
 .rw[f];unfold M.b9;unfold Cl at h;rw[ie,X5,rq,X5,if_pos (by simp;omega)]
theorem mo{a:Int}{r:Int×Int×Int}(hr:CX a r)(j:Nat):(r.1+j<=2199/\(oQ r (12*j)).2=0/\ys (r.1+j)<=(oQ r (12*j)).1/\(oQ r (12*j)).1<ys (r.1+j+1)/\(j=0->(oQ r (12*j)).1=a))\/(2199<r.1+j/\(oQ r (12*j)).2=3):=by
 obtain⟨y,m,k⟩:=r;obtain⟨h1,i,h2,h3,h4,h5,h6⟩:=hr;simp only at h1 h2 h3 h4 h5 h6⊢;subst h2;unfold oQ;simp only
 obtain⟨K,hK⟩:∃K,K=(y-1900)*12+((i+1:Nat):Int)-1+12*(j:Int):=⟨_,rfl⟩
 rw[<-hK];by_cases c:K<0\/3599<K
 .rw[if_pos c];exact .inr ⟨by omega,rfl⟩
 .rw[if_neg c]
  have e1:1900+K/12=y+j:=by omega
  have e2:K%12+1=((i+1:Nat):Int):=by omega
  rw[e1,e2];have p:=G7 (y+j) (m:=((i+1:Nat):Int)) (by omega)
  obtain⟨k',cx,q1,q2,q3⟩:∃k',k'=(if my (y+j) ((i+1:Nat):Int)<k then my (y+j) ((i+1:Nat):Int)else k)/\1<=k'/\k'<=my (y+j) ((i+1:Nat):Int)/\(j=0->k'=k):=by
   refine⟨_,rfl,?_,?_,?_⟩
   .split<;>omega
   .split<;>omega
   .intro hj;subst hj;rw[if_neg];rw[show y+((0:Nat):Int)=y by omega];omega
  rw[<-cx];unfold FY;rw[if_pos (by unfold rp;omega)];refine .inl ⟨by omega,rfl,?_,?_,?_⟩
  .simp only;rw[show(((i+1:Nat):Int)-1).toNat=i by omega];have:=lI (y+j) (i:=i) (by omega);omega
  .simp only;rw[show(((i+1:Nat):Int)-1).toNat=i by omega];have b:=mm (y+j) (show i+1<=12 by omega);rw[w3]at b;have c:ms (y+j) (i+1)=ms (y+j) i+my (y+j) ((i+1:Nat):Int):=rfl;have e:=nU (y+j);omega
  .intro hj;simp only;rw[show(((i+1:Nat):Int)-1).toNat=i by omega,q3 hj,hj,show y+((0:Nat):Int)=y by omega];omega
theorem nW(a b:Int):M.cv az a b=M.dy az a b:=by
 unfold M.cv M.dy;rw[rm,rm,ie,ie];simp only[X5];by_cases ha:0<=a/\a<=109572
 case neg=>
  rw[decide_eq_false ha];rfl
 by_cases hb:0<=b/\b<=109572
 case neg=>
  rw[decide_eq_true ha,decide_eq_false hb];rfl
 rw[decide_eq_true ha,decide_eq_true hb];simp only[Yp,X8,if_false,X5];obtain⟨r,er,hr⟩:=mn ha;obtain⟨s,es,hs⟩:=mn hb;have Q6:=hr.1;have XV:=hs.1;have WK:=hr.year;have XW:=hs.year
 have am:∀j:Nat,j<=300->M.bM az a (12*(j:Int))=some (oQ r (12*j)):=by
  intro j hj
  rcases nV a (12*j)with⟨_,r',_,e',f⟩|⟨h,_⟩
  .rw[er]at e';obtain rfl:=X7 e';exact f
  .exact absurd (show Cl a (12*j)from⟨ha,by omega,by omega⟩) h
 have loop:∀n:Nat,n<=299->(∀j:Nat,1<=j->j<=n->(oQ r (12*j)).2=0/\(oQ r (12*j)).1<=b)->¬((oQ r (12*((n+1:Nat):Int))).2=0/\(oQ r (12*((n+1:Nat):Int))).1<=b)->
  (Loop (S:=Int) (X:=Int) (fun s4=>(M.b9 az a (X6.wrap ((12:Int)*(X6.wrap (s4+(1:Int)))))).bind fun y5=>((if(!decide (y5.2=(0:Int)))=true then some true else some (decide (b<y5.1))):Option (Bool)).bind fun j6=>
    (if j6=true then some (Yv s4)else some (YT (X6.wrap (s4+(1:Int)))))) az (0:Int))=some (n:Int):=by
  intro n hn h1 h2;apply Wp.eq;refine Wp.loop (fun s:Int=>∃k:Nat,s=k/\k<=n) (fun s=>(n-s).toNat) ⟨0,rfl,Yk _⟩ (by unfold az;omega) ?_
  rintro _ ⟨k,rfl,hk⟩
  rw[al (by omega),ag (by omega) (by omega),<-lJ,am (k+1) (by omega),X5];by_cases c:(oQ r (12*((k+1:Nat):Int))).2=0/\(oQ r (12*((k+1:Nat):Int))).1<=b
  .have CS:k<n:=by
    rcases YN k n with g|g
    .exact g
    .have:k=n:=by omega
     subst this;exact absurd c h2
   rw[if_neg (by rw[decide_eq_true c.1];decide),X5,if_neg (by rw[decide_eq_false (Int.not_lt.2 c.2)];decide)];exact .some ⟨⟨k+1,rfl,CS⟩,by simp only;omega⟩
  .have CS:k=n:=by
    rcases YN k n with g|g
    .exact absurd (h1 (k+1) (by omega) (by omega)) c
    .omega
   subst CS;by_cases c1:(oQ r (12*((k+1:Nat):Int))).2=0
   .rw[if_neg (by rw[decide_eq_true c1];decide),X5,if_pos (decide_eq_true (Int.not_le.1 fun g=>c ⟨c1,g⟩))];exact .some rfl
   .rw[if_pos (by simpa using c1),X5,if_pos rfl];exact .some rfl
 by_cases HK:b<a
 .rw[if_pos (by simpa using HK)]
  have:=loop 0 (by omega) (fun j h1 h2=>by omega) (by
   rintro⟨c1,c2⟩
   rcases mo hr 1 with⟨_,_,h3,_⟩|⟨_,h3⟩
   .have e:r.1+((1:Nat):Int)=r.1+1:=by omega
    rw[e]at h3;simp only[Yw]at c2;omega
   .simp only[Yw]at c1
    omega)
  exact this.symm
 .rw[if_neg (by simpa using HK),er,es,X5,X5,ag (n:=s.1-r.1) (by omega) (by omega)]
  have hle:r.1<=s.1:=by
   rcases Zb s.1 r.1 with c|c
   .have:=pZ (show s.1+1<=r.1 by omega);omega
   .exact c
  obtain⟨Y,hY⟩:∃Y:Nat,s.1-r.1=Y:=⟨(s.1-r.1).toNat,by omega⟩
  have WL:Y<=299:=by omega
  rw[hY,ag (n:=12*(Y:Int)) (by omega) (by omega),am Y (by omega),X5]
  have low:∀j:Nat,1<=j->j<Y->(oQ r (12*j)).2=0/\(oQ r (12*j)).1<=b:=by
   intro j h1 h2
   rcases mo hr j with⟨_,g2,_,g4,_⟩|⟨g1,_⟩
   .have:=pZ (show r.1+j+1<=s.1 by omega);exact⟨g2,by omega⟩
   .omega
  have Qf:¬((oQ r (12*((Y+1:Nat):Int))).2=0/\(oQ r (12*((Y+1:Nat):Int))).1<=b):=by
   rintro⟨c1,c2⟩
   rcases mo hr (Y+1)with⟨_,_,g3,_⟩|⟨_,g2⟩
   .have e:r.1+((Y+1:Nat):Int)=s.1+1:=by omega
    rw[e]at g3;omega
   .omega
  by_cases c:(oQ r (12*(Y:Int))).2=0/\(oQ r (12*(Y:Int))).1<=b
  .rw[if_neg (by rw[decide_eq_true c.1];decide),X5,if_neg (by rw[decide_eq_false (Int.not_lt.2 c.2)];decide),X5,if_neg (by omega)];refine(loop Y WL (fun j h1 h2=>?_) Qf).symm
   rcases YN j Y with g|g
   .exact low j h1 g
   .have:j=Y:=by omega
    subst this;exact c
  .have nl:1<=Y:=by
    rcases Nat.eq_zero_or_pos Y with g|g
    .subst g
     rcases mo hr 0 with⟨_,g2,_,_,g5⟩|⟨g1,_⟩
     .exact absurd ⟨g2,by rw[g5 rfl];omega⟩ c
     .omega
    .exact g
   have fin:((if(!decide ((oQ r (12*(Y:Int))).2=(0:Int)))=true then some true else some (decide (b<(oQ r (12*(Y:Int))).1))):Option Bool)=some true:=by
    by_cases c1:(oQ r (12*(Y:Int))).2=0
    .rw[if_neg (by rw[decide_eq_true c1];decide)];exact congrArg some (decide_eq_true (Int.not_le.1 fun g=>c ⟨c1,g⟩))
    .rw[if_pos (by simpa using c1)]
   rw[fin,X5,if_pos rfl,X5,ag (by omega) (by omega),if_neg (by omega)];have:=loop (Y-1) (by omega) (fun j h1 h2=>low j h1 (by omega)) (by rw[show Y-1+1=Y by omega];exact c);rw[this];refine congrArg some ?_;omega
end L
end Go.Proofs.YtlfjlhcigpejdaaGreatDoor
end
section
open _root_.Bool renaming and_eq_true->Y5
open _root_.Int renaming le_refl->Ze,tdiv->Yn,tdiv_eq_ediv_of_nonneg->Yj,tmod->Yl,tmod_eq_emod_of_nonneg->Yi
open _root_.Go.IntKind renaming i64->X6
open _root_.List renaming getElem_mem->YL,take_succ_eq_append_getElem->YQ
open _root_.Nat renaming zero_le->Yk
open _root_.Option renaming bind_some->X5,some->Zx
open _root_.Option.some renaming inj->X7
namespace Go.Proofs.YtlfjlhcigpejdaaGreatDoor
open Go Go.RowKit
set_option maxRecDepth 100000
namespace L
theorem G8(x a b:Int):(if decide (x=a)=true then some (decide (x=a))else some (decide (x=b)))=some (decide (x=a\/x=b)):=by
 by_cases h:x=a<;>simp[h]
theorem Cm(x a b c:Int):(if decide (x=a)=true then some (decide (x=a))else(if decide (x=b)=true then some (decide (x=b))else some (decide (x=c))))=some (decide (x=a\/x=b\/x=c)):=by
 rw[G8]
 by_cases h:x=a<;>simp[h]
theorem E2(x a b c d:Int):(if decide (x=a)=true then some (decide (x=a))else(if decide (x=b)=true then some (decide (x=b))else(if decide (x=c)=true then some (decide (x=c))else some (decide (x=d)))))=some (decide (x=a\/x=b\/x=c\/x=d)):=by
 rw[Cm]
 by_cases h:x=a<;>simp[h]
theorem Qg(x a b c d e:Int):(if decide (x=a)=true then some (decide (x=a))else(if decide (x=b)=true then some (decide (x=b))else(if decide (x=c)=true then some (decide (x=c))else(if decide (x=d)=true then some (decide (x=d))else some (decide (x=e))))))=some (decide (x=a\/x=b\/x=c\/x=d\/x=e)):=by
 rw[E2]
 by_cases h:x=a<;>simp[h]
theorem Wp.ig{α:Type}{l:List α}{i:Int}{Q:α->Prop}(h0:0<=i)(h1:i<l.length)(h:∀x,x∈l->idx l i=Zx x->Q x):Wp (idx l i) Q:=by
 obtain⟨k,rfl⟩:∃k:Nat,i=k:=⟨i.toNat,by omega⟩
 have hk:k<l.length:=by omega
 exact⟨_,ax hk,h _ (YL hk) (ax hk)⟩
def ar(op:Int):Int:=
 if(1<=op/\op<=9)\/(35<=op/\op<=39)then 0 else if op=10\/op=25\/(31<=op/\op<=34)then 1 else if(11<=op/\op<=24)\/(27<=op/\op<=30)then 2 else if op=26 then 3 else-1
theorem dN(N:Nat)(op:Int):M.eA N op=some (ar op):=by
 by_cases h:1<=op/\op<=39
 .have:op=1\/op=2\/op=3\/op=4\/op=5\/op=6\/op=7\/op=8\/op=9\/op=10\/op=11\/op=12\/op=13\/op=14\/op=15\/op=16\/op=17\/op=18\/op=19\/op=20\/op=21\/op=22\/op=23\/op=24\/op=25\/op=26\/op=27\/op=28\/op=29\/op=30\/op=31\/op=32\/op=33\/op=34\/op=35\/op=36\/op=37\/op=38\/op=39:=by omega
  rcases this with rfl|rfl|rfl|rfl|rfl|rfl|rfl|rfl|rfl|rfl|rfl|rfl|rfl|rfl|rfl|rfl|rfl|rfl|rfl|rfl|rfl|rfl|rfl|rfl|rfl|rfl|rfl|rfl|rfl|rfl|rfl|rfl|rfl|rfl|rfl|rfl|rfl|rfl|rfl<;>(show(_:Option Int)=_;kernel_rfl)
 .have ha:ar op= -1:=by unfold ar;rw[if_neg (by omega),if_neg (by omega),if_neg (by omega),if_neg (by omega)]
  rw[ha]
  have ne:∀k:Int,1<=k->k<=39->decide (op=k)=false:=fun k h1 h2=>by simp;omega
  unfold M.eA;simp[ne]
theorem lK(op:Int):ar op<=3:=by unfold ar;split<;>(try split)<;>(try split)<;>(try split)<;>omega
def k0(env:aP.den):Prop:=env.2.2.2.1.length<=100/\∀t∈env.2.2.2.2.2,t.2.2.2.length<=9223372036854775807
def Fm(op m:Int):Prop:=0<=ar op/\(op=14\/op=15\/op=16->0<=m/\m<=5)/\(op=34->0<=m/\Yl m 8<=5)/\(op=6->0<=m)
theorem w6(N:Nat)(op:Int):Wp (M.fj N op) fun _=>True:=by
 unfold M.fj;simp only[ak,X5];exact .some trivial
theorem mq(N:Nat)(op m:Int):Wp (M.bP N (op,m)) fun b=>b=true->Fm op m:=by
 unfold M.bP;simp only[dN,X5]
 refine Wp.seq (fun j=>j=false->0<=ar op) ?_ fun j hj=>?_
 .refine Wp.dec (fun _=> .some fun h=>by cases h) fun h=>?_
  refine Wp.nN (fun _=>Wp.seq _ (w6 ..) fun y _=> .some fun _=>by omega) fun _=> .some fun _=>by omega
 .refine Wp.ite (fun _=> .some fun h=>by cases h) fun hc=>?_
  have ha:=hj (by simpa using hc);rw[Cm];simp only[X5,ak,dM]
  refine .some fun hb=>?_
  unfold Fm;by_cases h1:op=14\/op=15\/op=16
  .rw[if_pos (by simpa using h1)]at hb;simp at hb;exact⟨ha,fun _=>hb,fun e=>by omega,fun e=>by omega⟩
  .rw[if_neg (by simpa using h1)]at hb;by_cases h2:op=34
   .rw[if_pos (by simpa using h2)]at hb;simp at hb;exact⟨ha,fun e=>absurd e h1,fun _=>hb,fun e=>by omega⟩
   .rw[if_neg (by simpa using h2)]at hb;by_cases h3:op=6
    .rw[if_pos (by simpa using h3)]at hb;simp at hb;exact⟨ha,fun e=>absurd e h1,fun e=>absurd e h2,fun _=>hb⟩
    .exact⟨ha,fun e=>absurd e h1,fun e=>absurd e h2,fun e=>absurd e h3⟩
def MT(op m:Int)(env:aP.den):Prop:=
 (op=7->0<=m/\m<env.2.1.length)/\(op=8->0<=m/\m<env.2.2.1.length)/\(op=33->0<=m/\m<env.2.2.2.2.2.length)/\(op=34->X6.wrap (Yn m 8)<env.2.2.2.2.2.length)/\(op=36\/op=37\/op=38\/op=39->0<=m/\m<env.2.2.2.2.1.length)
theorem oR(N:Nat)(op m:Int)(env:aP.den):Wp (M.cz N (op,m) env) fun b=>b=true->MT op m env:=by
 unfold M.cz MT;simp only
 refine Wp.dec (fun h=>?_) fun h7=>?_
 .subst h;simp only[ak,X5,dM]
  exact .some fun hb=>⟨fun _=>by simpa using hb,fun e=>by omega,fun e=>by omega,fun e=>by omega,fun e=>by omega⟩
 refine Wp.dec (fun h=>?_) fun h8=>?_
 .subst h
  refine Wp.seq (fun j=>j=true->0<=m/\m<env.2.2.1.length) ?_ fun j hj=> .some fun hb=>⟨fun e=>by omega,fun _=>hj hb,fun e=>by omega,fun e=>by omega,fun e=>by omega⟩
  refine Wp.dec (fun h0=>Wp.dec (fun h1=>Wp.bind (Wp.ig h0 h1 fun x _ _=> .some fun _=>⟨h0,h1⟩)) fun _=> .some fun h=>by cases h) fun _=> .some fun h=>by cases h
 refine Wp.dec (fun h=>?_) fun Qh=>?_
 .subst h;simp only[ak,X5,dM]
  exact .some fun hb=>⟨fun e=>by omega,fun e=>by omega,fun _=>by simpa using hb,fun e=>by omega,fun e=>by omega⟩
 refine Wp.dec (fun h=>?_) fun CY=>?_
 .subst h
  exact .some fun hb=>⟨fun e=>by omega,fun e=>by omega,fun e=>by omega,fun _=>by simpa using hb,fun e=>by omega⟩
 rw[E2];simp only[X5]
 refine Wp.dec (fun h=>?_) fun LX=> .some fun _=>⟨fun e=>absurd e h7,fun e=>absurd e h8,fun e=>absurd e Qh,fun e=>absurd e CY,fun e=>absurd e LX⟩
 simp only[ak,X5,dM]
 exact .some fun hb=>⟨fun e=>absurd e h7,fun e=>absurd e h8,fun e=>absurd e Qh,fun e=>absurd e CY,fun _=>by simpa using hb⟩
theorem w7{N:Nat}(l:List Vl)(hl:l.length<=100000)(hN:100001<=N):Wp (M.bl N l) fun b=>b=true->∀v∈l,aF v.1 v.2.1 v.2.2:=by
 unfold M.bl;refine Wp.loop (fun s:Int=>∃i:Nat,s=i/\i<=l.length/\∀v∈l.take i,aF v.1 v.2.1 v.2.2) (fun s=>(l.length-s).toNat) ⟨0,rfl,Yk _,by simp⟩ (by omega) ?_
 rintro _ ⟨i,rfl,hi,hp⟩
 refine Wp.dec (fun h=>?_) fun h=> .some fun _=>?_
 .have dA:i<l.length:=by omega
  rw[ax dA];simp only[X5,br]
  refine Wp.nN (fun _=> .some fun h=>by cases h) fun hq=> .some ?_
  rw[al (by omega)];refine⟨⟨i+1,rfl,dA,fun v hv=>?_⟩,by simp only;omega⟩;rw[YQ dA]at hv
  rcases List.mem_append.1 hv with hv|hv
  .exact hp v hv
  .rw[List.mem_singleton.1 hv];exact hq
 .rw[List.take_of_length_le (by omega)]at hp;exact hp
theorem w8(N:Nat)(a b:Vl):Wp (M.cg N a b) fun _=>True:=by
 unfold M.cg;simp only[ak,X5];exact .some trivial
theorem JA(N:Nat)(a b:Int):Wp (M.bF N a b) fun _=>True:=by
 unfold M.bF;simp only[dk,ak,X5];exact .some trivial
theorem G9(N:Nat)(op:Int)(a b:Vl):Wp (M.av N op a b) fun _=>True:=by
 unfold M.av M.cg;simp only[dk,ak,X5];exact .some trivial
def LY(op m:Int)(env:aP.den):Prop:=
 (op=34->∀t,idx env.2.2.2.2.2 (X6.wrap (Yn m 8))=some t->t.2.1=((3,0):Int×Int)/\t.2.2.1=((4,0):Int×Int))/\(op=36\/op=37\/op=38\/op=39->∀t,idx env.2.2.2.2.1 m=some t->G1 op t)
theorem rr{N:Nat}{op m:Int}{args:List Vl}{env:aP.den}(hx:MT op m env)(ha:(args.length:Int)=ar op)(CY:op=34->0<=X6.wrap (Yn m 8)):Wp (M.aI N (op,m) args env) fun b=>b=true->LY op m env:=by
 obtain⟨x7,x8,MU,Qi,Qj⟩:=hx;unfold M.aI LY;dsimp only[ae,Row.den]
 have no:∀{b:Bool},¬op=34->¬(op=36\/op=37\/op=38\/op=39)->b=true->(op=34->∀t,idx env.2.2.2.2.2 (X6.wrap (Yn m 8))=some t->t.2.1=((3,0):Int×Int)/\t.2.2.1=((4,0):Int×Int))/\(op=36\/op=37\/op=38\/op=39->∀t,idx env.2.2.2.2.1 m=some t->G1 op t):=fun h1 h2 _=>⟨fun e=>absurd e h1,fun e=>absurd e h2⟩
 refine Wp.dec (fun h=>?_) fun h7=>?_
 .obtain⟨a,b⟩:=x7 h;exact Wp.bind (Wp.ig a b fun x _ _=>by rw[br];exact .some (no (by omega) (by omega)))
 refine Wp.dec (fun h=>?_) fun h8=>?_
 .obtain⟨a,b⟩:=x8 h;exact Wp.bind (Wp.ig a b fun x _ _=>by rw[br];exact .some (no (by omega) (by omega)))
 have WM:1<=ar op->0<args.length:=fun h=>by omega
 refine Wp.dec (fun h=>?_) fun Qh=>?_
 .obtain⟨a,b⟩:=MU h
  have h1:ar op=1:=by rw[h];decide
  refine Wp.bind (Wp.ig a b fun x _ _=>?_)
  refine Wp.seq (fun _=>True) ?_ fun j _=> .some (no (by omega) (by omega))
  refine Wp.bind (Wp.ig (Ze 0) (by omega) fun y _ _=>?_);rw[m6];simp only[X5,ak];exact .some trivial
 refine Wp.dec (fun h=>?_) fun LZ=>?_
 .have b:=Qi h
  have h1:ar op=1:=by rw[h];decide
  refine Wp.bind (Wp.ig (CY h) b fun x _ L0=>?_)
  refine Wp.seq (fun j=>j=true->x.2.1=((3,0):Int×Int)/\x.2.2.1=((4,0):Int×Int)) ?_ fun j hj=> .some fun hb=>⟨fun _ t ht=>?_,fun e=>by omega⟩
  .refine Wp.bind (Wp.ig (Ze 0) (by omega) fun y _ _=>?_);simp only[ak,dM]
   refine .some fun hb=>?_
   simp only[Y5,tE,decide_eq_true_eq]at hb;exact⟨hb.2.1,hb.2.2⟩
  .rw[L0]at ht;obtain rfl:=X7 ht;exact hj hb
 rw[E2];simp only[X5]
 refine Wp.dec (fun h=>?_) fun LX=>?_
 .obtain⟨a,b⟩:=Qj h;refine Wp.bind (Wp.ig a b fun x _ L0=>?_);rw[kg]
  refine .some fun hb=>⟨fun e=>absurd e LZ,fun _ t ht=>?_⟩
  rw[L0]at ht;obtain rfl:=X7 ht;simpa using hb
 have MV:∀b:Bool,b=true->_:=fun b=>no (b:=b) LZ LX
 refine Wp.dec (fun h=>?_) fun _=>?_
 .refine Wp.bind (Wp.ig (Ze 0) (by omega) fun y _ _=>?_)
  exact Wp.seq _ (JA ..) fun b _=> .some (MV b)
 refine Wp.dec (fun h=>?_) fun _=>?_
 .refine Wp.bind (Wp.ig (Ze 0) (by omega) fun y _ _=>?_);refine Wp.bind (Wp.ig (by omega) (by omega) fun z _ _=>?_)
  exact Wp.seq _ (G9 ..) fun b _=> .some (MV b)
 refine Wp.dec (fun h=>?_) fun _=> .some (MV _)
 refine Wp.seq (fun _=>True) ?_ fun b _=> .some (MV b)
 refine Wp.bind (Wp.ig (Ze 0) (by omega) fun y _ _=>?_)
 refine Wp.dec (fun _=>?_) fun _=> .some trivial
 refine Wp.bind (Wp.ig (by omega) (by omega) fun z _ _=>?_);refine Wp.bind (Wp.ig (by omega) (by omega) fun z' _ _=>?_)
 exact Wp.seq _ (w8 ..) fun b _=> .some trivial
def Ce(c:Int):Prop:=c=0\/c=3\/c=12\/c=6\/c=8
theorem Cd.e{c:Int}(h:Cd c):Ce c:=by unfold Cd at h;unfold Ce;omega
theorem w9{op:Int}{t:Ty}{j:Nat}:{ms:List (List Vl)}->{first:Bool}->{acc c:Int}->gJ op t j ms first acc= .inr c->c=3\/c=6\/c=8
 |[],_,_,_,h=>by cases h
 |l::ms,first,acc,c,h=>by
  rw[gJ]at h;split at h
  .cases h;exact .inr (.inl rfl)
  .split at h
   .cases h;exact .inr (.inl rfl)
   .split at h
    .split at h
     .exact w9 h
     .cases h;exact .inl rfl
    .cases h;exact .inr (.inr rfl)
theorem Ha(op:Int)(t:Ty)(j:Nat)(ms:List (List Vl)):Ce (ER op t j ms).2:=by
 unfold ER;split
 .unfold Ce;omega
 .split
  .unfold Ce;omega
  .rename_i c hc;have:=w9 hc
   show Ce c
   unfold Ce;omega
theorem gN(N:Nat)(b:Bool):Wp (M.cn N b) fun _=>True:=by
 unfold M.cn;simp only[ak];exact .some trivial
theorem E3(op:Int)(a:Vl):Wp (M.eC az op a) fun _=>True:=by
 unfold M.eC
 refine Wp.dec (fun _=> .some trivial) fun _=>?_
 refine Wp.dec (fun _=>Wp.seq _ (gN ..) fun _ _=> .some trivial) fun _=>?_
 refine Wp.seq _ (lG ..) fun y _=>?_
 simp only[ak];exact .some trivial
theorem yV(N:Nat)(a b:Int):Wp (M.fD N a b) fun r=>Cd r.2:=by
 unfold M.fD
 refine Wp.seq _ (nQ ..) fun r _=>?_
 simp only[ak,X5];exact .some (uG (RC _) (uG (CW _) (CW _)))
theorem Co{op m:Int}{a b:Vl}(hm:op=14\/op=15\/op=16->0<=m/\m<=5)(fQ:13<=op/\op<=16):Wp (M.ek az (op,m) a b) fun r=>Cd r.2:=by
 unfold M.ek;dsimp only[ae,Row.den]
 refine Wp.seq (fun j=>Cd j.1) ?_ fun j hj=> .some hj
 refine Wp.dec (fun _=>Wp.seq _ (yV ..) fun r hr=> .some hr) fun XX=>?_
 have FI:=hm (by omega);simp only[ak,X5,dM]
 refine Wp.ite (fun _=>Wp.seq _ (Ch FI) fun r hr=> .some hr) fun _=>?_
 refine Wp.dec (fun _=>Wp.seq _ (z9 FI) fun r hr=> .some hr) fun _=>?_
 refine Wp.dec (fun _=>Wp.seq _ (ra FI) fun r hr=> .some hr) fun _=>?_
 refine Wp.dec (fun _=>Wp.seq _ (jA _ FI) fun r hr=> .some hr) fun _=>?_
 exact Wp.seq _ (uH FI) fun r hr=> .some hr
theorem Cp{op m:Int}{a b:Vl}(hm:op=14\/op=15\/op=16->0<=m/\m<=5):Wp (M.aN az (op,m) a b) fun r=>Cd r.2:=by
 unfold M.aN;dsimp only[ae,Row.den];rw[G8,E2,G8];simp only[X5]
 refine Wp.ite (fun _=> .some (CW 0)) fun _=>?_
 refine Wp.dec (fun _=> .some (CW 0)) fun _=>?_
 refine Wp.dec (fun h=>Wp.seq _ (Co hm (by omega)) fun r hr=> .some hr) fun _=>?_
 refine Wp.dec (fun _=>?_) fun _=>?_
 .simp only[ak];exact .some (by split<;>exact CW 0)
 refine Wp.dec (fun _=>Wp.seq _ (gN ..) fun _ _=> .some (CW 0)) fun _=>?_
 refine Wp.dec (fun _=>Wp.seq _ (gN ..) fun _ _=> .some (CW 0)) fun _=>?_
 refine Wp.dec (fun _=>Wp.seq _ (gN ..) fun _ _=> .some (CW 0)) fun _=>?_
 refine Wp.dec (fun _=>Wp.seq _ (gN ..) fun _ _=> .some (CW 0)) fun _=>?_
 refine Wp.dec (fun _=>Wp.seq (fun j=>j.1=0) (Wp.dec (fun _=>Wp.seq _ (gN ..) fun _ _=> .some rfl) fun _=>Wp.seq _ (gN ..) fun _ _=> .some rfl) fun j hj=> .some (.inl hj)) fun _=>?_
 refine Wp.dec (fun _=>Wp.seq (fun j=>j.1=0) (Wp.dec (fun _=>Wp.seq _ (gN ..) fun _ _=> .some rfl) fun _=>Wp.seq _ (gN ..) fun _ _=> .some rfl) fun j hj=> .some (.inl hj)) fun _=>?_
 refine Wp.dec (fun _=>Wp.seq _ (kM ..) fun r hr=> .some hr) fun _=>?_
 refine Wp.dec (fun _=> .some (CW 0)) fun _=>?_
 exact Wp.seq _ (kZ ..) fun r _=> .some (CW 0)
theorem ru{op m:Int}{args:List Vl}{env:aP.den}(he:k0 env)(hf:Fm op m)(hx:MT op m env)(ha:(args.length:Int)=ar op)(L1:LY op m env)(CY:op=34->0<=X6.wrap (Yn m 8)):Wp (M.aK az (op,m) args env) fun r=>Ce r.2:=by
 obtain⟨x7,x8,MU,Qi,Qj⟩:=hx;obtain⟨f0,f14,f34,_⟩:=hf;obtain⟨WN,WO⟩:=L1;have FN:Ce 0:= .inl rfl;unfold M.aK;dsimp only[ae,Row.den];rw[Qg,E2];simp only[X5]
 refine Wp.dec (fun _=> .some FN) fun _=>?_
 refine Wp.dec (fun _=> .some FN) fun _=>?_
 refine Wp.dec (fun h=>Wp.bind (Wp.ig (x7 h).1 (x7 h).2 fun x _ _=> .some FN)) fun _=>?_
 refine Wp.dec (fun h=>Wp.bind (Wp.ig (x8 h).1 (x8 h).2 fun x _ _=> .some FN)) fun _=>?_
 refine Wp.dec (fun _=> .some FN) fun _=>?_
 refine Wp.dec (fun _=> .some FN) fun _=>?_
 refine Wp.dec (fun h=>?_) fun _=>?_
 .obtain⟨a,b⟩:=Qj h
  obtain⟨j,rfl⟩:∃j:Nat,m=j:=⟨m.toNat,by omega⟩
  have hj:j<env.2.2.2.2.1.length:=by omega
  rw[lF (by unfold az;omega) h hj he.1 (WO h _ (ax hj))];exact .some (Ha ..)
 refine Wp.dec (fun h=>?_) fun _=>?_
 .have h1:ar op=1:=by rw[h];decide
  refine Wp.bind (Wp.ig (MU h).1 (MU h).2 fun x hx _=>?_);refine Wp.bind (Wp.ig (Ze 0) (by omega) fun y _ _=>?_)
  refine Wp.seq _ (tj _ _ _ (he.2 x hx)) fun r hr=>?_
  refine Wp.ite (fun _=> .some (by unfold Ce;omega)) fun hc=>?_
  obtain⟨a,b⟩:=hr (by simpa using hc);exact Wp.bind (Wp.ig a b fun z _ _=> .some FN)
 refine Wp.dec (fun h=>?_) fun _=>?_
 .have h1:ar op=1:=by rw[h];decide
  refine Wp.bind (Wp.ig (CY h) (Qi h) fun x hx L0=>?_);refine Wp.bind (Wp.ig (Ze 0) (by omega) fun y _ _=>?_);obtain⟨k1,k2⟩:=WN h x L0;obtain⟨m1,m2⟩:=f34 h
  have:0<=Yl m 8:=by rw[Yi m1];omega
  exact Wp.seq _ (po ⟨this,m2⟩ k1 k2 (he.2 x hx)) fun r hr=> .some hr.e
 refine Wp.dec (fun h=>?_) fun _=>?_
 .refine Wp.bind (Wp.ig (Ze 0) (by omega) fun y _ _=>?_)
  exact Wp.seq _ (E3 ..) fun r _=> .some FN
 refine Wp.dec (fun h=>?_) fun _=>?_
 .refine Wp.bind (Wp.ig (Ze 0) (by omega) fun y _ _=>?_);refine Wp.bind (Wp.ig (by omega) (by omega) fun z _ _=>?_)
  exact Wp.seq _ (Cp f14) fun r hr=> .some hr.e
 have h3:ar op=3:=by
  have:¬ar op=0:=by unfold ar;split<;>(try split)<;>(try split)<;>(try split)<;>omega
  have:=lK op;omega
 refine Wp.bind (Wp.ig (Ze 0) (by omega) fun y _ _=>?_)
 refine Wp.dec (fun _=>Wp.bind (Wp.ig (by omega) (by omega) fun z _ _=> .some FN)) fun _=>Wp.bind (Wp.ig (by omega) (by omega) fun z _ _=> .some FN)
structure JB(r:Vl×Int):Prop where
 ok:r.2=0->aF r.1.1 r.1.2.1 r.1.2.2
 bad:r.2≠0->r.1=((0,0,0):Int×Int×Int)
 code:r.2=0\/r.2=2\/r.2=3\/r.2=6\/r.2=8\/r.2=12
theorem rv{n:Ty}{args:List Vl}{env:aP.den}(he:k0 env)(hn:WF aa n)(hl:args.length<=100000):Wp (M.aZ az n args env) JB:=by
 obtain⟨op,m⟩:=n;have hm:=hn.2;unfold M.aZ
 have err:∀c:Int,c≠0->(c=2\/c=3\/c=6\/c=8\/c=12)->JB (((0:Int),((0:Int),(0:Int))),c):=fun c h1 h2=>⟨fun h=>absurd h h1,fun _=>rfl, .inr h2⟩
 refine Wp.seq (fun j=>j=false->Fm op m/\(args.length:Int)=ar op) ?_ fun j hj=>?_
 .refine Wp.seq _ (mq ..) fun y hy=>?_
  refine Wp.ite (fun _=> .some fun h=>by cases h) fun hc=>?_
  rw[dN]
  exact .some fun h=>⟨hy (by simpa using hc),by simpa using h⟩
 refine Wp.ite (fun _=> .some (err 2 (by decide) (by omega))) fun hc=>?_
 obtain⟨hf,ha⟩:=hj (by simpa using hc)
 refine Wp.seq _ (oR ..) fun y hy=>?_
 refine Wp.ite (fun _=> .some (err 6 (by decide) (by omega))) fun pL=>?_
 have hx:=hy (by simpa using pL)
 have CY:op=34->0<=X6.wrap (Yn m 8):=fun e=>by
  have h0:=(hf.2.2.1 e).1;have h1:(m:Int)<=9223372036854775807:=hm.2;rw[Yj h0];dsimp only[ae,Row.den]at h0 h1⊢;rw[ag (by omega) (by omega)];omega
 refine Wp.seq (fun j=>j=false->LY op m env) ?_ fun j5 Qk=>?_
 .refine Wp.seq _ (w7 _ hl (by unfold az;omega)) fun y _=>?_
  refine Wp.ite (fun _=> .some fun h=>by cases h) fun _=>?_
  exact Wp.seq _ (rr hx ha CY) fun z hz=> .some fun h=>hz (by simpa using h)
 refine Wp.ite (fun _=> .some (err 8 (by decide) (by omega))) fun DV=>?_
 have L1:=Qk (by simpa using DV)
 refine Wp.seq _ (ru he hf hx ha L1 CY) fun r hr=>?_
 refine Wp.nN (fun h=> .some (err _ h (by unfold Ce at hr;omega))) fun _=>?_
 rw[br];simp only[X5]
 refine Wp.nN (fun _=> .some (err 3 (by decide) (by omega))) fun hp=> .some ⟨fun _=>hp,fun h=>absurd rfl h, .inl rfl⟩
end L
end Go.Proofs.YtlfjlhcigpejdaaGreatDoor
end
section
open _root_.Bool renaming eq_iff_iff->Yh,false_eq_true->X8,not_false->YC,not_true->Yp
open _root_.Int renaming reduceEq->Y1,toNat_natCast->Yg
open _root_.List renaming drop_of_length_le->YZ,getElem?_eq_getElem->X9
open _root_.Nat renaming zero_le->Yk
open _root_.Option renaming bind_some->X5
namespace Go.Proofs.YtlfjlhcigpejdaaGreatDoor
open Go Go.RowKit
set_option maxRecDepth 100000
namespace L
theorem oS(N:Nat)(k:Int):M.fG N k=some (if k=1 then(0,1)else if k=2 then(-1000000000000,1000000000000)else if k=3 then(-1000000000000000,1000000000000000)else if k=4 then(-1000000000,1000000000)else if k=5 then(0,109572)else if k=6 then(0,15)else(0,-1)):=by
 unfold M.fG;simp only[ak,decide_eq_true_eq]
theorem cO(N:Nat)(v:Vl):M.bg N v=some (decide (aF v.1 v.2.1 v.2.2)):=by
 revert v;rintro⟨(k:Int),(e:Int),(n:Int)⟩
 unfold M.bg;rw[oS];simp only[ak,X5,eQ,dM];refine congrArg some ?_;by_cases h1:k=1
 .subst h1;rw[Yh];simp[aF];try(dsimp only[ae,Row.den]at*;omega)
 by_cases h2:k=2
 .subst h2;rw[Yh];simp[aF];try(dsimp only[ae,Row.den]at*;omega)
 by_cases h3:k=3
 .subst h3;rw[Yh];simp[aF];try(dsimp only[ae,Row.den]at*;omega)
 by_cases h4:k=4
 .subst h4;rw[Yh];simp[aF];try(dsimp only[ae,Row.den]at*;omega)
 by_cases h5:k=5
 .subst h5;rw[Yh];simp[aF];try(dsimp only[ae,Row.den]at*;omega)
 by_cases h6:k=6
 .subst h6;rw[Yh];simp[aF];try(dsimp only[ae,Row.den]at*;omega)
 simp[aF,h1,h2,h3,h4,h5,h6];try omega
theorem Hb(N:Nat)(v:Vl)(t:Ty):M.mg N v t=some (decide (EQ v t)):=by
 unfold M.mg;rw[cO];simp only[ak,X5,dM];refine congrArg some ?_;rw[Yh];simp[pk]
theorem xc(N:Nat)(op:Int)(t:Ty):M.ik N op t=some (decide (G1 op t)):=by
 unfold M.ik;simp only[ak,X5,eQ,dM];refine congrArg some ?_;obtain⟨(k:Int),(e:Int)⟩:=t;rw[Yh]
 show _↔decide (pH op k e)=true
 unfold pH
 by_cases h0:e=0<;>by_cases h1:op=36<;>by_cases h2:op=39<;>simp[h0,h1,h2]<;>try(dsimp only[ae,Row.den]at*;omega)
theorem nX(N:Nat)(k n:Int):M.bq N k n=some (if aF k 0 n then((k,0,n),0)else((0,0,0),3)):=by
 unfold M.bq;rw[cO];simp only[X5];by_cases h:aF k 0 n
 .simp[h]
 .simp[h]
theorem E4{N:Nat}{op acc n:Int}{first:Bool}(LX:op=36->-9000000000000000000<=acc+n/\acc+n<=9000000000000000000)(WQ:op=37->(0<=n/\n<=1)/\0<=acc/\acc<=1)(fQ:op=36\/op=37\/op=38\/op=39):M.kH N op acc n first=some (fold op acc n first):=by
 unfold M.kH fold
 rcases fQ with rfl|rfl|rfl|rfl
 .have:=LX rfl;simp[ag (n:=acc+n) (by omega) (by omega)]
 .obtain⟨⟨a1,a2⟩,a3,a4⟩:=WQ rfl
  have P1:n=0\/n=1:=by omega
  have P2:acc=0\/acc=1:=by omega
  rcases P1 with rfl|rfl<;>rcases P2 with rfl|rfl<;>simp[ag]
 .simp only[ak,Y1,decide_false,decide_true,X8,if_false,if_true]
  by_cases h:acc<n<;>simp[h]
 .simp only[ak,Y1,decide_false,decide_true,X8,if_false,if_true,X5,eQ]
  by_cases h:first=true\/acc<n
  .rw[if_pos h,if_pos (by simpa using h)]
  .rw[if_neg h,if_neg (by simpa using h)]
def Am(op:Int)(t:Ty)(j:Nat)(ms:List (List Vl)):Vl×Int:=
 if G1 op t then(if op=39/\ms=[]then((0,0,0),6)else match gJ op t j ms true (lE op)with
  | .inl a=>if aF t.1 0 a then((t.1,0,a),0)else((0,0,0),3)
  | .inr c=>((0,0,0),c))else((0,0,0),8)
theorem xd{N:Nat}(hN:100001<=N){op:Int}(fQ:op=36\/op=37\/op=38\/op=39){j:Nat}{env:aP.den}(hj:j<env.2.2.2.2.1.length)(hm:env.2.2.2.1.length<=100):
 M.il N (op,(j:Int)) env=some (Am op env.2.2.2.2.1[j] j env.2.2.2.1):=by
 obtain⟨d,ip,df,ms,ts,tb⟩:=env;simp only at hj hm⊢;apply Wp.eq;unfold M.il;simp only;rw[ax hj];simp only[X5,xc];generalize ts[j]=t;unfold Am;by_cases ht:G1 op t
 case neg=>
  rw[if_pos (by simp[ht]),if_neg ht];exact .some rfl
 rw[if_neg (by simp[ht]),if_pos ht];have xT:(t.2:Int)=0:=(show pH op t.1 t.2 from ht).1
 have e1:(if decide (op=37)=true then some (1:Int)else some (0:Int))=some (lE op):=by
  unfold lE;by_cases h:op=37<;>simp[h]
 rw[e1];simp only[X5,ak,dM,nX]
 refine Wp.join (Wp.loop (fun s:Int×Int=>∃k:Nat,∃acc:Int,s=(acc,(k:Int))/\k<=ms.length/\z6 op t (decide (k=0)) acc/\gJ op t j (ms.drop k) (decide (k=0)) acc=gJ op t j ms true (lE op)) (fun s=>(ms.length-s.2).toNat)
  ⟨0,lE op,rfl,Yk _,z7 fQ ht,rfl⟩ (by simp only;omega) ?_)
 rintro _ ⟨k,acc,rfl,hk,Cc,hf⟩
 simp only
 refine Wp.dec (fun h=>?_) fun h=> .some ?_
 case refine_2=>
  have hd:ms.drop k=[]:=YZ (by omega);rw[hd]at hf
  show Wp _ _
  by_cases FJ:op=39/\ms=[]
  .rw[if_pos FJ];refine .some ?_;rw[if_pos (by simpa using FJ)]
  .rw[if_neg FJ,<-hf];refine .some ?_;rw[if_neg (by simpa using FJ)];simp only[gJ]
 have cx:k<ms.length:=by omega
 have bu:¬(op=39/\ms=[]):=fun h=>by rw[h.2]at cx;simp at cx
 rw[if_neg bu];have hd:ms.drop k=ms[k]::ms.drop (k+1):=List.drop_eq_getElem_cons cx;rw[hd]at hf;rw[ax cx];simp only[X5];rw[gJ]at hf;by_cases hl:j<ms[k].length
 .rw[X9 hl]at hf;simp only at hf;rw[ax hl];simp only[X5,ak,eQ,Hb];generalize ms[k][j]=v at hf⊢;by_cases hv:(v.1:Int)=0
  .rw[if_pos hv]at hf;rw[if_pos (by simp[hv])];refine .some ?_
   show _=_
   rw[<-hf]
  .rw[if_neg hv]at hf;rw[if_neg (by simp[hv];omega)];by_cases hh:EQ v t
   .rw[if_pos hh]at hf;rw[if_neg (by simp[hh])]
    obtain⟨hp,BJ,FB⟩:=(show pk _ _ _ _ _ from hh)
    have Il:(op=36->-9000000000000000000<=acc+v.2.2/\acc+v.2.2<=9000000000000000000)/\(op=37->(0<=(v.2.2:Int)/\(v.2.2:Int)<=1)/\0<=acc/\acc<=1):=by
     have h1:=(show pH op t.1 t.2 from ht).2
     have h2:op≠39->aF t.1 0 acc:=fun bu=>by
      rcases Cc with h|h
      .exact absurd h.1 bu
      .exact h
     rw[BJ]at hp;revert h1 h2 hp;generalize(v.2.2:Int)=n;generalize(v.2.1:Int)=ve;generalize(t.1:Int)=tk;intro h3 h1 h2;refine⟨fun e=>?_,fun e=>?_⟩
     .have h2:=h2 (by omega);unfold aF at h2 h3;dsimp only[ae,Row.den]at*;omega
     .subst e;have h2:=h2 (by omega);unfold aF at h2 h3;simp at h1;dsimp only[ae,Row.den]at*;omega
    rw[show(decide ((k:Int)=0))=decide (k=0)from by rw[decide_eq_decide];omega];rw[E4 Il.1 Il.2 fQ];simp only[X5];by_cases ll:aF t.1 0 (fold op acc v.2.2 (decide (k=0)))
    .rw[if_pos ll]at hf⊢;simp only[decide_true,Yp,X8,if_false];rw[al (by omega)];refine .some ⟨⟨k+1,_,rfl,cx, .inr ll,?_⟩,by simp only;omega⟩;rw[show decide (k+1=0)=false by simp];exact hf
    .rw[if_neg ll]at hf⊢;simp only[Y1,decide_false,YC,if_true];refine .some ?_
     show _=_
     rw[<-hf]
   .rw[if_neg hh]at hf;rw[if_pos (by simp[hh])];refine .some ?_
    show _=_
    rw[<-hf]
 .rw[List.getElem?_eq_none (by omega)]at hf;rw[if_pos (by simp;omega)];refine .some ?_
  show _=_
  rw[<-hf]
theorem tn(N:Nat)(op:Int)(fQ:35<=op/\op<=39):M.eA N op=some 0:=by
 have:op=35\/op=36\/op=37\/op=38\/op=39:=by omega
 rcases this with rfl|rfl|rfl|rfl|rfl<;>(show(_:Option _)=_;kernel_rfl)
theorem sd(N:Nat)(op:Int)(fQ:35<=op/\op<=39):M.fm N op=some 0:=by
 have:op=35\/op=36\/op=37\/op=38\/op=39:=by omega
 rcases this with rfl|rfl|rfl|rfl|rfl<;>(show(_:Option _)=_;kernel_rfl)
theorem E5(N:Nat)(op:Int)(fQ:35<=op/\op<=39):M.fj N op=some (!decide (op=35)):=by
 have:op=35\/op=36\/op=37\/op=38\/op=39:=by omega
 rcases this with rfl|rfl|rfl|rfl|rfl<;>(show(_:Option _)=_;kernel_rfl)
theorem xe(N:Nat)(op:Int)(fQ:35<=op/\op<=39):M.eM N op=some (!decide (op=35)):=by
 have:op=35\/op=36\/op=37\/op=38\/op=39:=by omega
 rcases this with rfl|rfl|rfl|rfl|rfl<;>(show(_:Option _)=_;kernel_rfl)
theorem yW(N:Nat)(op n:Int)(fQ:35<=op/\op<=39):M.bP N (op,n)=some (!(decide (op=35)&& !decide (n=0))):=by
 unfold M.bP;simp only[tn N op fQ,E5 N op fQ]
 have:op=35\/op=36\/op=37\/op=38\/op=39:=by omega
 rcases this with rfl|rfl|rfl|rfl|rfl<;>by_cases h:n=0<;>simp[h]
theorem yX(N:Nat)(op n:Int)(fQ:35<=op/\op<=39):M.fF N (op,n) 0=some (!(decide (op=35)&& !decide (n=0))):=by
 unfold M.fF;simp only[sd N op fQ,xe N op fQ]
 have:op=35\/op=36\/op=37\/op=38\/op=39:=by omega
 rcases this with rfl|rfl|rfl|rfl|rfl<;>by_cases h:n=0<;>simp[h]
theorem yY(N:Nat)(op n:Int)(env:aP.den)(fQ:35<=op/\op<=39):M.cz N (op,n) env=some (decide (op=35)||(decide (0<=n)&&decide (n<(env.2.2.2.2.1.length:Int)))):=by
 unfold M.cz
 have:op=35\/op=36\/op=37\/op=38\/op=39:=by omega
 rcases this with rfl|rfl|rfl|rfl|rfl<;>by_cases h:0<=n<;>simp[h]
theorem Cq(N:Nat)(op n:Int)(env:aP.den)(fQ:35<=op/\op<=39):M.iC N (op,n) env=some (decide (op=35)||(decide (0<=n)&&decide (n<(env.2.2.2.2.1.length:Int)))):=by
 unfold M.iC
 have:op=35\/op=36\/op=37\/op=38\/op=39:=by omega
 rcases this with rfl|rfl|rfl|rfl|rfl<;>by_cases h:0<=n<;>simp[h]
theorem all_nil{N:Nat}(hN:100001<=N):M.bl N ([]:List Vl)=some true:=by
 obtain⟨N,rfl⟩:∃m,N=m+1:=⟨N-1,by omega⟩
 unfold M.bl Loop;simp
def Hc(op n:Int)(env:aP.den):Vl×Int:=
 if op=35 then(if n=0 then((2,0,(env.2.2.2.1.length:Int)),0)else((0,0,0),2))else match env.2.2.2.2.1[n.toNat]? with
  |some t=>if 0<=n then Am op t n.toNat env.2.2.2.1 else((0,0,0),6)
  |none=>((0,0,0),6)
theorem tq{op:Int}{t:Ty}{j:Nat}:{ms:List (List Vl)}->{first:Bool}->{acc c:Int}->gJ op t j ms first acc= .inr c->c=3\/c=6\/c=8
 |[],_,_,_,h=>by cases h
 |l::ms,first,acc,c,h=>by
  rw[gJ]at h;split at h
  .cases h;exact .inr (.inl rfl)
  .split at h
   .cases h;exact .inr (.inl rfl)
   .split at h
    .split at h
     .exact tq h
     .cases h;exact .inl rfl
    .cases h;exact .inr (.inr rfl)
theorem Cr{N:Nat}(hN:100001<=N)(op n:Int)(env:aP.den)(fQ:35<=op/\op<=39)(hm:env.2.2.2.1.length<=100):M.aZ N (op,n) ([]:List Vl) env=some (Hc op n env):=by
 unfold M.aZ;simp only[yW N op n fQ,tn N op fQ,yY N op n env fQ,all_nil hN,X5,ak,eQ];unfold Hc;by_cases Ct:op=35
 .subst Ct;by_cases h0:n=0
  .subst h0
   have e1:M.aI N ((35:Int),(0:Int)) ([]:List Vl) env=some true:=by unfold M.aI;simp
   have e2:M.aK N ((35:Int),(0:Int)) ([]:List Vl) env=some ((2,0,(env.2.2.2.1.length:Int)),0):=by unfold M.aK;simp
   have e3:aF 2 0 (env.2.2.2.1.length:Int):=by unfold aF;omega
   simp[e1,e2,br,e3]
  .simp[h0]
 .have E6:op=36\/op=37\/op=38\/op=39:=by omega
  have e1:M.aI N (op,n) ([]:List Vl) env=(idx env.2.2.2.2.1 n).bind fun x=>M.dt N op x:=by
   unfold M.aI
   rcases E6 with rfl|rfl|rfl|rfl<;>simp
  have e2:M.aK N (op,n) ([]:List Vl) env=M.dl N (op,n) env:=by
   unfold M.aK
   rcases E6 with rfl|rfl|rfl|rfl<;>simp<;>(cases M.dl N _ env<;>rfl)
  by_cases hn:0<=n
  .obtain⟨j,rfl⟩:∃j:Nat,n=j:=⟨n.toNat,by omega⟩
   by_cases hj:j<env.2.2.2.2.1.length
   .rw[e1,e2,ax hj];simp only[X5,kg,Yg,X9 hj,if_pos hn,Am];by_cases ht:G1 op env.2.2.2.2.1[j]
    .rw[lF hN E6 hj hm ht,if_pos ht];unfold ER
     by_cases FJ:op=39/\env.2.2.2.1=[]
     .obtain⟨rfl,GO⟩:=FJ;simp[hj,ht,GO]
     .rw[if_neg FJ,if_neg FJ]
      cases WR:gJ op env.2.2.2.2.1[j] j env.2.2.2.1 true (lE op)with
      |inr c=>
       have hc:¬c=0:=by rcases tq WR with rfl|rfl|rfl<;>decide
       simp[Ct,hj,ht,hc]
      |inl a=>
       by_cases hp:aF env.2.2.2.2.1[j].1 0 a
       .simp[Ct,hj,ht,br,hp]
       .simp[Ct,hj,ht,br,hp]
    .simp[Ct,hj,ht]
   .simp[Ct,hj]
  .rw[e1,e2]
   cases env.2.2.2.2.1[n.toNat]? <;>simp[Ct,hn]
theorem se{N:Nat}(hN:100001<=N)(op n:Int)(env:aP.den)(fQ:35<=op/\op<=39)(hm:env.2.2.2.1.length<=100):M.fq N (op,n) ([]:List Vl) env=some (Hc op n env):=by
 obtain⟨N,rfl⟩:∃m,N=m+1:=⟨N-1,by omega⟩
 unfold M.fq;simp only[List.length_nil,Int.ofNat_zero,yX _ op n fQ,Cq _ op n env fQ,X5];unfold Loop;simp only[da,Int.lt_irrefl,decide_false,X8,if_false,X5,ak,dM,decide_true,if_true];unfold Hc;by_cases Ct:op=35
 .subst Ct;by_cases h0:n=0
  .subst h0
   have e2:M.bm (N+1) ((35:Int),(0:Int)) env=some ((2,0,(env.2.2.2.1.length:Int)),0):=by
    have e3:aF 2 0 (env.2.2.2.1.length:Int):=by unfold aF;omega
    unfold M.bm;simp[nX,e3]
   simp[e2]
  .simp[h0]
 .have E6:op=36\/op=37\/op=38\/op=39:=by omega
  by_cases hn:0<=n
  .obtain⟨j,rfl⟩:∃j:Nat,n=j:=⟨n.toNat,by omega⟩
   by_cases hj:j<env.2.2.2.2.1.length
   .rw[xd hN E6 hj hm];simp only[Yg,X9 hj,if_pos hn]
    have h1:36<=op:=by omega
    simp[Ct,hj,h1,fQ.2]
   .simp[Ct,hj]
  .cases env.2.2.2.2.1[n.toNat]? <;>simp[Ct,hn]
end L
end Go.Proofs.YtlfjlhcigpejdaaGreatDoor
end
section
open _root_.Bool renaming and_eq_true->Y5,eq_iff_iff->Yh,false_eq_true->X8,not_true->Yp
open _root_.Int renaming lt_or_le->Zb,reduceEq->Y1,tdiv->Yn,tdiv_eq_ediv_of_nonneg->Yj,tmod->Yl,tmod_eq_emod_of_nonneg->Yi
open _root_.Go.IntKind renaming i64->X6
open _root_.List renaming getElem_mem->YL
open _root_.Nat renaming div_le_self->Y4,div_lt_iff_lt_mul->YJ
open _root_.Option renaming bind_some->X5
namespace Go.Proofs.YtlfjlhcigpejdaaGreatDoor
open Go Go.RowKit
set_option maxRecDepth 100000
set_option linter.unusedSimpArgs false
namespace L
theorem xf{op:Int}(h:1<=op/\op<=39):op=1\/op=2\/op=3\/op=4\/op=5\/op=6\/op=7\/op=8\/op=9\/op=10\/op=11\/op=12\/op=13\/op=14\/op=15\/op=16\/op=17\/op=18\/op=19\/op=20\/op=21\/op=22\/op=23\/op=24\/op=25\/op=26\/op=27\/op=28\/op=29\/op=30\/op=31\/op=32\/op=33\/op=34\/op=35\/op=36\/op=37\/op=38\/op=39:=by omega
theorem oT(N:Nat)(op:Int):M.fm N op=some (ar op):=by
 unfold M.fm ar;simp only[ak,X5,eQ,dM];by_cases h:1<=op/\op<=39
 .rcases xf h with rfl|rfl|rfl|rfl|rfl|rfl|rfl|rfl|rfl|rfl|rfl|rfl|rfl|rfl|rfl|rfl|rfl|rfl|rfl|rfl|rfl|rfl|rfl|rfl|rfl|rfl|rfl|rfl|rfl|rfl|rfl|rfl|rfl|rfl|rfl|rfl|rfl|rfl|rfl<;>rfl
 .have ne:∀k:Int,1<=k->k<=39->decide (op=k)=false:=fun k h1 h2=>by simp;omega
  have e:(if(1<=op/\op<=9)\/(35<=op/\op<=39)then(0:Int)else if op=10\/op=25\/(31<=op/\op<=34)then 1 else if(11<=op/\op<=24)\/(27<=op/\op<=30)then 2 else if op=26 then 3 else-1)= -1:=by
   rw[if_neg (by omega),if_neg (by omega),if_neg (by omega),if_neg (by omega)]
  rw[e]
  rcases(show op<1\/39<op by omega)with g|g
  .have l:∀k:Int,1<=k->decide (k<=op)=false:=fun k h1=>by simp;omega
   simp[ne,l]
  .have l:∀k:Int,k<=39->decide (op<=k)=false:=fun k h1=>by simp;omega
   simp[ne,l]
theorem tt(N:Nat)(op:Int):M.fj N op=M.eM N op:=by
 by_cases h:1<=op/\op<=39
 .rcases xf h with rfl|rfl|rfl|rfl|rfl|rfl|rfl|rfl|rfl|rfl|rfl|rfl|rfl|rfl|rfl|rfl|rfl|rfl|rfl|rfl|rfl|rfl|rfl|rfl|rfl|rfl|rfl|rfl|rfl|rfl|rfl|rfl|rfl|rfl|rfl|rfl|rfl|rfl|rfl<;>rfl
 .have ne:∀k:Int,1<=k->k<=39->decide (op=k)=false:=fun k h1 h2=>by simp;omega
  unfold M.fj M.eM;simp only[ak,X5,eQ,dM]
  rcases(show op<1\/39<op by omega)with g|g
  .have l:∀k:Int,1<=k->decide (k<=op)=false:=fun k h1=>by simp;omega
   simp[ne,l]
  .have l:∀k:Int,k<=39->decide (op<=k)=false:=fun k h1=>by simp;omega
   simp[ne,l]
theorem Cu(N:Nat)(op m l:Int)(hl:0<=l){y:Bool}(hy:M.bP N (op,m)=some y):M.fF N (op,m) l=some (y&&decide (l=ar op)):=by
 unfold M.bP at hy;unfold M.fF;rw[dN,tt]at hy;rw[oT];simp only[X5]at hy⊢
 obtain⟨u,hu⟩:∃u,M.eM N op=some u:=by
  rw[<-tt];obtain⟨u,hu,_⟩:=w6 N op;exact⟨u,hu⟩
 rw[hu]at hy⊢;by_cases c:l=ar op
 .subst c;rw[if_neg (by simp;omega)]at hy;rw[if_neg (by simp),hy];simp
 .rw[if_pos (by simp;omega),X5,if_pos rfl];simp[c]
theorem xg(N:Nat)(n:Ty)(env:aP.den):M.cz N n env=M.iC N n env:=rfl
def zv:Vl:=((0,0,0):Int×Int×Int)
def fin(r:Vl×Int):Vl×Int:=if(r.2:Int)=0 then(if aF r.1.1 r.1.2.1 r.1.2.2 then(r.1,0)else(zv,3))else(zv,r.2)
noncomputable def cS(op m:Int)(args:List Vl)(env:aP.den):Option (Vl×Int):=
 ((M.aI az ((op,m):Int×Int) args env).bind fun y7=>some (!y7)).bind fun j5=>if j5=true then some (zv,(8:Int))else
   (M.aK az ((op,m):Int×Int) args env).bind fun y8=>(if(!decide (y8.2=(0:Int)))=true then some (zv,y8.2)else(M.bY az y8.1).bind fun y9=>(if(!y9)=true then some (zv,(3:Int))else some (y8.1,(0:Int))))
theorem fx{op m:Int}{args:List Vl}{env:aP.den}{C:Prop}[Decidable C]{r:Vl×Int}(ha:M.aI az ((op,m):Int×Int) args env=some (decide C))(hc:C->M.aK az ((op,m):Int×Int) args env=some r):cS op m args env=some (if C then fin r else(zv,8)):=by
 unfold cS;rw[ha];by_cases c:C
 .rw[if_pos c,hc c];unfold fin;rw[decide_eq_true c];simp only[X5,br,Yp,X8,if_false];by_cases h0:(r.2:Int)=0
  .rw[if_neg (by simpa using h0),if_pos h0];by_cases hp:aF r.1.1 r.1.2.1 r.1.2.2
   .rw[if_neg (by simpa using hp),if_pos hp]
   .rw[if_pos (by simpa using hp),if_neg hp]
  .rw[if_pos (by simpa using h0),if_neg h0]
 .rw[if_neg c,decide_eq_false c];rfl
theorem cT(N:Nat)(k n:Int):M.bq N k n=some (fin ((k,0,n),0)):=by
 rw[nX];rfl
theorem iF(N:Nat)(k n e:Int):M.dR N k n e=some (fin ((k,0,n),e)):=by
 unfold M.dR fin;by_cases h:e=0
 .rw[if_neg (by simpa using h),nX,X5];subst h;simp only[if_true];rfl
 .rw[if_pos (by simpa using h),if_neg h];rfl
theorem bC(N:Nat)(k:Int):M.bG N k=some (decide (2<=k/\k<=4)):=by
 unfold M.bG;simp only[ak,X5,eQ];refine congrArg some ?_;rw[Yh];simp;omega
theorem dO(N:Nat)(a b:Vl):M.cg N a b=some (decide ((a.1:Int)=b.1/\(a.2.1:Int)=b.2.1)):=by
 unfold M.cg;simp only[ak,X5,dM,Bool.decide_and]
theorem ji(N:Nat)(b:Bool):M.cn N b=some (1,0,if b=true then 1 else 0):=by
 unfold M.cn;cases b<;>rfl
theorem cI(N:Nat)(b:Bool):M.cR N b=some (fin ((1,0,if b=true then 1 else 0),0)):=by
 unfold M.cR fin;cases b<;>rfl
theorem xh{α:Type}(a:α):idx [a] (0:Int)=some a:=rfl
theorem E7{α:Type}(a b:α):idx [a,b] (0:Int)=some a:=rfl
theorem E8{α:Type}(a b:α):idx [a,b] (1:Int)=some b:=rfl
theorem E9{α:Type}(a b c:α):idx [a,b,c] (0:Int)=some a:=rfl
theorem Fa{α:Type}(a b c:α):idx [a,b,c] (1:Int)=some b:=rfl
theorem Fb{α:Type}(a b c:α):idx [a,b,c] (2:Int)=some c:=rfl
theorem oU{α β:Type}(o:Option (α×β)):(o.bind fun y=>some (y.1,y.2))=o:=by cases o<;>rfl
theorem lL{v:Vl}(h:aF v.1 v.2.1 v.2.2):fin (v,0)=(v,0):=by
 unfold fin;rw[if_pos rfl,if_pos h]
theorem Hd(k:Int):(if 2<=k/\k<=4 then some true else some (decide (k=5)))=some (decide (2<=k)&&decide (k<=5)):=by
 by_cases h:2<=k/\k<=4
 .rw[if_pos h,decide_eq_true h.1,decide_eq_true (show k<=5 by omega)];rfl
 .rw[if_neg h];refine congrArg some ?_;rw[Yh,Y5,decide_eq_true_eq,decide_eq_true_eq,decide_eq_true_eq];omega
theorem two{op m:Int}{a b:Vl}{env:aP.den}(fQ:11<=op/\op<=30){C:Prop}[Decidable C]{r:Vl×Int}(h1:M.av az op a b=some (decide C))(h2:C->M.aN az ((op,m):Int×Int) a b=some r)
 (h3:M.au az ((op,m):Int×Int) a b=some (if C then fin r else(zv,8))):cS op m [a,b] env=M.au az ((op,m):Int×Int) a b:=by
 have ne:∀k:Int,k<11\/30<k->decide (op=k)=false:=fun k h=>by simp;omega
 rw[h3]
 refine fx ?_ fun c=>?_
 .unfold M.aI;simp only[ne 7 (by omega),ne 8 (by omega),ne 33 (by omega),ne 34 (by omega),ne 36 (by omega),ne 37 (by omega),ne 38 (by omega),ne 39 (by omega),X8,if_false,X5,E7,E8,h1];rfl
 .unfold M.aK;simp only[ne 1 (by omega),ne 2 (by omega),ne 3 (by omega),ne 4 (by omega),ne 5 (by omega),ne 6 (by omega),ne 7 (by omega),ne 8 (by omega),ne 9 (by omega),ne 33 (by omega),ne 34 (by omega),ne 35 (by omega),ne 36 (by omega),ne 37 (by omega),ne 38 (by omega),ne 39 (by omega),X8,if_false,X5,E7,E8,h2 c];rfl
theorem L2(m ka ea na kb eb nb:Int)(env:aP.den):cS 11 m [((ka,ea,na):Int×Int×Int),((kb,eb,nb):Int×Int×Int)] env=M.au az ((11,m):Int×Int) ((ka,ea,na):Int×Int×Int) ((kb,eb,nb):Int×Int×Int):=by
 refine two (by omega) (C:=(ka=kb/\ea=eb)/\2<=ka/\ka<=4) (r:=((ka,0,X6.wrap (na+nb)),0)) ?_ (fun _=>?_) ?_
 .unfold M.av;simp[dO,dk]
  by_cases h1:ka=kb<;>by_cases h2:ea=eb<;>simp[h1,h2]
 .unfold M.aN;simp
 .unfold M.au M.bz;by_cases h1:ka=kb
  .subst h1;by_cases h2:ea=eb
   .subst h2;by_cases h3:2<=ka/\ka<=4
    .have g:¬(2<=ka->4<ka):=by omega
     simp[h3,g,bC,cT,cI,zv]
    .have g:2<=ka->4<ka:=by omega
     simp[h3,g,bC,cT,cI,zv]
   .simp[h2,bC,cT,cI,zv]
  .simp[h1,bC,cT,cI,zv]
theorem L3(m ka ea na kb eb nb:Int)(env:aP.den):cS 12 m [((ka,ea,na):Int×Int×Int),((kb,eb,nb):Int×Int×Int)] env=M.au az ((12,m):Int×Int) ((ka,ea,na):Int×Int×Int) ((kb,eb,nb):Int×Int×Int):=by
 refine two (by omega) (C:=(ka=kb/\ea=eb)/\2<=ka/\ka<=4) (r:=((ka,0,X6.wrap (na-nb)),0)) ?_ (fun _=>?_) ?_
 .unfold M.av;simp[dO,dk]
  by_cases h1:ka=kb<;>by_cases h2:ea=eb<;>simp[h1,h2]
 .unfold M.aN;simp
 .unfold M.au M.bz;by_cases h1:ka=kb
  .subst h1;by_cases h2:ea=eb
   .subst h2;by_cases h3:2<=ka/\ka<=4
    .have g:¬(2<=ka->4<ka):=by omega
     simp[h3,g,bC,cT,cI,zv]
    .have g:2<=ka->4<ka:=by omega
     simp[h3,g,bC,cT,cI,zv]
   .simp[h2,bC,cT,cI,zv]
  .simp[h1,bC,cT,cI,zv]
theorem L4(m ka ea na kb eb nb:Int)(ha:aF ka ea na)(hb:aF kb eb nb)(env:aP.den):cS 17 m [((ka,ea,na):Int×Int×Int),((kb,eb,nb):Int×Int×Int)] env=M.au az ((17,m):Int×Int) ((ka,ea,na):Int×Int×Int) ((kb,eb,nb):Int×Int×Int):=by
 refine two (by omega) (C:=(ka=kb/\ea=eb)/\2<=ka/\ka<=5) (r:=(if decide (True)=decide (nb<na)then((kb,eb,nb):Vl)else((ka,ea,na):Vl),0)) ?_ (fun _=>?_) ?_
 .unfold M.av;simp[dO,dk]
  by_cases h1:ka=kb<;>by_cases h2:ea=eb<;>simp[h1,h2]
  exact Hd kb
 .unfold M.aN
  by_cases h:nb<na<;>simp[h]
 .unfold M.au M.bz;have fa:=lL (v:=((ka,ea,na):Int×Int×Int)) ha;have fb:=lL (v:=((kb,eb,nb):Int×Int×Int)) hb;by_cases h1:ka=kb
  .subst h1;by_cases h2:ea=eb
   .subst h2
    have bu:∀k:Int,k<2\/5<k->¬(2<=k/\k<=5):=fun k h=>by omega
    by_cases h3:2<=ka/\ka<=5
    .have gg:((M.bG az ka).bind fun lc=>(if(!lc)=true then some (!decide (ka=(5:Int)))else some false):Option Bool)=some false:=by
      rw[bC,X5];by_cases h5:ka=5
      .subst h5;simp
      .rw[if_neg];simp;omega
     simp only[gg]
     rcases Int.lt_trichotomy na nb with g|g|g
     .have g':¬nb<na:=by omega
      simp[h3,g,g',fa,fb]
     .subst g;simp[h3,fa]
     .have g':¬na<nb:=by omega
      simp[h3,g,g',fa,fb]
    .have gg:((M.bG az ka).bind fun lc=>(if(!lc)=true then some (!decide (ka=(5:Int)))else some false):Option Bool)=some true:=by
      rw[bC,X5,if_pos]
      .simp;omega
      .simp;omega
     simp only[gg];simp[h3,zv]
   .simp[h2,zv]
  .simp[h1,zv]
theorem L5(m ka ea na kb eb nb:Int)(ha:aF ka ea na)(hb:aF kb eb nb)(env:aP.den):cS 18 m [((ka,ea,na):Int×Int×Int),((kb,eb,nb):Int×Int×Int)] env=M.au az ((18,m):Int×Int) ((ka,ea,na):Int×Int×Int) ((kb,eb,nb):Int×Int×Int):=by
 refine two (by omega) (C:=(ka=kb/\ea=eb)/\2<=ka/\ka<=5) (r:=(if decide (False)=decide (nb<na)then((kb,eb,nb):Vl)else((ka,ea,na):Vl),0)) ?_ (fun _=>?_) ?_
 .unfold M.av;simp[dO,dk]
  by_cases h1:ka=kb<;>by_cases h2:ea=eb<;>simp[h1,h2]
  exact Hd kb
 .unfold M.aN
  by_cases h:nb<na<;>simp[h]
 .unfold M.au M.bz;have fa:=lL (v:=((ka,ea,na):Int×Int×Int)) ha;have fb:=lL (v:=((kb,eb,nb):Int×Int×Int)) hb;by_cases h1:ka=kb
  .subst h1;by_cases h2:ea=eb
   .subst h2
    have bu:∀k:Int,k<2\/5<k->¬(2<=k/\k<=5):=fun k h=>by omega
    by_cases h3:2<=ka/\ka<=5
    .have gg:((M.bG az ka).bind fun lc=>(if(!lc)=true then some (!decide (ka=(5:Int)))else some false):Option Bool)=some false:=by
      rw[bC,X5];by_cases h5:ka=5
      .subst h5;simp
      .rw[if_neg];simp;omega
     simp only[gg]
     rcases Int.lt_trichotomy na nb with g|g|g
     .have g':¬nb<na:=by omega
      simp[h3,g,g',fa,fb]
     .subst g;simp[h3,fa]
     .have g':¬na<nb:=by omega
      simp[h3,g,g',fa,fb]
    .have gg:((M.bG az ka).bind fun lc=>(if(!lc)=true then some (!decide (ka=(5:Int)))else some false):Option Bool)=some true:=by
      rw[bC,X5,if_pos]
      .simp;omega
      .simp;omega
     simp only[gg];simp[h3,zv]
   .simp[h2,zv]
  .simp[h1,zv]
theorem Ql(m ka ea na kb eb nb:Int)(env:aP.den):cS 19 m [((ka,ea,na):Int×Int×Int),((kb,eb,nb):Int×Int×Int)] env=M.au az ((19,m):Int×Int) ((ka,ea,na):Int×Int×Int) ((kb,eb,nb):Int×Int×Int):=by
 refine two (by omega) (C:=ka=kb/\ea=eb) (r:=((1,0,if(decide (na=nb))=true then 1 else 0),0)) ?_ (fun _=>?_) ?_
 .unfold M.av;simp[dO]
 .unfold M.aN;simp[ji]
 .unfold M.au M.bz;by_cases h1:ka=kb
  .subst h1;by_cases h2:ea=eb
   .subst h2;simp[cI]
   .simp[h2,zv]
  .simp[h1,zv]
theorem Qm(m ka ea na kb eb nb:Int)(env:aP.den):cS 20 m [((ka,ea,na):Int×Int×Int),((kb,eb,nb):Int×Int×Int)] env=M.au az ((20,m):Int×Int) ((ka,ea,na):Int×Int×Int) ((kb,eb,nb):Int×Int×Int):=by
 refine two (by omega) (C:=ka=kb/\ea=eb) (r:=((1,0,if(!decide (na=nb))=true then 1 else 0),0)) ?_ (fun _=>?_) ?_
 .unfold M.av;simp[dO]
 .unfold M.aN;simp[ji]
 .unfold M.au M.bz;by_cases h1:ka=kb
  .subst h1;by_cases h2:ea=eb
   .subst h2;simp[cI]
   .simp[h2,zv]
  .simp[h1,zv]
theorem Qn(m ka ea na kb eb nb:Int)(env:aP.den):cS 21 m [((ka,ea,na):Int×Int×Int),((kb,eb,nb):Int×Int×Int)] env=M.au az ((21,m):Int×Int) ((ka,ea,na):Int×Int×Int) ((kb,eb,nb):Int×Int×Int):=by
 refine two (by omega) (C:=(ka=kb/\ea=eb)/\2<=ka/\ka<=5) (r:=((1,0,if decide (na<nb)=true then 1 else 0),0)) ?_ (fun _=>?_) ?_
 .unfold M.av;simp[dO,dk]
  by_cases h1:ka=kb<;>by_cases h2:ea=eb<;>simp[h1,h2]
  exact Hd kb
 .unfold M.aN;simp[ji]
 .unfold M.au M.bz;by_cases h1:ka=kb
  .subst h1;by_cases h2:ea=eb
   .subst h2;by_cases h3:2<=ka/\ka<=5
    .have gg:((M.bG az ka).bind fun lc=>(if(!lc)=true then some (!decide (ka=(5:Int)))else some false):Option Bool)=some false:=by
      rw[bC,X5];by_cases h5:ka=5
      .subst h5;simp
      .rw[if_neg];simp;omega
     simp only[gg];simp[h3,cI]
    .have gg:((M.bG az ka).bind fun lc=>(if(!lc)=true then some (!decide (ka=(5:Int)))else some false):Option Bool)=some true:=by
      rw[bC,X5,if_pos]
      .simp;omega
      .simp;omega
     simp only[gg];simp[h3,zv]
   .simp[h2,zv]
  .simp[h1,zv]
theorem Qo(m ka ea na kb eb nb:Int)(env:aP.den):cS 22 m [((ka,ea,na):Int×Int×Int),((kb,eb,nb):Int×Int×Int)] env=M.au az ((22,m):Int×Int) ((ka,ea,na):Int×Int×Int) ((kb,eb,nb):Int×Int×Int):=by
 refine two (by omega) (C:=(ka=kb/\ea=eb)/\2<=ka/\ka<=5) (r:=((1,0,if decide (na<=nb)=true then 1 else 0),0)) ?_ (fun _=>?_) ?_
 .unfold M.av;simp[dO,dk]
  by_cases h1:ka=kb<;>by_cases h2:ea=eb<;>simp[h1,h2]
  exact Hd kb
 .unfold M.aN;simp[ji]
 .unfold M.au M.bz;by_cases h1:ka=kb
  .subst h1;by_cases h2:ea=eb
   .subst h2;by_cases h3:2<=ka/\ka<=5
    .have gg:((M.bG az ka).bind fun lc=>(if(!lc)=true then some (!decide (ka=(5:Int)))else some false):Option Bool)=some false:=by
      rw[bC,X5];by_cases h5:ka=5
      .subst h5;simp
      .rw[if_neg];simp;omega
     simp only[gg];simp[h3,cI]
    .have gg:((M.bG az ka).bind fun lc=>(if(!lc)=true then some (!decide (ka=(5:Int)))else some false):Option Bool)=some true:=by
      rw[bC,X5,if_pos]
      .simp;omega
      .simp;omega
     simp only[gg];simp[h3,zv]
   .simp[h2,zv]
  .simp[h1,zv]
theorem L6(m ka ea na kb eb nb:Int)(ha:aF ka ea na)(hb:aF kb eb nb)(env:aP.den):cS 23 m [((ka,ea,na):Int×Int×Int),((kb,eb,nb):Int×Int×Int)] env=M.au az ((23,m):Int×Int) ((ka,ea,na):Int×Int×Int) ((kb,eb,nb):Int×Int×Int):=by
 refine two (by omega) (C:=ka=1/\kb=1) (r:=((1,0,if na=1/\nb=1 then 1 else 0),0)) ?_ (fun _=>?_) ?_
 .unfold M.av
  by_cases h1:ka=1<;>simp[h1]
 .unfold M.aN
  by_cases h1:na=1<;>simp[h1,ji]
 .unfold M.au M.bz;unfold aF at ha hb;by_cases h1:ka=1
  .subst h1;by_cases h2:kb=1
   .subst h2
    obtain⟨rfl,WS,WT⟩:ea=0/\0<=na/\na<=1:=by omega
    obtain⟨rfl,zx,sz⟩:eb=0/\0<=nb/\nb<=1:=by omega
    have Qp:na=0\/na=1:=by omega
    have HI:nb=0\/nb=1:=by omega
    rcases Qp with rfl|rfl<;>rcases HI with rfl|rfl<;>simp[cI,ag]
   .have h3:¬(1:Int)=kb:=fun e=>h2 e.symm
    simp[h2,h3,zv]
  .by_cases h2:ka=kb
   .subst h2
    by_cases h3:ea=eb<;>simp[h1,h3,zv]
   .simp[h1,h2,zv]
theorem Qq(m ka ea na kb eb nb:Int)(ha:aF ka ea na)(hb:aF kb eb nb)(env:aP.den):cS 24 m [((ka,ea,na):Int×Int×Int),((kb,eb,nb):Int×Int×Int)] env=M.au az ((24,m):Int×Int) ((ka,ea,na):Int×Int×Int) ((kb,eb,nb):Int×Int×Int):=by
 refine two (by omega) (C:=ka=1/\kb=1) (r:=((1,0,if na=1\/nb=1 then 1 else 0),0)) ?_ (fun _=>?_) ?_
 .unfold M.av
  by_cases h1:ka=1<;>simp[h1]
 .unfold M.aN
  by_cases h1:na=1<;>simp[h1,ji]
 .unfold M.au M.bz;unfold aF at ha hb;by_cases h1:ka=1
  .subst h1;by_cases h2:kb=1
   .subst h2
    obtain⟨rfl,WS,WT⟩:ea=0/\0<=na/\na<=1:=by omega
    obtain⟨rfl,zx,sz⟩:eb=0/\0<=nb/\nb<=1:=by omega
    have Qp:na=0\/na=1:=by omega
    have HI:nb=0\/nb=1:=by omega
    rcases Qp with rfl|rfl<;>rcases HI with rfl|rfl<;>simp[cI,ag]
   .have h3:¬(1:Int)=kb:=fun e=>h2 e.symm
    simp[h2,h3,zv]
  .by_cases h2:ka=kb
   .subst h2
    by_cases h3:ea=eb<;>simp[h1,h3,zv]
   .simp[h1,h2,zv]
theorem Cv(m ka ea na kb eb nb:Int)(env:aP.den):cS 27 m [((ka,ea,na):Int×Int×Int),((kb,eb,nb):Int×Int×Int)] env=M.au az ((27,m):Int×Int) ((ka,ea,na):Int×Int×Int) ((kb,eb,nb):Int×Int×Int):=by
 refine two (by omega) (C:=ka=5/\kb=2) (r:=((ka,0,X6.wrap (na+nb)),0)) ?_ (fun _=>?_) ?_
 .unfold M.av
  by_cases h1:ka=5<;>simp[h1]
 .unfold M.aN;simp
 .unfold M.au M.gr;by_cases h1:ka=5
  .subst h1
   by_cases h2:kb=2<;>simp[h2,cT,zv]
  .simp[h1,zv]
theorem Qr(d n:Int):∃r,M.bM az d n=some r/\M.b9 az d n=some r:=by
 obtain⟨r,e,_⟩:=kM d n;exact⟨r,e,by rw[<-lJ,e]⟩
theorem L7(d:Int):∃r,M.cu az d=some r/\M.eo az d=some r:=by
 obtain⟨r,e,_⟩:=lG d;exact⟨r,e,by rw[<-rn,e]⟩
theorem Qs(a b:Int):∃r,M.cv az a b=some r/\M.dy az a b=some r:=by
 obtain⟨r,e,_⟩:=kZ a b;exact⟨r,e,by rw[<-nW,e]⟩
theorem xi(m ka ea na kb eb nb:Int)(env:aP.den):cS 28 m [((ka,ea,na):Int×Int×Int),((kb,eb,nb):Int×Int×Int)] env=M.au az ((28,m):Int×Int) ((ka,ea,na):Int×Int×Int) ((kb,eb,nb):Int×Int×Int):=by
 obtain⟨y,e1,e2⟩:=Qr na nb;refine two (by omega) (C:=ka=5/\kb=2) (r:=((5,0,y.1),y.2)) ?_ (fun _=>?_) ?_
 .unfold M.av
  by_cases h1:ka=5<;>simp[h1]
 .unfold M.aN;simp[e1]
 .unfold M.au M.gr;by_cases h1:ka=5
  .subst h1
   by_cases h2:kb=2<;>simp[h2,e2,iF,zv]
  .simp[h1,zv]
theorem JC(m ka ea na kb eb nb:Int)(env:aP.den):cS 29 m [((ka,ea,na):Int×Int×Int),((kb,eb,nb):Int×Int×Int)] env=M.au az ((29,m):Int×Int) ((ka,ea,na):Int×Int×Int) ((kb,eb,nb):Int×Int×Int):=by
 refine two (by omega) (C:=ka=5/\kb=5) (r:=((2,0,X6.wrap (nb-na)),0)) ?_ (fun _=>?_) ?_
 .unfold M.av
  by_cases h1:ka=5<;>simp[h1]
 .unfold M.aN;simp
 .unfold M.au M.gr;by_cases h1:ka=5
  .subst h1
   by_cases h2:kb=5<;>simp[h2,cT,zv]
  .simp[h1,zv]
theorem He(m ka ea na kb eb nb:Int)(env:aP.den):cS 30 m [((ka,ea,na):Int×Int×Int),((kb,eb,nb):Int×Int×Int)] env=M.au az ((30,m):Int×Int) ((ka,ea,na):Int×Int×Int) ((kb,eb,nb):Int×Int×Int):=by
 obtain⟨y,e1,e2⟩:=Qs na nb;refine two (by omega) (C:=ka=5/\kb=5) (r:=((2,0,y),0)) ?_ (fun _=>?_) ?_
 .unfold M.av
  by_cases h1:ka=5<;>simp[h1]
 .unfold M.aN;simp[e1]
 .unfold M.au M.gr;by_cases h1:ka=5
  .subst h1
   by_cases h2:kb=5<;>simp[h2,e2,cT,zv]
  .simp[h1,zv]
def Im(a b:Int):Int×Int:=if 1000000000000000<a.natAbs*b.natAbs then(0,3)else(a*b,0)
theorem Fc(a b:Int):sg (ng a b) (a.natAbs*b.natAbs)=a*b:=by
 rcases Zb a 0 with c1|c1
 .obtain⟨x,rfl⟩:∃x:Nat,a= -(x:Int):=⟨a.natAbs,by omega⟩
  rcases Zb b 0 with c2|c2
  .obtain⟨y,rfl⟩:∃y:Nat,b= -(y:Int):=⟨b.natAbs,by omega⟩
   unfold sg ng;rw[decide_eq_true c1,decide_eq_true c2,Int.natAbs_neg,Int.natAbs_neg,Int.neg_mul_neg];simp
  .obtain⟨y,rfl⟩:∃y:Nat,b=(y:Int):=⟨b.natAbs,by omega⟩
   unfold sg ng;rw[decide_eq_true c1,decide_eq_false (show¬(y:Int)<0 by omega),Int.natAbs_neg,Int.neg_mul];simp
 .obtain⟨x,rfl⟩:∃x:Nat,a=(x:Int):=⟨a.natAbs,by omega⟩
  rcases Zb b 0 with c2|c2
  .obtain⟨y,rfl⟩:∃y:Nat,b= -(y:Int):=⟨b.natAbs,by omega⟩
   unfold sg ng;rw[decide_eq_false (show¬(x:Int)<0 by omega),decide_eq_true c2,Int.natAbs_neg,Int.mul_neg];simp
  .obtain⟨y,rfl⟩:∃y:Nat,b=(y:Int):=⟨b.natAbs,by omega⟩
   unfold sg ng;rw[decide_eq_false (show¬(x:Int)<0 by omega),decide_eq_false (show¬(y:Int)<0 by omega)];simp
theorem yZ{a b:Int}(ha: -1000000000000000<=a/\a<=1000000000000000)(hb: -1000000000000000<=b/\b<=1000000000000000):M.fD az a b=some (Im a b):=by
 unfold M.fD Im;rw[uL ha,uL hb,nP az (by omega) (by omega),X5];have hm:=Fc a b
 obtain⟨P,hP,RE⟩:∃P,P=a.natAbs*b.natAbs/\P<=1000000000000000*1000000000000000:=⟨_,rfl,Nat.mul_le_mul (by omega) (by omega)⟩
 rw[<-hP]at hm⊢;dsimp only;by_cases h:1000000000000000<P
 .have e:((if(!decide (((P/18446744073709551616:Nat):Int)=(0:Int)))=true then some true else some (decide ((1000000000000000:Int)<((P%18446744073709551616:Nat):Int)))):Option Bool)=some true:=by
   by_cases g:P/18446744073709551616=0
   .rw[if_neg (by simp;omega)];refine congrArg some ?_;rw[decide_eq_true_eq];omega
   .rw[if_pos (by simp;omega)]
  rw[e,X5,if_pos rfl,if_pos h]
 .have e:((if(!decide (((P/18446744073709551616:Nat):Int)=(0:Int)))=true then some true else some (decide ((1000000000000000:Int)<((P%18446744073709551616:Nat):Int)))):Option Bool)=some false:=by
   rw[if_neg (by simp;omega)];refine congrArg some ?_;rw[decide_eq_false_iff_not];omega
  rw[e,X5,if_neg (by simp),if_neg h,Nat.mod_eq_of_lt (by omega),gv (by omega),ag (by omega) (by omega),<-hm]
  show(if ng a b=true then _ else _)=_
  unfold sg
  cases ng a b<;>simp
theorem xj{a b k:Int}(ha: -1000000000000000<=a/\a<=1000000000000000)(hb: -1000000000000<=b/\b<=1000000000000)(hk:k=2\/k=3):M.ir az k a b=some (fin ((k,0,(Im a b).1),(Im a b).2)):=by
 unfold M.ir;have hm:=Fc a b;have hs:=yQ (ng a b) (a.natAbs*b.natAbs);rw[hm]at hs
 obtain⟨L,hL,XY⟩:∃L:Nat,M.fG az k=some (-(L:Int),(L:Int))/\(k=2/\L=1000000000000\/k=3/\L=1000000000000000):=by
  rcases hk with rfl|rfl
  .exact⟨1000000000000,by rw[oS];rfl, .inl ⟨rfl,rfl⟩⟩
  .exact⟨1000000000000000,by rw[oS];rfl, .inr ⟨rfl,rfl⟩⟩
 have ab:∀x:Int,-1000000000000000<=x/\x<=1000000000000000->((if(decide (x<(0:Int)))=true then some (X6.wrap ((0:Int)-x))else some x):Option Int)=some ((x.natAbs:Nat):Int):=by
  intro x hx;by_cases c:x<0
  .rw[if_pos (by simpa using c),ag (by omega) (by omega)];refine congrArg some ?_;omega
  .rw[if_neg (by simpa using c)];refine congrArg some ?_;omega
 rw[hL,X5,ab a ha,ab b (by omega),X5,X5]
 obtain⟨A,hA⟩:∃A,A=a.natAbs:=⟨_,rfl⟩
 obtain⟨B,hB⟩:∃B,B=b.natAbs:=⟨_,rfl⟩
 obtain⟨P,hP⟩:∃P,P=A*B:=⟨_,rfl⟩
 rw[<-hA,<-hB,<-hP]at hs;have RE:P<=1000000000000000*1000000000000:=hP▸Nat.mul_le_mul (by omega) (by omega);rw[<-hA,<-hB];dsimp only
 have g1:((if(!decide ((B:Int)=(0:Int)))=true then(gR (L:Int) (B:Int)).bind fun x5=>some (decide ((X6.wrap x5)<(A:Int)))else some false):Option Bool)=some (decide (L<P)):=by
  by_cases h0:B=0
  .rw[if_neg (by simp;omega)];refine congrArg some ?_
   symm
   rw[decide_eq_false_iff_not,hP,h0];omega
  .rw[if_pos (by simp;omega),la _ _ h0,X5];have hq:=Y4 L B;rw[gv (by omega)];refine congrArg some ?_;rw[Yh,decide_eq_true_eq,decide_eq_true_eq,hP];have:=YJ (x:=L) (y:=A) (show 0<B by omega);rw[<-this];omega
 rw[g1,X5]
 have Qt:Im a b=if 1000000000000000<P then(0,3)else(a*b,0):=by
  unfold Im;rw[<-hA,<-hB,<-hP]
 by_cases h:L<P
 .rw[if_pos (by simpa using h)];refine congrArg some ?_;by_cases h2:1000000000000000<P
  .rw[Qt,if_pos h2];rfl
  .rw[Qt,if_neg h2];unfold fin;dsimp only;rw[if_pos rfl,if_neg]
   .rfl
   .unfold aF;omega
 .have HK: -1000000000000000<=a*b/\a*b<=1000000000000000:=by omega
  rw[if_neg (by simpa using h),ag (by omega) (by omega),cT,X5,Qt,if_neg (show¬1000000000000000<P by omega)]
theorem L8(m ka ea na kb eb nb:Int)(ha:aF ka ea na)(hb:aF kb eb nb)(env:aP.den):cS 13 m [((ka,ea,na):Int×Int×Int),((kb,eb,nb):Int×Int×Int)] env=M.au az ((13,m):Int×Int) ((ka,ea,na):Int×Int×Int) ((kb,eb,nb):Int×Int×Int):=by
 refine two (by omega) (C:=kb=2/\(ka=2\/ka=3)) (r:=((ka,0,(Im na nb).1),(Im na nb).2)) ?_ (fun hC=>?_) ?_
 .unfold M.av
  by_cases h1:kb=2<;>by_cases h2:ka=2<;>simp[h1,h2]
 .unfold M.aN M.ek;unfold aF at ha hb;have:=yZ (a:=na) (b:=nb) (by omega) (by omega);simp[this]
 .unfold M.au M.fI;by_cases h1:kb=2
  .subst h1;by_cases h2:ka=2\/ka=3
   .unfold aF at ha hb;have:=xj (a:=na) (b:=nb) (k:=ka) (by omega) (by omega) h2
    rcases h2 with rfl|rfl<;>simp[this]
   .have h3:¬ka=2:=fun e=>h2 (.inl e)
    have h4:¬ka=3:=fun e=>h2 (.inr e)
    simp[h3,h4,zv]
  .simp[h1,zv]
theorem Cw(m ka ea na kb eb nb:Int)(env:aP.den):cS 14 m [((ka,ea,na):Int×Int×Int),((kb,eb,nb):Int×Int×Int)] env=M.au az ((14,m):Int×Int) ((ka,ea,na):Int×Int×Int) ((kb,eb,nb):Int×Int×Int):=by
 have Qu:∃y,M.gC az na nb m=some y/\M.kf az na nb m=some y:=by
  obtain⟨y,e⟩:∃y,M.gC az na nb m=some y:=by
   by_cases h:km m
   .obtain⟨y,e,_⟩:=z9 (a:=na) (b:=nb) h;exact⟨y,e⟩
   .unfold M.gC;rw[ri,decide_eq_false h];exact⟨_,rfl⟩
  exact⟨y,e,by rw[<-G4,e]⟩
 obtain⟨y,e1,e2⟩:=Qu;refine two (by omega) (C:=kb=4/\(ka=3\/ka=4)) (r:=if ka=3 then((ka,0,(G3 na nb m).1),(G3 na nb m).2)else((ka,0,y.1),y.2)) ?_ (fun hC=>?_) ?_
 .unfold M.av
  by_cases h1:kb=4<;>by_cases h2:ka=3<;>simp[h1,h2]
 .unfold M.aN M.ek
  by_cases h2:ka=3<;>simp[h2,Ci,e1]
 .unfold M.au M.fI;by_cases h1:kb=4
  .subst h1;by_cases h2:ka=3
   .subst h2;simp[yT,iF]
   .by_cases h3:ka=4
    .subst h3;simp[e2,iF]
    .simp[h2,h3,zv]
  .simp[h1,zv]
theorem L9(m ka ea na kb eb nb:Int)(env:aP.den):cS 15 m [((ka,ea,na):Int×Int×Int),((kb,eb,nb):Int×Int×Int)] env=M.au az ((15,m):Int×Int) ((ka,ea,na):Int×Int×Int) ((kb,eb,nb):Int×Int×Int):=by
 refine two (by omega) (C:=(kb=2/\(ka=2\/ka=3))\/(ka=3/\kb=3)) (r:=if kb=2 then((ka,0,(Ab na nb m).1),(Ab na nb m).2)else((4,0,(EW na nb m).1),(EW na nb m).2)) ?_ (fun hC=>?_) ?_
 .unfold M.av;by_cases h1:kb=2
  .subst h1
   by_cases h2:ka=2<;>simp[h2]
  .by_cases h2:ka=3<;>simp[h1,h2]
 .unfold M.aN M.ek;by_cases h1:kb=2
  .subst h1;simp[jC]
  .simp[h1,uM]
 .unfold M.au M.fI;by_cases h1:kb=2
  .subst h1;by_cases h2:ka=2
   .subst h2;simp[nS,iF]
   .by_cases h3:ka=3
    .subst h3;simp[nS,iF]
    .simp[h2,h3,zv]
  .by_cases h2:ka=3
   .subst h2;by_cases h3:kb=3
    .subst h3;simp[sa,iF]
    .simp[h1,h3,zv]
   .simp[h1,h2,zv]
theorem Cx(m ka ea na kb eb nb:Int)(env:aP.den):cS 16 m [((ka,ea,na):Int×Int×Int),((kb,eb,nb):Int×Int×Int)] env=M.au az ((16,m):Int×Int) ((ka,ea,na):Int×Int×Int) ((kb,eb,nb):Int×Int×Int):=by
 have Qu:∃y,M.cL az na nb m=some y/\M.fS az na nb m=some y:=by
  obtain⟨y,e⟩:∃y,M.cL az na nb m=some y:=by
   by_cases h:km m
   .obtain⟨y,e,_⟩:=ra (a:=na) (b:=nb) h;exact⟨y,e⟩
   .unfold M.cL;rw[pY,decide_eq_false h];exact⟨_,rfl⟩
  exact⟨y,e,by rw[<-yS,e]⟩
 obtain⟨y,e1,e2⟩:=Qu;refine two (by omega) (C:=ka=3/\kb=3) (r:=((ka,0,y.1),y.2)) ?_ (fun hC=>?_) ?_
 .unfold M.av
  by_cases h1:ka=3<;>simp[h1]
 .unfold M.aN M.ek;simp[e1]
 .unfold M.au M.fI;by_cases h1:ka=3
  .subst h1;by_cases h2:kb=3
   .subst h2;simp[e2,iF]
   .simp[h2,zv]
  .simp[h1,zv]
theorem one{op m:Int}{a:Vl}{env:aP.den}(fQ:op=10\/op=25\/op=31\/op=32){C:Prop}[Decidable C]{r:Vl}(h1:M.bF az op a.1=some (decide C))(h2:C->M.eC az op a=some r)
 (h3:M.aR az ((op,m):Int×Int) a env=some (if C then fin (r,0)else(zv,8))):cS op m [a] env=M.aR az ((op,m):Int×Int) a env:=by
 rw[h3]
 refine fx ?_ fun c=>?_
 .unfold M.aI
  rcases fQ with rfl|rfl|rfl|rfl<;>simp only[Y1,decide_false,decide_true,X8,if_false,if_true,X5,xh,h1]<;>rfl
 .unfold M.aK
  rcases fQ with rfl|rfl|rfl|rfl<;>simp only[Y1,decide_false,decide_true,X8,if_false,if_true,X5,xh,h2 c]<;>rfl
theorem Ma(m ka ea na:Int)(env:aP.den):cS 10 m [((ka,ea,na):Int×Int×Int)] env=M.aR az ((10,m):Int×Int) ((ka,ea,na):Int×Int×Int) env:=by
 refine one (by omega) (C:=2<=ka/\ka<=4) (r:=((ka,0,X6.wrap (0-na)):Int×Int×Int)) ?_ (fun _=>?_) ?_
 .unfold M.bF;simp[dk]
 .unfold M.eC;simp
 .unfold M.aR;by_cases h3:2<=ka/\ka<=4
  .have g:¬(2<=ka->4<ka):=by omega
   simp[h3,g,bC,cT]
  .have g:2<=ka->4<ka:=by omega
   simp[h3,g,bC,zv]
theorem Mb(m ka ea na:Int)(env:aP.den):cS 25 m [((ka,ea,na):Int×Int×Int)] env=M.aR az ((25,m):Int×Int) ((ka,ea,na):Int×Int×Int) env:=by
 refine one (by omega) (C:=ka=1) (r:=((1,0,if decide (na=0)=true then 1 else 0):Int×Int×Int)) ?_ (fun _=>?_) ?_
 .unfold M.bF;simp
 .unfold M.eC;simp[ji]
 .unfold M.aR
  by_cases h3:ka=1<;>simp[h3,cI,zv]
theorem JD(m ka ea na:Int)(env:aP.den):cS 31 m [((ka,ea,na):Int×Int×Int)] env=M.aR az ((31,m):Int×Int) ((ka,ea,na):Int×Int×Int) env:=by
 obtain⟨y,e1,e2⟩:=L7 na;refine one (by omega) (C:=ka=5) (r:=((2,0,y.1):Int×Int×Int)) ?_ (fun _=>?_) ?_
 .unfold M.bF;simp
 .unfold M.eC;simp[e1]
 .unfold M.aR
  by_cases h3:ka=5<;>simp[h3,e2,cT,zv]
theorem Hf(m ka ea na:Int)(env:aP.den):cS 32 m [((ka,ea,na):Int×Int×Int)] env=M.aR az ((32,m):Int×Int) ((ka,ea,na):Int×Int×Int) env:=by
 obtain⟨y,e1,e2⟩:=L7 na;refine one (by omega) (C:=ka=5) (r:=((2,0,y.2.1):Int×Int×Int)) ?_ (fun _=>?_) ?_
 .unfold M.bF;simp
 .unfold M.eC;simp[e1]
 .unfold M.aR
  by_cases h3:ka=5<;>simp[h3,e2,cT,zv]
def Hg(env:aP.den):Prop:=∀t∈env.2.2.2.2.2,t.2.2.2.length<=1000/\∀r∈t.2.2.2,-9223372036854775808<=(r.2.2.2:Int)/\(r.2.2.2:Int)<=9223372036854775807
theorem Fe{m ka ea na:Int}{env:aP.den}(ht:Hg env)(hm:0<=m/\m<env.2.2.2.2.2.length)(ha:aF ka ea na):cS 33 m [((ka,ea,na):Int×Int×Int)] env=M.aR az ((33,m):Int×Int) ((ka,ea,na):Int×Int×Int) env:=by
 obtain⟨k,rfl⟩:∃k:Nat,m=k:=⟨m.toNat,by omega⟩
 have hk:k<env.2.2.2.2.2.length:=by omega
 obtain⟨t,Qv,Mc⟩:∃t,t=env.2.2.2.2.2[k]/\t∈env.2.2.2.2.2:=⟨_,rfl,YL hk⟩
 have lj:=ax hk;rw[<-Qv]at lj;obtain⟨y,ey,hy⟩:=tj t env.1 na (by have:=(ht t Mc).1;omega)
 have RJ:M.gE az t env.1 na=some y:=by rw[<-wW];exact ey
 obtain⟨x,hx⟩:∃x:mw.den,y.2=true->idx t.2.2.2 y.1=some x:=by
  by_cases h:y.2=true
  .obtain⟨h1,h2⟩:=hy h
   obtain⟨j,hj⟩:∃j:Nat,y.1=j:=⟨y.1.toNat,by omega⟩
   rw[hj]at h2⊢;exact⟨_,fun _=>ax (show j<t.2.2.2.length by omega)⟩
  .exact⟨(((0,0),0,0,0):(Int×Int)×Int×Int×Int),fun e=>absurd e h⟩
 obtain⟨nm,⟨(tk:Int),(te:Int)⟩,⟨(vk:Int),(ve:Int)⟩,rows⟩:=t;dsimp only at ey RJ hx lj
 have key:M.aR az ((33,(k:Int)):Int×Int) ((ka,ea,na):Int×Int×Int) env=some (if(ka=tk/\ea=te)/\1<=vk/\vk<=6 then fin (if y.2=true then(((vk,ve,x.2.2.2):Int×Int×Int),0)else(zv,6))else(zv,8)):=by
  unfold M.aR;simp only[Y1,decide_false,decide_true,X8,if_false,if_true,X5,lj];unfold M.kI;dsimp only
  have g:((if(!decide (ka=tk))=true then some true else(if(!decide (ea=te))=true then some true else(if(decide (vk<(1:Int)))=true then some true else some (decide ((6:Int)<vk))))):Option Bool)=some (decide (¬((ka=tk/\ea=te)/\1<=vk/\vk<=6))):=by
   by_cases h1:ka=tk<;>by_cases h2:ea=te<;>by_cases h3:vk<1<;>simp[h1,h2,h3]<;>omega
  rw[g,X5];by_cases hC:(ka=tk/\ea=te)/\1<=vk/\vk<=6
  .rw[if_neg (by rw[decide_eq_true_eq];exact fun h=>h hC),if_pos hC,RJ,X5]
   cases hb:y.2 with
   |false=>rfl
   |true=>
    simp only[Yp,X8,if_false,if_true];rw[hx hb,X5,cO,X5];unfold fin;by_cases hp:aF vk ve x.2.2.2
    .rw[if_neg (by simpa using hp)];dsimp only;rw[if_pos rfl,if_pos hp];rfl
    .rw[if_pos (by simpa using hp)];dsimp only;rw[if_pos rfl,if_neg hp];rfl
  .rw[if_pos (decide_eq_true hC),if_neg hC];rfl
 rw[key]
 refine fx ?_ fun hC=>?_
 .unfold M.aI;simp only[Y1,decide_false,decide_true,X8,if_false,if_true,X5,lj,xh,m6]
  by_cases h1:ka=tk<;>by_cases h2:ea=te<;>by_cases h3:1<=vk<;>by_cases h4:vk<=6<;>simp[pk,ha,h1,h2,h3,h4]
  subst h1 h2;exact ha
 .unfold M.aK;simp only[Y1,decide_false,decide_true,X8,if_false,if_true,X5,lj,xh,ey]
  cases hb:y.2 with
  |false=>rfl
  |true=>simp only[Yp,X8,if_false,if_true,hx hb,X5]
theorem za{m ka ea na:Int}{env:aP.den}(ht:Hg env)(h0:0<=m)(hm:X6.wrap (Yn m 8)<env.2.2.2.2.2.length)(Rl:m<=9223372036854775807)(h5:Yl m 8<=5):cS 34 m [((ka,ea,na):Int×Int×Int)] env=M.aR az ((34,m):Int×Int) ((ka,ea,na):Int×Int×Int) env:=by
 have hd:Yn m 8=m/8:=Yj h0;rw[hd,ag (by omega) (by omega)]at hm
 obtain⟨k,hk⟩:∃k:Nat,m/8=k:=⟨(m/8).toNat,by omega⟩
 have cx:k<env.2.2.2.2.2.length:=by omega
 have hw:X6.wrap (Yn m 8)=k:=by rw[hd,ag (by omega) (by omega),hk]
 obtain⟨t,Qv,Mc⟩:∃t,t=env.2.2.2.2.2[k]/\t∈env.2.2.2.2.2:=⟨_,rfl,YL cx⟩
 have lj:=ax cx;rw[<-Qv]at lj;have sj:=sb (ht t Mc).1 (ht t Mc).2 env.1 na (Yl m 8)
 have Md:t.2.1=((3,0):Int×Int)->t.2.2.1=((4,0):Int×Int)->∃y,M.dx az t env.1 na (Yl m 8)=some y:=fun a b=>by
  obtain⟨y,e,_⟩:=po (d:=env.1) (k:=na) (m:=Yl m 8) ⟨by rw[Yi h0];omega,h5⟩ a b (by have:=(ht t Mc).1;omega);exact⟨y,e⟩
 obtain⟨nm,⟨(tk:Int),(te:Int)⟩,⟨(vk:Int),(ve:Int)⟩,rows⟩:=t;dsimp only at sj Md lj;have hC:(ka=3/\(tk=3/\te=0)/\vk=4/\ve=0)\/¬(ka=3/\(tk=3/\te=0)/\vk=4/\ve=0):=Decidable.em _
 rcases hC with hC|hC
 .obtain⟨rfl,⟨rfl,rfl⟩,rfl,rfl⟩:=hC;obtain⟨y,ey⟩:=Md rfl rfl;rw[ey]at sj;rw[fx (C:=True) (r:=((3,0,y.1),y.2))]
  .unfold M.aR;simp only[Y1,decide_false,decide_true,X8,if_false,if_true,X5,hw,lj,<-sj,Yp,iF]
  .unfold M.aI;simp only[Y1,decide_false,decide_true,X8,if_false,if_true,X5,hw,lj,xh];simp[tE]
  .intro _;unfold M.aK;simp only[Y1,decide_false,decide_true,X8,if_false,if_true,X5,hw,lj,xh,ey]
 .rw[fx (C:=False) (r:=(zv,0))]
  .unfold M.aR;simp only[Y1,decide_false,decide_true,X8,if_false,if_true,X5,hw,lj]
   have g:((if(!decide (ka=(3:Int)))=true then some true else(if(!decide (tk=(3:Int)))=true then some true else(if(!decide (te=(0:Int)))=true then some true else(if(!decide (vk=(4:Int)))=true then some true else some (!decide (ve=(0:Int))))))):Option Bool)=some true:=by
    by_cases h1:ka=3<;>by_cases h2:tk=3<;>by_cases h3:te=0<;>by_cases h4:vk=4<;>simp[h1,h2,h3,h4]at hC⊢<;>exact hC
   rw[g];rfl
  .unfold M.aI;simp only[Y1,decide_false,decide_true,X8,if_false,if_true,X5,hw,lj,xh]
   by_cases h1:ka=3<;>by_cases h2:tk=3<;>by_cases h3:te=0<;>by_cases h4:vk=4<;>simp[h1,h2,h3,h4,tE]at hC⊢<;>try exact hC
  .intro h;cases h
theorem Qw(m ka ea na kb eb nb kc ec nc:Int)(hb:aF kb eb nb)(hc:aF kc ec nc)(env:aP.den):cS 26 m [((ka,ea,na):Int×Int×Int),((kb,eb,nb):Int×Int×Int),((kc,ec,nc):Int×Int×Int)] env=
 (((if(!decide (ka=(1:Int)))=true then some true else(if(!decide (kb=kc))=true then some true else some (!decide (eb=ec)))):Option (Bool)).bind fun Li=>(if Li=true then some (((0:Int),((0:Int),(0:Int))),(8:Int))else(if(decide (na=(1:Int)))=true then some (((kb,eb,nb):Int×Int×Int),(0:Int))else some (((kc,ec,nc):Int×Int×Int),(0:Int))))):=by
 have fb:=lL (v:=((kb,eb,nb):Int×Int×Int)) hb;have fc:=lL (v:=((kc,ec,nc):Int×Int×Int)) hc;rw[fx (C:=ka=1/\kb=kc/\eb=ec) (r:=(if na=1 then((kb,eb,nb):Int×Int×Int)else((kc,ec,nc):Int×Int×Int),0))]
 .by_cases h1:ka=1<;>by_cases h2:kb=kc<;>by_cases h3:eb=ec<;>by_cases h4:na=1<;>simp[h1,h2,h3,h4,zv]
  all_goals first|(subst h2 h3;first|exact fb|exact fc)
 .unfold M.aI
  by_cases h1:ka=1<;>simp[h1,E9,Fa,Fb,dO]
 .intro _;unfold M.aK
  by_cases h1:na=1<;>simp[h1,E9,Fa,Fb]
theorem Me{op m:Int}(h:1<=op/\op<=5)(env:aP.den):cS op m [] env=M.bm az ((op,m):Int×Int) env:=by
 have fQ:op=1\/op=2\/op=3\/op=4\/op=5:=by omega
 rw[fx (C:=True) (r:=((op,0,m),0))]
 .unfold M.bm
  rcases fQ with rfl|rfl|rfl|rfl|rfl<;>simp[cT]
 .unfold M.aI
  rcases fQ with rfl|rfl|rfl|rfl|rfl<;>simp
 .intro _;unfold M.aK
  rcases fQ with rfl|rfl|rfl|rfl|rfl<;>simp
theorem JE(m:Int)(env:aP.den):cS 6 m [] env=M.bm az ((6,m):Int×Int) env:=by
 rw[fx (C:=True) (r:=((6,X6.wrap (Yn m 16),Yl m 16),0))]
 .unfold M.bm fin
  by_cases hp:aF 6 (X6.wrap (Yn m 16)) (Yl m 16)<;>simp[cO,hp,zv]
 .unfold M.aI;simp
 .intro _;unfold M.aK;simp
theorem JF(m:Int)(env:aP.den):cS 9 m [] env=M.bm az ((9,m):Int×Int) env:=by
 rw[fx (C:=True) (r:=((5,0,env.1),0))]
 .unfold M.bm;simp[cT]
 .unfold M.aI;simp
 .intro _;unfold M.aK;simp
theorem Hh{m:Int}{env:aP.den}(h:0<=m/\m<env.2.1.length):cS 7 m [] env=M.bm az ((7,m):Int×Int) env:=by
 obtain⟨k,rfl⟩:∃k:Nat,m=k:=⟨m.toNat,by omega⟩
 have hx:=ax (l:=env.2.1) (k:=k) (by omega);generalize env.2.1[k]=x at hx;rw[fx (C:=aF x.1 x.2.1 x.2.2) (r:=(x,0))]
 .unfold M.bm;by_cases hp:aF x.1 x.2.1 x.2.2
  .simp[hx,cO,hp,lL hp]
  .simp[hx,cO,hp,zv]
 .unfold M.aI;simp[hx,br]
 .intro _;unfold M.aK;simp[hx]
theorem Mf{m:Int}{env:aP.den}(h:0<=m/\m<env.2.2.1.length):cS 8 m [] env=M.bm az ((8,m):Int×Int) env:=by
 obtain⟨k,rfl⟩:∃k:Nat,m=k:=⟨m.toNat,by omega⟩
 have hx:=ax (l:=env.2.2.1) (k:=k) (by omega);generalize env.2.2.1[k]=x at hx;rw[fx (C:=aF x.1 x.2.1 x.2.2) (r:=(x,0))]
 .unfold M.bm;by_cases hp:aF x.1 x.2.1 x.2.2
  .simp[hx,cO,hp,lL hp]
  .simp[hx,cO,hp,zv]
 .unfold M.aI;simp[hx,br]
 .intro _;unfold M.aK;simp[hx]
end L
end Go.Proofs.YtlfjlhcigpejdaaGreatDoor
end
section
open _root_.Bool renaming false_eq_true->X8,not_true->Yp
open _root_.Go.IntKind renaming i64->X6
open _root_.List renaming all_eq_true->Zo,getElem_mem->YL
open _root_.Nat renaming lt_or_ge->YN,zero_le->Yk
open _root_.Option renaming bind_some->X5
open _root_.Sum renaming inl->YT,inr->Yv
namespace Go.Proofs.YtlfjlhcigpejdaaGreatDoor
open Go Go.RowKit
set_option maxRecDepth 100000
set_option linter.unusedSimpArgs false
namespace L
def AP(l:List Vl):Bool:=l.all fun v=>decide (aF v.1 v.2.1 v.2.2)
theorem JG{l:List Vl}(h:AP l=true){v:Vl}(hv:v∈l):aF v.1 v.2.1 v.2.2:=of_decide_eq_true (Zo.1 h v hv)
theorem Io{l:List Vl}{v:Vl}(hv:v∈l)(h:¬aF v.1 v.2.1 v.2.2):AP l=false:=by
 unfold AP;rw[List.all_eq_false];exact⟨v,hv,by simp[h]⟩
theorem Ff{l:List Vl}(h:∀k(hk:k<l.length),aF l[k].1 l[k].2.1 l[k].2.2):AP l=true:=by
 unfold AP;rw[Zo];intro v hv;obtain⟨k,hk,rfl⟩:=List.getElem_of_mem hv;exact decide_eq_true (h k hk)
theorem all_eq{l:List Vl}(hl:l.length<=100000):M.bl az l=some (AP l):=by
 apply Wp.eq;unfold M.bl;refine Wp.loop (fun s:Int=>∃k:Nat,s=k/\k<=l.length/\∀j(hj:j<l.length),j<k->aF l[j].1 l[j].2.1 l[j].2.2) (fun s=>(l.length-s).toNat) ⟨0,rfl,Yk _,fun j _ h=>absurd h (Nat.not_lt_zero j)⟩ (by unfold az;omega) ?_
 rintro _ ⟨k,rfl,hk,hp⟩
 refine Wp.dec (fun h=>?_) fun h=> .some (Ff fun j hj=>hp j hj (by omega)).symm
 have cx:k<l.length:=by omega
 rw[ax cx,X5,br,X5];by_cases c:aF l[k].1 l[k].2.1 l[k].2.2
 .rw[if_neg (by simpa using c),al (by omega)];refine .some ⟨⟨k+1,rfl,cx,fun j hj h=>?_⟩,by simp only;omega⟩
  rcases YN j k with g|g
  .exact hp j hj g
  .have:j=k:=by omega
   subst this;exact c
 .rw[if_pos (by simpa using c)];exact .some (Io (YL cx) c).symm
theorem Hi{l:List Vl}(hl:l.length<=100000)(kk:Unit->Option (Vl×Int)):da (J:=Unit) (R:=af.den×Int) (Loop (S:=Int) (X:=(Unit)⊕(af.den×Int)) (fun s4=>(if(decide (s4<(l.length:Int)))=true then(idx l s4).bind fun x5=>(M.bg az x5).bind fun y6=>(if(!y6)=true then some (Yv (Yv (((0:Int),((0:Int),(0:Int))),(8:Int))))else some (YT (X6.wrap (s4+(1:Int)))))else some (Yv (YT ())))) az (0:Int)) kk=if AP l=true then kk ()else some (zv,8):=by
 have key:Wp (Loop (S:=Int) (X:=(Unit)⊕(af.den×Int)) (fun s4=>(if(decide (s4<(l.length:Int)))=true then(idx l s4).bind fun x5=>(M.bg az x5).bind fun y6=>(if(!y6)=true then some (Yv (Yv (((0:Int),((0:Int),(0:Int))),(8:Int))))else some (YT (X6.wrap (s4+(1:Int)))))else some (Yv (YT ())))) az (0:Int)) (fun x=>x=if AP l=true then YT ()else Yv (zv,8)):=by
  refine Wp.loop (fun s:Int=>∃k:Nat,s=k/\k<=l.length/\∀j(hj:j<l.length),j<k->aF l[j].1 l[j].2.1 l[j].2.2) (fun s=>(l.length-s).toNat) ⟨0,rfl,Yk _,fun j _ h=>absurd h (Nat.not_lt_zero j)⟩ (by unfold az;omega) ?_
  rintro _ ⟨k,rfl,hk,hp⟩
  refine Wp.dec (fun h=>?_) fun h=> .some ?_
  .have cx:k<l.length:=by omega
   rw[ax cx,X5,cO,X5];by_cases c:aF l[k].1 l[k].2.1 l[k].2.2
   .rw[if_neg (by simpa using c),al (by omega)];refine .some ⟨⟨k+1,rfl,cx,fun j hj h=>?_⟩,by simp only;omega⟩
    rcases YN j k with g|g
    .exact hp j hj g
    .have:j=k:=by omega
     subst this;exact c
   .rw[if_pos (by simpa using c)];refine .some ?_
    show _=_
    rw[Io (YL cx) c];rfl
  .show _=_
   rw[Ff fun j hj=>hp j hj (by omega)];rfl
 obtain⟨x,e,rfl⟩:=key;rw[e]
 cases AP l<;>rfl
theorem zb{n:Ty}{args:List Vl}{env:aP.den}(he:k0 env)(ht:Hg env)(hn:WF aa n)(hl:args.length<=100000):M.aZ az n args env=M.fq az n args env:=by
 obtain⟨(op:Int),(m:Int)⟩:=n;have Kj: -9223372036854775808<=m/\m<=9223372036854775807:=hn.2
 by_cases Mg:(35<=op/\op<=39)/\args=[]
 .obtain⟨h,rfl⟩:=Mg;rw[Cr (by unfold az;omega) op m env h he.1,se (by unfold az;omega) op m env h he.1]
 unfold M.aZ M.fq;obtain⟨y,hy,WU⟩:=mq az op m;dsimp only;rw[Cu az op m _ (by omega) hy,hy,dN,X5,X5,X5]
 cases y with
 |false=>rfl
 |true=>
  by_cases ni:(args.length:Int)=ar op
  case neg=>simp[ni,zv]
  have hf:=WU rfl;obtain⟨x,hx,FF⟩:=oR az op m env;rw[<-xg,hx,X5];simp only[ni,decide_true,Yp,Bool.and_self,X8,if_false,X5]
  cases x with
  |false=>rfl
  |true=>
   have FF:=FF rfl;simp only[Yp,X8,if_false];rw[<-ni];rw[Hi hl,all_eq hl,X5]
   cases hA:AP args with
   |false=>rfl
   |true=>
    have ll:=fun v hv=>JG hA (v:=v) hv
    simp only[Yp,X8,if_false,if_true]
    show cS op m args env=_
    have CZ:=hf.1
    have fQ:1<=op/\op<=39:=by
     unfold ar at CZ;split at CZ
     .omega
     .split at CZ
      .omega
      .split at CZ
       .omega
       .split at CZ
        .omega
        .omega
    have IR:=lK op
    have hlen:args.length=0\/args.length=1\/args.length=2\/args.length=3:=by omega
    rcases hlen with g|g|g|g
    .obtain rfl:=List.eq_nil_of_length_eq_zero g
     have Ct:¬(35<=op/\op<=39):=fun h=>Mg ⟨h,rfl⟩
     have e1:((if(decide ((36:Int)<=op))=true then some (decide (op<=(39:Int)))else some false):Option Bool)=some false:=by
      rw[if_neg];simp;unfold ar at ni;simp at ni
      split at ni<;>omega
     have WV:op<=9:=by
      unfold ar at ni;simp at ni
      split at ni<;>(try split at ni)<;>(try split at ni)<;>(try split at ni)<;>omega
     simp only[List.length_nil,Int.ofNat_zero,decide_true,if_true,e1,X5,X8,if_false,oU]
     have:op=6\/op=7\/op=8\/op=9\/(1<=op/\op<=5):=by omega
     rcases this with rfl|rfl|rfl|rfl|h
     .exact JE m env
     .exact Hh (FF.1 rfl)
     .exact Mf (FF.2.1 rfl)
     .exact JF m env
     .exact Me h env
    .obtain⟨⟨(ka:Int),(ea:Int),(na:Int)⟩,rfl⟩:=List.length_eq_one_iff.1 g;have ha:aF ka ea na:=ll _ (List.mem_singleton.2 rfl);rw[if_neg (by simp),if_pos (by simp),xh,X5,oU]
     have Qx:op=10\/op=25\/op=31\/op=32\/op=33\/op=34:=by
      unfold ar at ni;simp at ni
      split at ni<;>(try split at ni)<;>(try split at ni)<;>(try split at ni)<;>omega
     rcases Qx with rfl|rfl|rfl|rfl|rfl|rfl
     .exact Ma ..
     .exact Mb ..
     .exact JD ..
     .exact Hf ..
     .exact Fe ht (FF.2.2.1 rfl) ha
     .exact za ht (hf.2.2.1 rfl).1 (FF.2.2.2.1 rfl) Kj.2 (hf.2.2.1 rfl).2
    .obtain⟨⟨(ka:Int),(ea:Int),(na:Int)⟩,⟨(kb:Int),(eb:Int),(nb:Int)⟩,rfl⟩:∃a b,args=[a,b]:=by
      match args,g with
      |[a,b],_=>exact⟨a,b,rfl⟩
     have ha:aF ka ea na:=ll ((ka,ea,na):Int×Int×Int) (by simp);have hb:aF kb eb nb:=ll _ (List.mem_cons_of_mem _ (List.mem_singleton.2 rfl));rw[if_neg (by simp),if_neg (by simp),if_pos (by simp),E7,E8,X5,X5,oU]
     have Qy:op=11\/op=12\/op=13\/op=14\/op=15\/op=16\/op=17\/op=18\/op=19\/op=20\/op=21\/op=22\/op=23\/op=24\/op=27\/op=28\/op=29\/op=30:=by
      unfold ar at ni;simp at ni
      split at ni<;>(try split at ni)<;>(try split at ni)<;>(try split at ni)<;>omega
     rcases Qy with rfl|rfl|rfl|rfl|rfl|rfl|rfl|rfl|rfl|rfl|rfl|rfl|rfl|rfl|rfl|rfl|rfl|rfl
     .exact L2 ..
     .exact L3 ..
     .exact L8 _ _ _ _ _ _ _ ha hb _
     .exact Cw ..
     .exact L9 ..
     .exact Cx ..
     .exact L4 _ _ _ _ _ _ _ ha hb _
     .exact L5 _ _ _ _ _ _ _ ha hb _
     .exact Ql ..
     .exact Qm ..
     .exact Qn ..
     .exact Qo ..
     .exact L6 _ _ _ _ _ _ _ ha hb _
     .exact Qq _ _ _ _ _ _ _ ha hb _
     .exact Cv ..
     .exact xi ..
     .exact JC ..
     .exact He ..
    .obtain⟨⟨(ka:Int),(ea:Int),(na:Int)⟩,⟨(kb:Int),(eb:Int),(nb:Int)⟩,⟨(kc:Int),(ec:Int),(nc:Int)⟩,rfl⟩:∃a b c,args=[a,b,c]:=by
      match args,g with
      |[a,b,c],_=>exact⟨a,b,c,rfl⟩
     have hb:aF kb eb nb:=ll ((kb,eb,nb):Int×Int×Int) (by simp);have hc:aF kc ec nc:=ll ((kc,ec,nc):Int×Int×Int) (by simp);rw[if_neg (by simp),if_neg (by simp),if_neg (by simp),E9,Fa,Fb,X5,X5,X5]
     have Qz:op=26:=by
      unfold ar at ni;simp at ni
      split at ni<;>(try split at ni)<;>(try split at ni)<;>(try split at ni)<;>omega
     subst Qz;exact Qw m ka ea na kb eb nb kc ec nc hb hc env
end L
end Go.Proofs.YtlfjlhcigpejdaaGreatDoor
end
section
open _root_.Bool renaming false_eq_true->X8,not_false->YC,not_true->Yp
open _root_.Int renaming toNat_natCast->Yg
open _root_.Go.IntKind renaming i64->X6
open _root_.List renaming getD->Y3,replicate->Yf,replicate_succ->YX
open _root_.Nat renaming le_refl->Yd,lt_or_ge->YN,zero_le->Yk
open _root_.Option renaming bind_some->X5
namespace Go.Proofs.YtlfjlhcigpejdaaGreatDoor
open Go Go.RowKit
set_option maxRecDepth 100000
namespace L
def z3:Vl:=((0,0,0):Int×Int×Int)
def cf(op:Int):Prop:=op=23\/op=24\/op=26
instance(op:Int):Decidable (cf op):=by unfold cf;infer_instance
noncomputable def mz(env:aP.den)(n:Ty)(args:List Vl):Vl×Int:=(M.aZ az n args env).getD (z3,0)
theorem Mh{env:aP.den}(he:k0 env){n:Ty}(hn:WF aa n){args:List Vl}(hl:args.length<=100000):M.aZ az n args env=some (mz env n args):=by
 obtain⟨r,hr,_⟩:=rv (n:=n) (args:=args) he hn hl;unfold mz;rw[hr];rfl
theorem Fg{env:aP.den}(he:k0 env){n:Ty}(hn:WF aa n){args:List Vl}(hl:args.length<=100000):JB (mz env n args):=by
 obtain⟨r,hr,h⟩:=rv (n:=n) (args:=args) he hn hl;unfold mz;rw[hr];exact h
theorem mr(N:Nat)(op:Int):M.eH N op=some (decide (50<=op/\op<=53)):=by
 unfold M.eH
 by_cases h:50<=op<;>simp[h]
theorem m7(N:Nat)(op:Int):M.db N op=some (decide (¬cf op/\(50<=op/\op<=53\/0<=ar op))):=by
 unfold M.db;rw[Cm,mr,dN];simp only[X5];unfold cf;by_cases h:op=23\/op=24\/op=26
 .simp[h]
 .by_cases h2:50<=op/\op<=53
  .simp[h,h2]
  .simp[h,h2]
def gd(D:List Int)(k:Nat):Int:=D.getD k (-1)
theorem lM{D:List Int}{t:Nat}(ht:t<D.length)(d:Int)(k:Nat):gd (D.set t d) k=if k=t then d else gd D k:=by
 unfold gd Y3;by_cases h:k=t
 .subst h;rw[if_pos rfl,List.getElem?_set_self ht];rfl
 .rw[if_neg h,List.getElem?_set_ne (by omega)]
theorem dD{D:List Int}{t:Nat}(ht:t<D.length):idx D (t:Int)=some (gd D t):=by
 rw[ax ht];simp[gd,Y3,ht]
def Bd(D:List Int):Prop:=∀k,-1<=gd D k/\gd D k<=12
structure Mn(D D':List Int)(i:Nat):Prop where
 len:D'.length=D.length
 aO:∀k,0<=gd D k->gd D' k=gd D k
 low:∀k,k<=i->gd D' k=gd D k
theorem Mn.refl(D:List Int)(i:Nat):Mn D D i:=⟨rfl,fun _ _=>rfl,fun _ _=>rfl⟩
theorem Mn.trans{A B C:List Int}{i:Nat}(h:Mn A B i)(h':Mn B C i):Mn A C i:=
 ⟨h'.len.trans h.len,fun k hk=>by rw[h'.aO k (by rw[h.aO k hk];exact hk),h.aO k hk],fun k hk=>by rw[h'.low k hk,h.low k hk]⟩
theorem nY{N:Nat}{D:List Int}{t i:Nat}{d:Int}(ht:t<D.length)(lj:i<t)(hd:0<=d/\d<=12)(hB:Bd D):Wp (M.aH N (t:Int) d D) fun r=>(r.1=0->Mn D r.2 i/\Bd r.2/\gd r.2 t=d)/\(gd D t= -1->r=(0,D.set t d)):=by
 unfold M.aH;rw[dD ht];simp only[X5,ak];by_cases h0:0<=gd D t
 .rw[decide_eq_true h0];simp only[if_true];by_cases h1:gd D t=d
  .rw[if_neg (by simp[h1])]
   refine .some ⟨fun _=>⟨⟨by simp[aQ],fun k _=>?_,fun k hk=>?_⟩,fun k=>?_,?_⟩,fun h=>by omega⟩<;>simp only[aQ,Yg,lM ht]
   .split
    .rename_i h;rw[h,h1]
    .rfl
   .rw[if_neg (by omega)]
   .split
    .omega
    .exact hB k
   .simp
  .rw[if_pos (by simp[h1])];exact .some ⟨fun h=>by simp at h,fun h=>by omega⟩
 .rw[decide_eq_false h0];simp only[X8,if_false]
  refine .some ⟨fun _=>⟨⟨by simp[aQ],fun k hk=>?_,fun k hk=>?_⟩,fun k=>?_,?_⟩,fun h=>by simp[aQ]⟩<;>simp only[aQ,Yg,lM ht]
  .rw[if_neg (fun h=>by rw[h]at hk;exact h0 hk)]
  .rw[if_neg (by omega)]
  .split
   .omega
   .exact hB k
  .simp
def m8(len:Nat)(D:List Int)(j:Nat)(n:Ty):Prop:=
 ((n.1:Int)=51/\∃t:Nat,(n.2:Int)=t/\j<t/\t<=len/\gd D t=gd D j)\/
 (((n.1:Int)=50\/(n.1:Int)=52\/(n.1:Int)=53)/\1<=gd D j/\gd D (j+1)=gd D j-1/\∃t:Nat,(n.2:Int)=t/\j<t/\t<=len/\gd D t=if(n.1:Int)=50 then gd D j-1 else gd D j)\/
 ((n.1:Int)≠51/\¬((n.1:Int)=50\/(n.1:Int)=52\/(n.1:Int)=53)/\0<=ar n.1/\ar n.1<=gd D j/\gd D (j+1)=gd D j-ar n.1+1/\gd D j-ar n.1+1<=12)
theorem m8.mono{len j i:Nat}{D D':List Int}{n:Ty}(h:m8 len D j n)(hj:0<=gd D j)(m:Mn D D' i):m8 len D' j n:=by
 have e:=m.aO j hj
 rcases h with⟨h1,t,h2,h3,h4,h5⟩|⟨h1,h2,h3,t,h4,h5,h6,h7⟩|⟨h1,h2,h3,h4,h5,h6⟩
 .exact .inl ⟨h1,t,h2,h3,h4,by rw[m.aO t (by omega),h5,e]⟩
 .have e1:=m.aO (j+1) (by omega);have e2:=m.aO t (by rw[h7];split<;>omega);exact .inr (.inl ⟨h1,by omega,by omega,t,h4,h5,h6,by rw[e2,e];exact h7⟩)
 .have e1:=m.aO (j+1) (by omega);exact .inr (.inr ⟨h1,h2,h3,by omega,by omega,by omega⟩)
theorem An{N:Nat}{code:List Ty}{D:List Int}{i:Nat}(hl:code.length<=128)(hi:i<code.length)(hD:D.length=code.length+1)(hB:Bd D)(h0:0<=gd D i):Wp (M.aX N code (i:Int) code[i] D) fun r=>r.1=0->Mn D r.2 i/\Bd r.2/\m8 code.length r.2 i code[i]/\¬cf code[i].1:=by
 unfold M.aX;generalize code[i]=n;obtain⟨(op:Int),(m:Int)⟩:=n;dsimp only[ae,Row.den]at*;have CZ:=lK op;have XZ:=hB i;rw[m7,mr,dD (by omega),dN,Cm];simp only[X5,ak];by_cases c1:¬cf op/\(50<=op/\op<=53\/0<=ar op)
 case neg=>
  rw[decide_eq_false c1];simp only[YC,if_true]
  exact .some fun h=>by simp at h
 rw[decide_eq_true c1];simp only[Yp,X8,if_false];by_cases c2:50<=op/\op<=53
 .rw[decide_eq_true c2];simp only[if_true];by_cases c3:m<=i\/(code.length:Int)<m
  .have:(if decide (m<=(i:Int))=true then true else decide ((code.length:Int)<m))=true:=by
    rcases c3 with c|c<;>simp[c]
   rw[if_pos this]
   exact .some fun h=>by simp at h
  have hc:(if decide (m<=(i:Int))=true then true else decide ((code.length:Int)<m))=false:=by
   rw[if_neg (by simp;omega)];simp;omega
  rw[if_neg (by rw[hc];simp)]
  obtain⟨t,rfl⟩:∃t:Nat,m=t:=⟨m.toNat,by omega⟩
  refine Wp.dec (fun c4=>?_) fun c4=>?_
  .refine Wp.seq _ (nY (t:=t) (i:=i) (by omega) (by omega) (by omega) hB) fun r hr=> .some fun h=>?_
   obtain⟨a1,a2,a3⟩:=hr.1 h;exact⟨a1,a2, .inl ⟨c4,t,rfl,by omega,by omega,by rw[a3,a1.low i (Yd _)]⟩,c1.1⟩
  refine Wp.dec (fun c5=>?_) fun c5=>by omega
  refine Wp.dec (fun c6=> .some fun h=>by simp at h) fun c6=>?_
  have w1:X6.wrap (gd D i-1)=gd D i-1:=ag (by omega) (by omega);rw[w1,al (by omega)]
  refine Wp.seq _ (nY (t:=i+1) (i:=i) (by omega) (by omega) (by omega) hB) fun r hr=>?_
  refine Wp.nN (fun c7=> .some fun h=>absurd h c7) fun c7=>?_
  obtain⟨a1,a2,a3⟩:=hr.1 c7;have Jy:=a1.low i (Yd _)
  refine Wp.seq _ (nY (D:=r.2) (t:=t) (i:=i) (by rw[a1.len];omega) (by omega) (by split<;>omega) a2) fun r' pC=> .some fun h=>?_
  obtain⟨b1,b2,b3⟩:=pC.1 h;refine⟨a1.trans b1,b2, .inr (.inl ⟨c5,?_,?_,t,rfl,by omega,by omega,?_⟩),c1.1⟩
  .rw[b1.low i (Yd _)];show 1<=gd r.2 i;omega
  .show gd r'.2 (i+1)=gd r'.2 i-1
   rw[b1.low i (Yd _),b1.aO (i+1) (by omega)];omega
  .show gd r'.2 t=if op=50 then gd r'.2 i-1 else gd r'.2 i
   rw[b1.low i (Yd _),b3,Jy]
   by_cases Fh:op=50<;>simp[Fh]
 .rw[decide_eq_false c2];simp only[X8,if_false]
  refine Wp.dec (fun c4=>by omega) fun c4=>?_
  refine Wp.dec (fun c5=>by omega) fun c5=>?_
  refine Wp.dec (fun c6=> .some fun h=>by simp at h) fun c6=>?_
  have w1:X6.wrap (gd D i-ar op)=gd D i-ar op:=ag (by omega) (by omega);have w2:X6.wrap (gd D i-ar op+1)=gd D i-ar op+1:=ag (by omega) (by omega);rw[w1,w2]
  refine Wp.dec (fun c7=> .some fun h=>by simp at h) fun c7=>?_
  rw[al (by omega)]
  refine Wp.seq _ (nY (t:=i+1) (i:=i) (by omega) (by omega) (by omega) hB) fun r hr=> .some fun h=>?_
  obtain⟨a1,a2,a3⟩:=hr.1 h;have Jy:=a1.low i (Yd _);exact⟨a1,a2, .inr (.inr ⟨c4,c5,by show 0<=ar op;omega,by show ar op<=gd r.2 i;omega,by show gd r.2 (i+1)=gd r.2 i-ar op+1;omega,by show gd r.2 i-ar op+1<=12;omega⟩),c1.1⟩
structure Fits(code:List Ty)(F:List Int):Prop where
 pos:0<code.length
 le:code.length<=128
 len:F.length=code.length+1
 bd:Bd F
 first:gd F 0=0
 last:gd F code.length=1
 step:∀j(h:j<code.length),0<=gd F j->m8 code.length F j code[j]/\¬cf code[j].1
theorem zc(n k:Nat):gd (Yf n (-1)) k= -1:=by
 unfold gd Y3;by_cases h:k<n
 .simp[h]
 .rw[List.getElem?_eq_none (by simp;omega)];rfl
theorem xk(code:List Ty):Wp (M.cX az code) fun y=>y.2=0->∃F,Fits code F:=by
 unfold M.cX
 refine Wp.dec (fun h=> .some fun h=>by simp at h) fun h1=>?_
 refine Wp.dec (fun h=> .some fun h=>by simp at h) fun h2=>?_
 have hl:code.length<=128:=by omega
 have hp:0<code.length:=by omega
 rw[al (by omega)]
 have yA:rK ((code.length+1:Nat):Int) (0:Int)=some (Yf (code.length+1) 0):=by
  unfold rK;rw[if_pos (by omega),Yg]
 rw[yA];simp only[X5];refine Wp.seq (· =Yf (code.length+1) (-1:Int)) ?_ ?_
 .refine Wp.loop (fun s:Int×List Int=>∃k m:Nat,s=((k:Int),Yf k (-1)++Yf m 0)/\k+m=code.length+1) (fun s=>(code.length+1-s.1).toNat) ⟨0,code.length+1,by simp,by omega⟩ (by unfold az;simp only;omega) ?_
  rintro _ ⟨k,m,rfl,hk⟩
  simp only[List.length_replicate]
  refine Wp.dec (fun h=>?_) fun h=> .some ?_
  .obtain⟨m,rfl⟩:∃m',m=m'+1:=⟨m-1,by omega⟩
   rw[ax (by simp)];simp only[X5];rw[al (by omega)];refine .some ⟨⟨k+1,m,?_,by omega⟩,by simp only;omega⟩;refine Prod.ext rfl ?_;simp only[aQ,Yg];rw[List.set_append_right _ _ (by simp),YX];simp[List.replicate_succ']
  .obtain rfl:m=0:=by omega
   obtain rfl:k=code.length+1:=by omega
   show _=_
   simp
 rintro _ rfl
 have e1:idx (Yf (code.length+1) (-1:Int)) 0=some (-1):=by rw[YX];rfl
 rw[e1];simp only[X5];have e0:aQ (Yf (code.length+1) (-1:Int)) (0:Int) (0:Int)=(Yf (code.length+1) (-1:Int)).set 0 0:=rfl;rw[e0]
 have g0:∀k,gd ((Yf (code.length+1) (-1:Int)).set 0 0) k=if k=0 then 0 else-1:=fun k=>by
  rw[lM (by simp),zc]
 refine Wp.join (Wp.loop (fun s:Int×Int×List Int=>∃i:Nat,s.2.1=i/\i<=code.length/\s.2.2.length=code.length+1/\Bd s.2.2/\gd s.2.2 0=0/\∀j(h:j<code.length),j<i->0<=gd s.2.2 j->m8 code.length s.2.2 j code[j]/\¬cf code[j].1) (fun s=>(code.length-s.2.1).toNat) ⟨0,rfl,Yk _,by simp,fun k=>?_,?_,fun j _ h=>by omega⟩ (by unfold az;simp only;omega) ?_)
 .simp only[g0];split<;>omega
 .simp only[g0];rfl
 rintro⟨g,at',D⟩ ⟨i,oZ,hi,hD,hB,hz,hs⟩
 dsimp only at oZ hi hD hB hz hs⊢;subst oZ
 refine Wp.dec (fun aW=>?_) fun hge=> .some ?_
 .have aW:i<code.length:=by omega
  rw[al (by omega),ax aW,dD (by omega)];simp only[X5];refine Wp.join ?_
  refine Wp.dec (fun QA=> .some ?_) fun nl=>?_
  .refine Wp.some ?_;refine⟨⟨i+1,rfl,aW,hD,hB,hz,fun j h hj h0=>hs j h ?_ h0⟩,by simp only;omega⟩
   rcases YN j i with h'|h'
   .exact h'
   .have:j=i:=by omega
    subst this;dsimp only at h0;omega
  .refine Wp.seq _ (An hl aW hD hB (by omega)) fun r hr=>?_
   refine Wp.nN (fun bu=> .some ?_) fun mP=> .some ?_
   .exact(fun h=>absurd h bu:r.1=0->∃F,Fits code F)
   .obtain⟨a1,a2,a3,a4⟩:=hr mP;refine Wp.some ?_;refine⟨⟨i+1,rfl,aW,by rw[<-hD];exact a1.len,a2,by rw[<-hz];exact a1.low 0 (Yk _),fun j h hj h0=>?_⟩,by simp only;omega⟩
    rcases YN j i with h'|h'
    .have e:=a1.low j (by omega)
     have RK:0<=gd D j:=by rw[<-e];exact h0
     obtain⟨b1,b2⟩:=hs j h h' RK;exact⟨b1.mono RK a1,b2⟩
    .have:j=i:=by omega
     subst this;exact⟨a3,a4⟩
 .obtain rfl:i=code.length:=by omega
  show Wp ((idx D (code.length:Int)).bind _) _
  rw[dD (by omega)];simp only[X5]
  refine Wp.dec (fun h=> .some fun h=>by simp at h) fun h3=>?_
  refine Wp.dec (fun h=> .some fun h=>by simp at h) fun h4=> .some fun _=>⟨D,hp,hl,hD,hB,hz,by omega,fun j h h0=>hs j h h h0⟩
structure Cs(F D:List Int):Prop where
 len:D.length=F.length
 ok:∀k,gd D k= -1\/gd D k=gd F k
theorem Cs.set{F D:List Int}(c:Cs F D){t:Nat}(ht:t<F.length):Cs F (D.set t (gd F t)):=by
 refine⟨by rw[List.length_set,c.len],fun k=>?_⟩;rw[lM (by rw[c.len];exact ht)];split
 .rename_i h;rw[h];exact .inr rfl
 .exact c.ok k
theorem p4{N:Nat}{F D:List Int}(c:Cs F D){t:Nat}(ht:t<F.length):M.aH N (t:Int) (gd F t) D=some (0,D.set t (gd F t)):=by
 have WW:t<D.length:=by rw[c.len];exact ht
 unfold M.aH;rw[dD WW];simp only[X5,ak]
 rcases c.ok t with h|h
 .rw[h];rfl
 .rw[h]
  by_cases h0:0<=gd F t<;>simp[h0,aQ]
theorem JH{N:Nat}{code:List Ty}{F D:List Int}(f:Fits code F)(c:Cs F D){i:Nat}(hi:i<code.length)(h0:gd D i=gd F i)(hp:0<=gd F i):Wp (M.aX N code (i:Int) code[i] D) fun r=>r.1=0/\Cs F r.2/\∃t,i<t/\t<=code.length/\0<=gd r.2 t:=by
 have hle:=f.le;have QB:=f.len;have WX:=c.len;have hb:=f.bd i;have zx:=f.bd (i+1);obtain⟨hs,Mi⟩:=f.step i hi hp;unfold M.aX;generalize code[i]=n at*;obtain⟨(op:Int),(m:Int)⟩:=n;dsimp only[ae,Row.den]at*;have CZ:=lK op;rw[m7,mr,dD (by omega),dN,Cm,h0];simp only[X5]
 have e0:(50<=op/\op<=53\/0<=ar op)->(50<=op/\op<=53->(i:Int)<m/\m<=(code.length:Int))->(if(!decide (¬cf op/\(50<=op/\op<=53\/0<=ar op)))=true then some true else(if decide (50<=op/\op<=53)=true then(if decide (m<=(i:Int))=true then some true else some (decide ((code.length:Int)<m)))else some false))=some false:=by
  intro g1 g2;rw[decide_eq_true (show¬cf op/\(50<=op/\op<=53\/0<=ar op)from⟨Mi,g1⟩),if_neg (by simp)];by_cases g:50<=op/\op<=53
  .obtain⟨g3,g4⟩:=g2 g;rw[decide_eq_true g,if_pos rfl,decide_eq_false (by omega),if_neg (by simp),decide_eq_false (by omega)]
  .rw[decide_eq_false g,if_neg (by simp)]
 rcases hs with⟨h1,t,h2,h3,h4,h5⟩|⟨h1,h2,h3,t,h4,h5,h6,h7⟩|⟨h1,h2,h3,h4,h5,h6⟩
 .dsimp only[ae,Row.den]at*;subst h2;rw[e0 (.inl (by omega)) (fun _=>by omega)];simp only[X5,X8,if_false]
  refine Wp.dec (fun _=>?_) fun h=>absurd h1 h
  rw[<-h5,p4 c (by omega)];refine .some ⟨rfl,c.set (by omega),t,h3,h4,?_⟩
  show 0<=gd (D.set t (gd F t)) t
  rw[lM (by omega),if_pos rfl];omega
 .dsimp only[ae,Row.den]at*;subst h4;rw[e0 (.inl (by omega)) (fun _=>by omega)];simp only[X5,X8,if_false]
  refine Wp.dec (fun h=>by omega) fun _=>?_
  refine Wp.dec (fun _=>?_) fun h=>absurd h1 h
  refine Wp.dec (fun h=>by omega) fun _=>?_
  have w1:X6.wrap (gd F i-1)=gd F (i+1):=by rw[ag (by omega) (by omega),h3]
  rw[w1,al (by omega),p4 c (by omega)];have c1:=c.set (t:=i+1) (by omega);simp only[X5]
  refine Wp.nN (fun h=>absurd trivial h) fun _=>?_
  have e7:(if decide (op=50)=true then some (gd F (i+1))else some (gd F i))=some (gd F t):=by
   by_cases Fh:op=50
   .rw[decide_eq_true Fh,if_pos rfl,h7,if_pos Fh,h3]
   .rw[decide_eq_false Fh,if_neg (by simp),h7,if_neg Fh]
  rw[e7];simp only[X5];rw[p4 c1 (by omega)];have c2:=c1.set (t:=t) (by omega);refine .some ⟨rfl,c2,t,h5,h6,?_⟩
  show 0<=gd (((D.set (i+1) (gd F (i+1)))).set t (gd F t)) t
  rw[lM (by rw[List.length_set];omega),if_pos rfl,h7]
  split<;>omega
 .dsimp only[ae,Row.den]at*
  have fQ:¬(50<=op/\op<=53):=by
   intro h
   have:op=50\/op=51\/op=52\/op=53:=by omega
   omega
  rw[e0 (.inr h3) (fun h=>absurd h fQ)];simp only[X5,X8,if_false]
  refine Wp.dec (fun h=>absurd h h1) fun _=>?_
  refine Wp.dec (fun h=>absurd h h2) fun _=>?_
  refine Wp.dec (fun h=>by omega) fun _=>?_
  have w1:X6.wrap (gd F i-ar op)=gd F i-ar op:=ag (by omega) (by omega)
  have w2:X6.wrap (gd F i-ar op+1)=gd F (i+1):=by rw[ag (by omega) (by omega),h5]
  rw[w1,w2]
  refine Wp.dec (fun h=>by omega) fun _=>?_
  rw[al (by omega),p4 c (by omega)];refine .some ⟨rfl,c.set (by omega),i+1,by omega,by omega,?_⟩
  show 0<=gd (D.set (i+1) (gd F (i+1))) (i+1)
  rw[lM (by omega),if_pos rfl];omega
theorem Fits.verify{code:List Ty}{F:List Int}(f:Fits code F):Wp (M.cX az code) fun y=>y.2=0:=by
 have hl:=f.le;have hp:=f.pos;have QB:=f.len;unfold M.cX
 refine Wp.dec (fun h=>by omega) fun h1=>?_
 refine Wp.dec (fun h=>by omega) fun h2=>?_
 rw[al (by omega)]
 have yA:rK ((code.length+1:Nat):Int) (0:Int)=some (Yf (code.length+1) 0):=by
  unfold rK;rw[if_pos (by omega),Yg]
 rw[yA];simp only[X5];refine Wp.seq (· =Yf (code.length+1) (-1:Int)) ?_ ?_
 .refine Wp.loop (fun s:Int×List Int=>∃k m:Nat,s=((k:Int),Yf k (-1)++Yf m 0)/\k+m=code.length+1) (fun s=>(code.length+1-s.1).toNat) ⟨0,code.length+1,by simp,by omega⟩ (by unfold az;simp only;omega) ?_
  rintro _ ⟨k,m,rfl,hk⟩
  simp only[List.length_replicate]
  refine Wp.dec (fun h=>?_) fun h=> .some ?_
  .obtain⟨m,rfl⟩:∃m',m=m'+1:=⟨m-1,by omega⟩
   rw[ax (by simp)];simp only[X5];rw[al (by omega)];refine .some ⟨⟨k+1,m,?_,by omega⟩,by simp only;omega⟩;refine Prod.ext rfl ?_;simp only[aQ,Yg];rw[List.set_append_right _ _ (by simp),YX];simp[List.replicate_succ']
  .obtain rfl:m=0:=by omega
   obtain rfl:k=code.length+1:=by omega
   show _=_
   simp
 rintro _ rfl
 have e1:idx (Yf (code.length+1) (-1:Int)) 0=some (-1):=by rw[YX];rfl
 rw[e1];simp only[X5];have e0:aQ (Yf (code.length+1) (-1:Int)) (0:Int) (0:Int)=(Yf (code.length+1) (-1:Int)).set 0 0:=rfl;rw[e0]
 have g0:∀k,gd ((Yf (code.length+1) (-1:Int)).set 0 0) k=if k=0 then 0 else-1:=fun k=>by
  rw[lM (by simp),zc]
 refine Wp.join (Wp.loop (fun s:Int×Int×List Int=>∃i:Nat,s.2.1=i/\i<=code.length/\Cs F s.2.2/\∃k,i<=k/\k<=code.length/\0<=gd s.2.2 k) (fun s=>(code.length-s.2.1).toNat) ⟨0,rfl,Yk _,⟨by simp[QB],fun k=>?_⟩,0,Yd _,Yk _,?_⟩ (by unfold az;simp only;omega) ?_)
 .simp only[g0];split
  .rename_i h;rw[h,f.first];exact .inr rfl
  .exact .inl rfl
 .simp only[g0];decide
 rintro⟨g,at',D⟩ ⟨i,oZ,hi,hc,k,BJ,FB,MM⟩
 dsimp only at oZ hi hc MM⊢;subst oZ;have WX:=hc.len
 refine Wp.dec (fun aW=>?_) fun hge=> .some ?_
 .have aW:i<code.length:=by omega
  rw[al (by omega),ax aW,dD (by omega)];simp only[X5];refine Wp.join ?_
  refine Wp.dec (fun QA=> .some ?_) fun nl=>?_
  .refine Wp.some ⟨⟨i+1,rfl,aW,hc,k,?_,FB,MM⟩,by simp only;omega⟩;by_cases e:k=i
   .subst e;omega
   .omega
  have WY:gd D i=gd F i:=(hc.ok i).resolve_left (by omega)
  refine Wp.seq _ (JH f hc aW WY (by omega)) fun r hr=>?_
  obtain⟨r1,r2,t,r3,r4,r5⟩:=hr
  refine Wp.nN (fun h=>absurd r1 h) fun _=> .some ?_
  exact Wp.some ⟨⟨i+1,rfl,aW,r2,t,r3,r4,r5⟩,by simp only;omega⟩
 .obtain rfl:i=code.length:=by omega
  show Wp ((idx D (code.length:Int)).bind _) _
  obtain rfl:k=code.length:=by omega
  rw[dD (by omega),(hc.ok _).resolve_left (by omega),f.last];exact .some rfl
end L
end Go.Proofs.YtlfjlhcigpejdaaGreatDoor
end
section
open _root_.List renaming getElem?_eq_getElem->X9,length_append->Yr,length_singleton->Y6,length_take->Y2
open _root_.Nat renaming min_eq_left->YY
namespace Go.Proofs.YtlfjlhcigpejdaaGreatDoor
open Go Go.RowKit
set_option maxRecDepth 100000
namespace L
def Fi(n:Ty)(top:Vl):Bool:=decide (decide ((top.2.2:Int)=1)=decide ((n.1:Int)=53))
inductive eI(code:List Ty)(env:aP.den):Nat->List Vl->Vl×Int->Prop
 |done {v:Vl} {S:List Vl}:eI code env code.length (v::S) (v,0)
 |jump {p t:Nat} {S:List Vl} {r:Vl×Int} {n:Ty} (h:code[p]? =some n) (gW:(n.1:Int)=51) (ht:(n.2:Int)=t) (JI:p<t) (zA:t<=code.length) (next:eI code env t S r):eI code env p S r
 |op {p a:Nat} {S:List Vl} {r:Vl×Int} {n:Ty} (h:code[p]? =some n) (bu:¬(50<=(n.1:Int)/\(n.1:Int)<=53)) (ha:ar n.1=a) (hs:a<=S.length) (h0:(mz env n (S.drop (S.length-a))).2=0) (next:eI code env (p+1) (S.take (S.length-a)++[(mz env n (S.drop (S.length-a))).1]) r):eI code env p S r
 |fail {p a:Nat} {S:List Vl} {n:Ty} (h:code[p]? =some n) (bu:¬(50<=(n.1:Int)/\(n.1:Int)<=53)) (ha:ar n.1=a) (hs:a<=S.length) (h0:(mz env n (S.drop (S.length-a))).2≠0):eI code env p S (z3,(mz env n (S.drop (S.length-a))).2)
 |cond {p t:Nat} {S:List Vl} {r:Vl×Int} {n:Ty} {top:Vl} (h:code[p]? =some n) (fQ:(n.1:Int)=50\/(n.1:Int)=52\/(n.1:Int)=53) (ht:(n.2:Int)=t) (JI:p<t) (zA:t<=code.length) (hk:(top.1:Int)=1) (hv:(top.2.2:Int)=0\/(top.2.2:Int)=1) (next:eI code env (if Fi n top=true then t else p+1) (if Fi n top=false\/(n.1:Int)=50 then S else S++[top]) r):eI code env p (S++[top]) r
 |cbad {p:Nat} {S:List Vl} {n:Ty} {top:Vl} (h:code[p]? =some n) (fQ:(n.1:Int)=50\/(n.1:Int)=52\/(n.1:Int)=53) (hk:¬((top.1:Int)=1/\((top.2.2:Int)=0\/(top.2.2:Int)=1))):eI code env p (S++[top]) (z3,8)
theorem Fits.runs{code:List Ty}{F:List Int}{env:aP.den}(f:Fits code F):∀(m p:Nat)(S:List Vl),code.length-p<=m->p<=code.length->gd F p=S.length->∃r,eI code env p S r:=by
 intro m
 induction m with
 |zero=>
  intro p S hm hp hS
  obtain rfl:p=code.length:=by omega
  have hl:=f.last
  cases S with
  |nil=>simp at hS;omega
  |cons v S=>exact⟨_, .done⟩
 |succ m ih=>
  intro p S hm hp hS;by_cases aW:p<code.length
  case neg=>
   obtain rfl:p=code.length:=by omega
   have hl:=f.last
   cases S with
   |nil=>simp at hS;omega
   |cons v S=>exact⟨_, .done⟩
  have hge:=X9 aW
  rcases(f.step p aW (by omega)).1 with⟨h1,t,h2,h3,h4,h5⟩|⟨h1,h2,h3,t,h4,h5,h6,h7⟩|⟨h1,h2,h3,h4,h5,h6⟩
  .obtain⟨r,hr⟩:=ih t S (by omega) h4 (by omega);exact⟨r, .jump hge h1 h2 h3 h4 hr⟩
  .rcases List.eq_nil_or_concat S with rfl|⟨S',top,rfl⟩
   .simp at hS;omega
   simp only[List.concat_eq_append]at hS⊢;rw[Yr,Y6]at hS;by_cases hg:(top.1:Int)=1/\((top.2.2:Int)=0\/(top.2.2:Int)=1)
   .obtain⟨r,hr⟩:=ih (if Fi code[p] top=true then t else p+1) (if Fi code[p] top=false\/(code[p].1:Int)=50 then S' else S'++[top]) (by split<;>omega) (by split<;>omega) (by
     by_cases hj:Fi code[p] top=true
     .rw[if_pos hj,h7];by_cases Fh:(code[p].1:Int)=50
      .rw[if_pos Fh,if_pos (.inr Fh)];omega
      .rw[if_neg Fh,if_neg (by simp[hj,Fh]),Yr,Y6];omega
     .rw[if_neg hj,if_pos (.inl (by simpa using hj)),h3];omega)
    exact⟨r, .cond hge h1 h4 h5 h6 hg.1 hg.2 hr⟩
   .exact⟨_, .cbad hge h1 hg⟩
  .obtain⟨a,ha⟩:∃a:Nat,ar code[p].1=a:=⟨(ar code[p].1).toNat,by omega⟩
   have Ip:¬(50<=(code[p].1:Int)/\(code[p].1:Int)<=53):=by
    generalize(code[p].1:Int)=o at h1 h2;dsimp only[ae,Row.den]at*;omega
   by_cases h0:(mz env code[p] (S.drop (S.length-a))).2=0
   .obtain⟨r,hr⟩:=ih (p+1) (S.take (S.length-a)++[(mz env code[p] (S.drop (S.length-a))).1]) (by omega) aW (by
     rw[h5,Yr,Y2,Y6,YY (by omega)];omega)
    exact⟨r, .op hge Ip ha (by omega) h0 hr⟩
   .exact⟨_, .fail hge Ip ha (by omega) h0⟩
end L
end Go.Proofs.YtlfjlhcigpejdaaGreatDoor
end
