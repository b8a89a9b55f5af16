/- Joined texts: PT PT2 PT3 PX PX3 PX5 PS PM PX6 PY PX7. -/
import Derived.Test.YtmihpkfkbfgigaaGreatDoorU8
section
open _root_.Bool renaming and_eq_true->ani,false_eq_true->al2
open _root_.Int renaming tdiv->amh,toNat_of_nonneg->ana
open _root_.Go.IntKind renaming i64->alT,u64->al3
open _root_.Nat renaming beq->al4,div_div_eq_div_mul->anI,mul_le_mul_right->ams,pow_add->anM
open _root_.Option renaming bind_some->alS
namespace Go.Proofs.YtmihpkfkbfgigaaGreatDoor
open Go Go.RowKit
set_option maxRecDepth 100000
namespace L.P
theorem w8{n:Int}(h0:0<=n)(h1:n<18446744073709551616):al3.wrap n=n:=by
 simp[IntKind.wrap,IntKind.bits,IntKind.signed];omega
theorem AJ(n:Int):al3.wrap n=n%18446744073709551616:=by
 simp[IntKind.wrap,IntKind.bits,IntKind.signed]
theorem mc(n:Int):0<=al3.wrap n/\al3.wrap n<18446744073709551616:=by rw[AJ];omega
theorem Qz(a:Int):gp .u64 a 32=a/4294967296:=by
 unfold gp;rw[show min (32:Int).toNat al3.bits=32 from rfl];exact Int.fdiv_eq_ediv_of_nonneg _ (by decide)
theorem Wz(a:Int):gp .u64 a 16=a/65536:=by
 unfold gp;rw[show min (16:Int).toNat al3.bits=16 from rfl];exact Int.fdiv_eq_ediv_of_nonneg _ (by decide)
theorem ade(a:Int):gp .u64 a 8=a/256:=by
 unfold gp;rw[show min (8:Int).toNat al3.bits=8 from rfl];exact Int.fdiv_eq_ediv_of_nonneg _ (by decide)
def AK:ByteArray:=(⟨#[0,1,2,2,3,3,3,3,4,4,4,4,4,4,4,4,5,5,5,5,5,5,5,5,5,5,5,5,5,5,5,5,6,6,6,6,6,6,6,6,6,6,6,6,6,6,6,6,6,6,6,6,6,6,6,6,6,6,6,6,6,6,6,6,7,7,7,7,7,7,7,7,7,7,7,7,7,7,7,7,7,7,7,7,7,7,7,7,7,7,7,7,7,7,7,7,7,7,7,7,7,7,7,7,7,7,7,7,7,7,7,7,7,7,7,7,7,7,7,7,7,7,7,7,7,7,7,7,8,8,8,8,8,8,8,8,8,8,8,8,8,8,8,8,8,8,8,8,8,8,8,8,8,8,8,8,8,8,8,8,8,8,8,8,8,8,8,8,8,8,8,8,8,8,8,8,8,8,8,8,8,8,8,8,8,8,8,8,8,8,8,8,8,8,8,8,8,8,8,8,8,8,8,8,8,8,8,8,8,8,8,8,8,8,8,8,8,8,8,8,8,8,8,8,8,8,8,8,8,8,8,8,8,8,8,8,8,8,8,8,8,8,8,8,8,8,8,8,8,8,8,8,8,8,8,8]⟩:ByteArray)
def QA(n:Nat):Bool:=match lI AK n with
 |some k=>decide (0<=k)&&decide (k<=8)&&decide (n<2 ^ k.toNat)&&(al4 n 0||(decide (1<=k)&&decide (2 ^ (k.toNat-1)<=n)))
 |none=>false
theorem OW:(List.range 256).all QA=true:=by kernel_rfl
theorem AF{n:Nat}(h:n<256):∃k:Nat,lI AK n=some (k:Int)/\k<=8/\n<2 ^ k/\(n≠0->1<=k/\2 ^ (k-1)<=n):=by
 have:=List.all_eq_true.1 OW n (List.mem_range.2 h);unfold QA at this;split at this
 case h_2=>cases this
 rename_i k hk;simp only[ani,Bool.or_eq_true,decide_eq_true_eq,Nat.beq_eq]at this;obtain⟨⟨⟨h1,h2⟩,h3⟩,h4⟩:=this;refine⟨k.toNat,by rw[hk,ana h1],by omega,h3,fun hn=>?_⟩
 rcases h4 with h4|h4
 .exact absurd h4 hn
 .exact⟨by omega,h4.2⟩
theorem Su{m b k:Nat}(h:m/2 ^ b<2 ^ k):m<2 ^ (b+k):=by
 rw[Nat.div_lt_iff_lt_mul (Nat.two_pow_pos b)]at h;rw[anM,Nat.mul_comm];exact h
theorem Sv{m b k:Nat}(hk:1<=k)(h:2 ^ (k-1)<=m/2 ^ b):2 ^ (b+k-1)<=m:=by
 rw[Nat.le_div_iff_mul_le (Nat.two_pow_pos b)]at h;rw[show b+k-1=k-1+b by omega,anM];exact h
theorem L3{N m:Nat}(hm:m<18446744073709551616):∃L:Nat,M.kc N m=some (L:Int)/\L<=64/\m<2 ^ L/\(m≠0->1<=L/\2 ^ (L-1)<=m):=by
 have fin:∀(b q:Nat)(w:Int),q=m/2 ^ b->w=b->b<=56->q<256->(m≠0->q≠0)->∃L:Nat,((lI AK (IntKind.u8.wrap (q:Int))).bind fun x4=>some (alT.wrap (w+alT.wrap x4)))=some (L:Int)/\L<=64/\m<2 ^ L/\(m≠0->1<=L/\2 ^ (L-1)<=m):=by
  intro b q w hq hw hb h1 h2;subst hq;subst hw;obtain⟨k,g1,g2,g3,g4⟩:=AF h1
  have hu:IntKind.u8.wrap ((m/2 ^ b:Nat):Int)=((m/2 ^ b:Nat):Int):=by
   simp only[IntKind.wrap,IntKind.bits,IntKind.signed];generalize m/2 ^ b=q at h1⊢;simp;omega
  refine⟨b+k,?_,by omega,Su g3,fun bR=>?_⟩
  .rw[hu,g1,alS,CR (by omega),<-Int.natCast_add,CR (by omega)]
  .obtain⟨g5,g6⟩:=g4 (h2 bR);exact⟨by omega,Sv g5 g6⟩
 have e32:((m:Int)/4294967296)=((m/2 ^ 32:Nat):Int):=by rw[show(2 ^ 32:Nat)=4294967296 from rfl];omega
 have d48:m/2 ^ 32/2 ^ 16=m/2 ^ 48:=by rw[anI,<-anM]
 have d40:m/2 ^ 32/2 ^ 8=m/2 ^ 40:=by rw[anI,<-anM]
 have d56:m/2 ^ 48/2 ^ 8=m/2 ^ 56:=by rw[anI,<-anM]
 have d24:m/2 ^ 16/2 ^ 8=m/2 ^ 24:=by rw[anI,<-anM]
 have c16:∀q:Nat,((q:Int)/65536)=((q/2 ^ 16:Nat):Int):=fun q=>by rw[show(2 ^ 16:Nat)=65536 from rfl];omega
 have c8:∀q:Nat,((q:Int)/256)=((q/2 ^ 8:Nat):Int):=fun q=>by rw[show(2 ^ 8:Nat)=256 from rfl];omega
 unfold M.kc;rw[show(⟨#[0,1,2,2,3,3,3,3,4,4,4,4,4,4,4,4,5,5,5,5,5,5,5,5,5,5,5,5,5,5,5,5,6,6,6,6,6,6,6,6,6,6,6,6,6,6,6,6,6,6,6,6,6,6,6,6,6,6,6,6,6,6,6,6,7,7,7,7,7,7,7,7,7,7,7,7,7,7,7,7,7,7,7,7,7,7,7,7,7,7,7,7,7,7,7,7,7,7,7,7,7,7,7,7,7,7,7,7,7,7,7,7,7,7,7,7,7,7,7,7,7,7,7,7,7,7,7,7,8,8,8,8,8,8,8,8,8,8,8,8,8,8,8,8,8,8,8,8,8,8,8,8,8,8,8,8,8,8,8,8,8,8,8,8,8,8,8,8,8,8,8,8,8,8,8,8,8,8,8,8,8,8,8,8,8,8,8,8,8,8,8,8,8,8,8,8,8,8,8,8,8,8,8,8,8,8,8,8,8,8,8,8,8,8,8,8,8,8,8,8,8,8,8,8,8,8,8,8,8,8,8,8,8,8,8,8,8,8,8,8,8,8,8,8,8,8,8,8,8,8,8,8,8,8,8,8]⟩:ByteArray)=AK from rfl];simp only[Qz,Wz,ade,e32,c16,c8];by_cases h1:4294967296<=m
 .have a1:decide ((4294967296:Int)<=(m:Int))=true:=by simp;omega
  simp only[a1,if_true,alS,c16,d48];by_cases h2:65536<=m/2 ^ 32
  .have a2:decide ((65536:Int)<=((m/2 ^ 32:Nat):Int))=true:=by simp;omega
   simp only[a2,if_true,alS,c8,d56];by_cases h3:256<=m/2 ^ 48
   .have a3:decide ((256:Int)<=((m/2 ^ 48:Nat):Int))=true:=by simp;omega
    simp only[a3,if_true,alS];exact fin 56 _ _ rfl (by kernel_rfl) (by omega) (by omega) (by omega)
   .have a3:decide ((256:Int)<=((m/2 ^ 48:Nat):Int))=false:=by simp;omega
    simp only[a3,al2,if_false,alS];exact fin 48 _ _ rfl (by kernel_rfl) (by omega) (by omega) (by omega)
  .have a2:decide ((65536:Int)<=((m/2 ^ 32:Nat):Int))=false:=by simp;omega
   simp only[a2,al2,if_false,alS,c8,d40];by_cases h3:256<=m/2 ^ 32
   .have a3:decide ((256:Int)<=((m/2 ^ 32:Nat):Int))=true:=by simp;omega
    simp only[a3,if_true,alS];exact fin 40 _ _ rfl (by kernel_rfl) (by omega) (by omega) (by omega)
   .have a3:decide ((256:Int)<=((m/2 ^ 32:Nat):Int))=false:=by simp;omega
    simp only[a3,al2,if_false,alS];exact fin 32 _ _ rfl (by kernel_rfl) (by omega) (by omega) (by omega)
 .have a1:decide ((4294967296:Int)<=(m:Int))=false:=by simp;omega
  simp only[a1,al2,if_false,alS,c16];by_cases h2:65536<=m
  .have a2:decide ((65536:Int)<=(m:Int))=true:=by simp;omega
   simp only[a2,if_true,alS,c8,d24];by_cases h3:256<=m/2 ^ 16
   .have a3:decide ((256:Int)<=((m/2 ^ 16:Nat):Int))=true:=by simp;omega
    simp only[a3,if_true,alS];exact fin 24 _ _ rfl (by kernel_rfl) (by omega) (by omega) (by omega)
   .have a3:decide ((256:Int)<=((m/2 ^ 16:Nat):Int))=false:=by simp;omega
    simp only[a3,al2,if_false,alS];exact fin 16 _ _ rfl (by kernel_rfl) (by omega) (by omega) (by omega)
  .have a2:decide ((65536:Int)<=(m:Int))=false:=by simp;omega
   simp only[a2,al2,if_false,alS,c8];by_cases h3:256<=m
   .have a3:decide ((256:Int)<=(m:Int))=true:=by simp;omega
    simp only[a3,if_true,alS];exact fin 8 _ _ rfl (by kernel_rfl) (by omega) (by omega) (by omega)
   .have a3:decide ((256:Int)<=(m:Int))=false:=by simp;omega
    simp only[a3,al2,if_false,alS];exact fin 0 m _ (by simp) (by kernel_rfl) (by omega) (by omega) (fun h=>h)
theorem WA(rh:Int)(h:0<=rh):(if rh<4294967296 then(4294967296-rh).toNat else 4294967297)<aB:=by
 unfold aB
 split<;>omega
theorem I9{hi lo y:Int}(h0:0<=hi)(h1:hi<y)(h2:y<18446744073709551616):∃r,M.dR aB hi lo y=some r:=by
 have key:Wp (M.dR aB hi lo y) fun _=>True:=by
  unfold M.dR;rw[if_neg (by simp;omega),if_neg (by simp;omega)]
  refine Wp.dec (fun _=>?_) fun bR=>?_
  .unfold zP HP;rw[if_neg (by omega),if_neg (by omega)];exact .some trivial
  .obtain⟨m,rfl⟩:∃m:Nat,y=m:=⟨y.toNat,by omega⟩
   obtain⟨L,g1,g2,g3,g4⟩:=L3 (N:=aB) (m:=m) (by omega);obtain⟨g4,g5⟩:=g4 (by omega);unfold M.gi;rw[g1]
   have hL:al3.wrap (alT.wrap ((64:Int)-(L:Int)))=((64-L:Nat):Int):=by
    rw[aJ (by omega) (by omega),w8 (by omega) (by omega)];omega
   have hL2:al3.wrap ((64:Int)-((64-L:Nat):Int))=(L:Int):=by rw[w8 (by omega) (by omega)];omega
   simp only[alS,hL,hL2]
   have gJ:∀a:Int,HN .u64 a ((64-L:Nat):Int)=some (zO .u64 a ((64-L:Nat):Int)):=fun a=>if_neg (by omega)
   have Sw:∀a:Int,HO .u64 a (L:Int)=some (gp .u64 a (L:Int)):=fun a=>if_neg (by omega)
   have adg:∀a:Int,HO .u64 a ((64-L:Nat):Int)=some (gp .u64 a ((64-L:Nat):Int)):=fun a=>if_neg (by omega)
   simp only[gJ,Sw,adg,alS,Qz]
   have hy:9223372036854775808<=zO .u64 (m:Int) ((64-L:Nat):Int)/\zO .u64 (m:Int) ((64-L:Nat):Int)<18446744073709551616:=by
    unfold zO;rw[show min (((64-L:Nat):Int).toNat) al3.bits=64-L by simp[IntKind.bits]]
    have e1:m*2 ^ (64-L)<2 ^ 64:=by
     calc m*2 ^ (64-L)<2 ^ L*2 ^ (64-L):=Nat.mul_lt_mul_of_pos_right g3 (Nat.two_pow_pos _)
      _=2 ^ 64:=by rw[<-anM];congr 1;omega
    have e2:2 ^ 63<=m*2 ^ (64-L):=by
     calc 2 ^ 63=2 ^ (L-1)*2 ^ (64-L):=by rw[<-anM];congr 1;omega
      _<=m*2 ^ (64-L):=ams _ g5
    have e3:((m:Int)*2 ^ (64-L))=((m*2 ^ (64-L):Nat):Int):=by simp
    rw[e3,w8 (by omega) (by omega)];omega
   generalize zO .u64 (m:Int) ((64-L:Nat):Int)=x4 at hy⊢
   have hyn:0<x4/4294967296/\x4/4294967296<4294967296:=by omega
   generalize x4/4294967296=yn at hyn⊢
   have quo:∀a:Int,zP a yn=some (amh a yn):=fun a=>if_neg (by omega)
   simp only[quo,alS]
   have inv:∀rh:Int,0<=rh->rh<18446744073709551616->¬4294967296<=al3.wrap (rh+yn)->(if al3.wrap (rh+yn)<4294967296 then(4294967296-al3.wrap (rh+yn)).toNat else 4294967297)<(if rh<4294967296 then(4294967296-rh).toNat else 4294967297):=by
    intro rh i1 i2 hc;rw[if_pos (by omega)];by_cases hr:rh<4294967296
    .rw[if_pos hr];have:al3.wrap (rh+yn)=rh+yn:=w8 (by omega) (by omega);rw[this]at hc⊢;omega
    .rw[if_neg hr];have:=mc (rh+yn);omega
   simp only[aF,pF,alS]
   refine Wp.seq (fun _=>True) (Wp.seq (fun _=>True) (Wp.loop (fun s:Int×Int=>0<=s.2/\s.2<18446744073709551616) (fun s=>if s.2<4294967296 then(4294967296-s.2).toNat else 4294967297) (mc _) (WA _ (mc _).1) ?_) fun _ _=> .some trivial) fun j9 _=>?_
   .rintro⟨q,rh⟩ ⟨i1,i2⟩
    refine .some ?_;split
    .split
     .trivial
     .rename_i hc;exact⟨mc _,inv rh i1 i2 (by simpa using hc)⟩
    .trivial
   refine Wp.seq (fun _=>True) (Wp.seq (fun _=>True) (Wp.loop (fun s:Int×Int=>0<=s.1/\s.1<18446744073709551616) (fun s=>if s.1<4294967296 then(4294967296-s.1).toNat else 4294967297) (mc _) (WA _ (mc _).1) ?_) fun _ _=> .some trivial) fun GG _=> .some trivial
   .rintro⟨rh,q⟩ ⟨i1,i2⟩
    refine .some ?_;split
    .split
     .trivial
     .rename_i hc;exact⟨mc _,inv rh i1 i2 (by simpa using hc)⟩
    .trivial
 obtain⟨x,hx,_⟩:=key;exact⟨x,hx⟩
theorem mP(N:Nat)(m:Int):M.fN N m=some (decide (0<=m)&&decide (m<=5)):=by
 unfold M.fN;simp only[aF,alS,mG]
theorem qt(N:Nat)(n l:Int):M.ed N n l=some (decide (l<n)||decide (n<alT.wrap (0-l))):=by
 unfold M.ed;simp only[aF,alS,pF]
theorem ll(N:Nat){n:Int}(h: -4611686018427387904<=n/\n<=4611686018427387904):M.dS N n=some (if n<0 then-n else n):=by
 unfold M.dS;simp only[aF];refine congrArg some ?_;by_cases hn:n<0
 .rw[if_pos (by simpa using hn),if_pos hn,AJ n,AJ];omega
 .rw[if_neg (by simpa using hn),if_neg hn,w8 (by omega) (by omega)]
end L.P
end Go.Proofs.YtmihpkfkbfgigaaGreatDoor
end
section
open _root_.Int renaming tdiv->amh,tdiv_eq_ediv_of_nonneg->amV,tmod->amy
open _root_.Go.IntKind renaming i64->alT
open _root_.Nat renaming zero_le->amj
open _root_.Option renaming bind_some->alS
namespace Go.Proofs.YtmihpkfkbfgigaaGreatDoor
open Go Go.RowKit
set_option maxRecDepth 100000
namespace L.P
def Cd(c:Int):Prop:=c=0\/c=3\/c=12
theorem AL{c:Prop}[Decidable c]{x y:Int×Int}(hx:Cd x.2)(hy:Cd y.2):Cd (if c then x else y).2:=by
 split
 .exact hx
 .exact hy
theorem zp(x:Int):Cd (x,(0:Int)).2:= .inl rfl
theorem Cd3(x:Int):Cd (x,(3:Int)).2:= .inr (.inl rfl)
theorem lm{n l:Int}(hl:0<=l/\l<=9000000000000000000)(h:¬(decide (l<n)||decide (n<alT.wrap (0-l)))=true): -l<=n/\n<=l:=by
 rw[aJ (by omega) (by omega)]at h;simp at h;omega
theorem QB(N:Nat)(a b c:Int)(d:Bool)(e:Int):Wp (M.eA N a b c d e) fun _=>True:=by
 unfold M.eA;simp only[aF,alS];exact .some trivial
theorem zq(N:Nat)(a:Int)(b:Bool):Wp (M.la N a b) fun _=>True:=by
 unfold M.la;simp only[aF];exact .some trivial
theorem mn(N:Nat){a b m:Int}(hm:0<=m/\m<=5):Wp (M.fB N a b m) fun r=>Cd r.2:=by
 unfold M.fB;rw[mP];simp only[alS,qt];rw[if_neg (by simp;omega)]
 refine Wp.dec (fun _=> .some (by simp[Cd])) fun hb=>?_
 simp only[aF,alS,pF]
 refine Wp.ite (fun _=> .some (by simp[Cd])) fun hc=>?_
 rw[Bool.or_eq_true,not_or]at hc;have ha:=lm (by omega) hc.1;have qH:=lm (by omega) hc.2;rw[ll N ha,ll N qH];simp only[alS]
 have bR:(if b<0 then-b else b)≠0:=by split<;>omega
 rw[show∀x,zP x (if b<0 then-b else b)=some (amh x (if b<0 then-b else b))from fun x=>if_neg bR,show∀x,HP x (if b<0 then-b else b)=some (amy x (if b<0 then-b else b))from fun x=>if_neg bR];simp only[alS]
 exact Wp.seq _ (QB ..) fun x _=>Wp.seq _ (zq ..) fun y _=> .some (by simp[Cd])
theorem sD(N:Nat)(a b:Int):Wp (M.eU N a b) fun r=>(0<=r.1/\r.1<18446744073709551616)/\0<=r.2/\r.2<18446744073709551616:=by
 unfold M.eU;exact .some ⟨mc _,mc _⟩
theorem w9{hi lo y:Int}(h0:0<=hi)(h1:hi<y)(h2:y<18446744073709551616):Wp (M.dR aB hi lo y) fun _=>True:=by
 obtain⟨r,hr⟩:=I9 (lo:=lo) h0 h1 h2;exact⟨r,hr,trivial⟩
theorem Ja{a b c m:Int}(hm:0<=m/\m<=5):Wp (M.mM aB a b c m) fun r=>Cd r.2:=by
 unfold M.mM;rw[mP];simp only[alS,qt];rw[if_neg (by simp;omega)]
 refine Wp.dec (fun _=> .some (by simp[Cd])) fun hb=>?_
 simp only[aF,alS,pF]
 refine Wp.ite (fun _=> .some (by simp[Cd])) fun hc=>?_
 simp only[Bool.or_eq_true,not_or]at hc;have ha:=lm (n:=a) (l:=1000000000000000) (by omega) (by simpa using hc.1);have qH:=lm (n:=b) (l:=1000000000) (by omega) (by simpa using hc.2.1);have XC:=lm (n:=c) (l:=1000000000) (by omega) (by simpa using hc.2.2);rw[ll _ (n:=a) (by omega),ll _ (n:=b) (by omega)];simp only[alS]
 refine Wp.seq _ (sD ..) fun r hr=>?_
 rw[ll _ (n:=c) (by omega)];simp only[alS]
 refine Wp.dec (fun _=> .some (by simp[Cd])) fun hd=>?_
 have aj:(if c<0 then-c else c)<18446744073709551616:=by split<;>omega
 refine Wp.seq _ (w9 hr.1.1 (by omega) aj) fun q _=>?_
 refine Wp.dec (fun _=> .some (by simp[Cd])) fun _=>?_
 refine Wp.seq _ (QB ..) fun x _=>?_
 refine Wp.dec (fun _=> .some (by simp[Cd])) fun _=>?_
 exact Wp.seq _ (zq ..) fun y _=> .some (by simp[Cd])
theorem xc{a b m:Int}(hm:0<=m/\m<=5):Wp (M.ma aB a b m) fun r=>Cd r.2:=by
 unfold M.ma;rw[mP];simp only[alS,qt];rw[if_neg (by simp;omega)]
 refine Wp.dec (fun _=> .some (by simp[Cd])) fun hb=>?_
 simp only[aF,alS,pF]
 refine Wp.ite (fun _=> .some (by simp[Cd])) fun hc=>?_
 refine Wp.seq _ (mn _ hm) fun r hr=>?_
 refine .some ?_;split
 .exact hr
 .split<;>simp[Cd]
theorem zr(N:Nat)(m:Int):M.lc N m=some (decide (0<=m)&&decide (m<=5)):=mP N m
theorem xd(N:Nat)(n l:Int):M.ji N n l=some (decide (l<n)||decide (n<alT.wrap (0-l))):=qt N n l
theorem GK{a b m:Int}(hm:0<=m/\m<=5):Wp (M.sA aB a b m) fun r=>Cd r.2:=by
 unfold M.sA;rw[zr];simp only[alS,xd];rw[if_neg (by simp;omega)];simp only[aF,alS,pF]
 refine Wp.ite (fun _=> .some (by simp[Cd])) fun hc=>?_
 refine Wp.seq _ (mn _ hm) fun r hr=>?_
 refine .some ?_;split
 .exact hr
 .split<;>simp[Cd]
theorem zt{a b m:Int}(hm:0<=m/\m<=5):Wp (M.oJ aB a b m) fun r=>Cd r.2:=by
 unfold M.oJ
 exact Wp.seq _ (Ja hm) fun r hr=> .some hr
theorem CV(N:Nat)(a b c:Int)(d:Bool)(e:Int):Wp (M.mb N a b c d e) fun _=>True:=by
 unfold M.mb;simp only[aF,alS];exact .some trivial
theorem sE{a b m:Int}(hm:0<=m/\m<=5):Wp (M.ld aB a b m) fun r=>Cd r.2:=by
 unfold M.ld;rw[zr];simp only[alS,xd];rw[if_neg (by simp;omega)]
 refine Wp.dec (fun _=> .some (by simp[Cd])) fun hb=>?_
 simp only[aF,alS,pF]
 refine Wp.ite (fun _=> .some (by simp[Cd])) fun hc=>?_
 refine Wp.seq _ (sD ..) fun r hr=>?_
 refine Wp.dec (fun _=> .some (by simp[Cd])) fun hd=>?_
 refine Wp.seq _ (w9 hr.1.1 (by omega) (mc _).2) fun q _=>?_
 refine Wp.dec (fun _=> .some (by simp[Cd])) fun _=>?_
 refine Wp.seq _ (Wp.bind (Wp.mono (CV ..) fun x _=>?_)) fun j7(_:True)=>?_
 .exact .some trivial
 .exact .some (by split<;>simp[Cd])
theorem uG(N:Nat)(r:aa.den)(d:Int):Wp (M.bK N r d) fun _=>True:=by
 unfold M.bK M.eR;simp only[aF,alS];exact .some trivial
theorem va(a b:Int):Wp (M.gS aB a b) fun _=>True:=by
 unfold M.gS;simp only[aF,alS]
 refine Wp.seq _ (sD ..) fun r hr=>?_
 refine Wp.dec (fun _=> .some trivial) fun hd=>?_
 refine Wp.seq _ (w9 hr.1.1 (by omega) (by omega)) fun q _=>?_
 exact .some trivial
theorem CW(N:Nat){a b m:Int}(hm:0<=m/\m<=5):Wp (M.jg N a b m) fun r=>Cd r.2:=by
 unfold M.jg;simp only[aF,alS]
 refine Wp.ite (fun _=> .some (by simp[Cd])) fun hc=>?_
 refine Wp.seq _ (mn _ hm) fun r hr=>?_
 exact .some (AL hr (AL (Cd3 _) (zp _)))
theorem uH{t:av.den}{d k m:Int}(hm:0<=m/\m<=5)(hk:t.2.1=((3,0):Int×Int))(hv:t.2.2.1=((4,0):Int×Int))(hl:t.2.2.2.length<=9223372036854775807):Wp (M.jh aB t d k m) fun r=>Cd r.2:=by
 unfold M.jh;simp only[aF,alS,pF];rw[if_neg (by simp;omega),if_neg (by rw[hk,hv];simp[nW])]
 refine Wp.ite (fun _=> .some (by simp[Cd])) fun hc=>?_
 refine Wp.join (Wp.loop (fun s:Int×Int×Int=>∃i:Nat,s.2.2=i/\i<=t.2.2.2.length) (fun s=>(t.2.2.2.length-s.2.2).toNat) ⟨0,rfl,amj _⟩ (by simp only;unfold aB;omega) ?_)
 rintro⟨s1,s2,s3⟩ ⟨i,hi,Bm⟩
 simp only at hi;subst hi
 refine Wp.dec (fun h=>?_) fun h=> .some ?_
 .have gr:i<t.2.2.2.length:=by simp only at h;omega
  refine Wp.join ?_;simp only;rw[ah gr];simp only[alS]
  refine Wp.seq (fun _=>True) ?_ fun j8 _=>?_
  .refine Wp.seq _ (uG ..) fun y _=>?_
   exact .some trivial
  have nxt:∀a b:Int,qT (fun j6:Int×Int=>some (Sum.inl (j6.1,j6.2,alT.wrap ((i:Int)+1)))) (w6 (fun s:Int×Int×Int=>∃i:Nat,s.2.2=i/\i<=t.2.2.2.length) (fun s=>(t.2.2.2.length-s.2.2).toNat) (s1,s2,(i:Int)) (qT (fun j4:Int×Int=>(M.jg aB j4.1 j4.2 m).bind fun lJ=>some (lJ.1,lJ.2)) fun r:Int×Int=>Cd r.2)) (.inl (a,b)):=by
   intro a b;refine .some ?_;rw[aD (by omega)];exact⟨⟨i+1,rfl,gr⟩,by simp only;omega⟩
  refine Wp.ite (fun _=> .some (nxt _ _)) fun _=>?_
  refine Wp.seq _ (va ..) fun y _=>?_
  refine .some ?_;split
  .show Cd _
   simp[Cd]
  .exact nxt _ _
 .show Wp _ _
  exact Wp.seq _ (CW _ hm) fun r hr=> .some hr
theorem L4(l:List dW.den)(a b:Int)(hl:l.length<=9223372036854775807):Wp (M.db aB l a b) fun r=>r.2.1=true->0<=r.1/\r.1<l.length:=by
 unfold M.db;refine Wp.loop (fun s:Int×Int×Int=>∃i:Nat,s.1=i/\i<=l.length) (fun s=>(l.length-s.1).toNat) ⟨0,rfl,amj _⟩ (by simp only;unfold aB;omega) ?_
 rintro⟨s1,s2,s3⟩ ⟨i,hi,Bm⟩
 simp only at hi;subst hi
 refine Wp.dec (fun h=>?_) fun h=> .some fun h=>by cases h
 have gr:i<l.length:=by simp only at h;omega
 simp only;rw[ah gr];simp only[alS]
 refine Wp.seq (fun _=>True) ?_ fun y _=>?_
 .unfold M.kq
  refine Wp.seq (fun _=>True) (Wp.seq _ (uG ..) fun y _=>?_) fun j _=> .some trivial
  simp only[aF];exact .some trivial
 .refine Wp.ite (fun _=> .some fun _=>⟨by simp only;omega,by simp only;omega⟩) fun _=> .some ?_
  rw[aD (by omega)];exact⟨⟨i+1,rfl,gr⟩,by simp only;omega⟩
theorem zu(t:av.den)(a b:Int)(hl:t.2.2.2.length<=9223372036854775807):Wp (M.k9 aB t a b) fun r=>r.2=true->0<=r.1/\r.1<t.2.2.2.length:=by
 unfold M.k9
 exact Wp.seq _ (L4 _ a b hl) fun r hr=> .some hr
theorem qv(N:Nat)(d:Int):M.kr N d=some (decide (0<=d)&&decide (d<=109572)):=by
 unfold M.kr;simp only[aF,alS,mG]
theorem ln(N:Nat)(y m:Int):Wp (M.dY N y m) fun r=>0<=r/\r<=31:=by
 unfold M.dY M.pD;simp only[aF,alS,pF,mG]
 refine Wp.ite (fun _=> .some (by omega)) fun hc=>?_
 refine Wp.ite (fun _=> .some (by omega)) fun _=>?_
 have hm:1<=m/\m<=12:=by simp at hc;omega
 rw[aJ (by omega) (by omega)]
 have:m=1\/m=2\/m=3\/m=4\/m=5\/m=6\/m=7\/m=8\/m=9\/m=10\/m=11\/m=12:=by omega
 rcases this with rfl|rfl|rfl|rfl|rfl|rfl|rfl|rfl|rfl|rfl|rfl|rfl<;>exact⟨_,rfl,by decide⟩
theorem oM(N:Nat)(y:Int):Wp (M.fC N y) fun _=>True:=by
 unfold M.fC M.lb;simp only[alS];exact .some trivial
theorem pH(d:Int):Wp (M.ku aB d) fun _=>True:=by
 unfold M.ku;rw[qv];simp only[alS]
 refine Wp.ite (fun _=> .some trivial) fun hv=>?_
 have hd:0<=d/\d<=109572:=by simpa using hv
 have h0:amh d 366=d/366:=amV hd.1;have hw:alT.wrap (d/366)=d/366:=aJ (by omega) (by omega);have WB:alT.wrap (1900+d/366)=1900+d/366:=aJ (by omega) (by omega);rw[h0,hw,WB]
 refine Wp.seq (fun _=>True) (Wp.loop (fun y:Int=>1900<=y/\y<=2199) (fun y=>(2199-y).toNat) (by omega) (by unfold aB;omega) ?_) fun y _=>?_
 .rintro y ⟨h1,h2⟩
  by_cases hy:y=2199
  .subst hy
   have e:M.fC aB (alT.wrap ((2199:Int)+1))=some 109573:=by show(_:Option Int)=_;kernel_rfl
   rw[e];simp only[alS];rw[if_neg (by simp;omega)];exact .some trivial
  .refine Wp.seq _ (oM ..) fun z _=>?_
   refine Wp.dec (fun _=> .some ?_) fun _=> .some trivial
   rw[aJ (by omega) (by omega)];exact⟨by omega,by simp only;omega⟩
 .refine Wp.seq _ (oM ..) fun z _=>?_
  refine Wp.loop (fun s:Int×Int=>∃i:Nat,s.2=i/\i<=12) (fun s=>(12-s.2).toNat) ⟨0,rfl,by omega⟩ (by simp only;unfold aB;omega) ?_
  rintro⟨a,b⟩ ⟨i,hi,Bm⟩
  simp only at hi;subst hi
  refine Wp.dec (fun h=>?_) fun _=> .some trivial
  refine Wp.seq _ (ln ..) fun w _=>?_
  refine Wp.dec (fun _=> .some trivial) fun _=> .some ?_
  simp only at h⊢;rw[aD (by omega)];exact⟨⟨i+1,rfl,by omega⟩,by simp only;omega⟩
theorem Fc(y m d:Int):Wp (M.mN aB y m d) fun r=>Cd r.2:=by
 unfold M.mN
 refine Wp.seq (fun j=>j=false->1<=m/\m<=12) ?_ fun j hj=>?_
 .refine Wp.dec (fun _=> .some (fun h=>by cases h)) fun _=>Wp.dec (fun _=> .some (fun h=>by cases h)) fun _=>Wp.dec (fun _=> .some (fun h=>by cases h)) fun h1=>Wp.dec (fun _=> .some (fun h=>by cases h)) fun h2=>Wp.dec (fun _=> .some (fun h=>by cases h)) fun _=>?_
  exact Wp.seq _ (ln ..) fun w _=> .some fun _=>⟨by omega,by omega⟩
 .refine Wp.ite (fun _=> .some (by simp[Cd])) fun hc=>?_
  have hm:=hj (by simpa using hc)
  refine Wp.seq _ (oM ..) fun z _=>?_
  refine Wp.seq (fun _=>True) (Wp.loop (fun s:Int×Int=>∃i:Nat,s.2=i/\i<=12) (fun s=>(13-s.2).toNat) ⟨0,rfl,by omega⟩ (by simp only;unfold aB;omega) ?_) fun w _=> .some (by simp[Cd])
  rintro⟨a,b⟩ ⟨i,hi,Bm⟩
  simp only at hi;subst hi
  refine Wp.dec (fun h=>?_) fun _=> .some trivial
  refine Wp.seq _ (ln ..) fun w _=> .some ?_
  simp only at h⊢;rw[aJ (n:=m-1) (by omega) (by omega)]at h;rw[aD (by omega)];exact⟨⟨i+1,rfl,by omega⟩,by simp only;omega⟩
theorem oN(d n:Int):Wp (M.jk aB d n) fun r=>Cd r.2:=by
 unfold M.jk;rw[qv];simp only[aF,alS,pF]
 refine Wp.ite (fun _=> .some (by simp[Cd])) fun hc=>?_
 refine Wp.seq _ (pH ..) fun y _=>?_
 refine Wp.ite (fun _=> .some (by simp[Cd])) fun _=>?_
 refine Wp.seq _ (ln ..) fun w _=>?_
 exact Wp.seq _ (Fc ..) fun r hr=> .some hr
theorem oY(a b:Int):Wp (M.iH aB a b) fun _=>True:=by
 unfold M.iH;rw[qv,qv];simp only[aF,alS,pF]
 refine Wp.ite (fun _=> .some trivial) fun _=>?_
 refine Wp.seq _ (pH ..) fun y _=>Wp.seq _ (pH ..) fun z _=>?_
 refine Wp.seq (fun _=>True) (Wp.seq _ (oN ..) fun r _=>?_) fun j _=> .some trivial
 exact .some trivial
end L.P
end Go.Proofs.YtmihpkfkbfgigaaGreatDoor
end
section
open _root_.Bool renaming and_eq_true->ani
open _root_.Int renaming le_refl->am7,tdiv->amh,tdiv_eq_ediv_of_nonneg->amV,tmod->amy
open _root_.Go.IntKind renaming i64->alT
open _root_.List renaming getElem_mem->al0,mem_append->amf,mem_singleton->ama
open _root_.Nat renaming zero_le->amj
open _root_.Option renaming bind_some->alS,some->anE
open _root_.Option.some renaming inj->alU
namespace Go.Proofs.YtmihpkfkbfgigaaGreatDoor
open Go Go.RowKit
set_option maxRecDepth 100000
namespace L.P
theorem o9(x a b:Int):(if decide (x=a)=true then some (decide (x=a))else some (decide (x=b)))=some (decide (x=a\/x=b)):=by
 by_cases h:x=a<;>simp[h]
theorem vb(x a b c:Int):(if decide (x=a)=true then some (decide (x=a))else(if decide (x=b)=true then some (decide (x=b))else some (decide (x=c))))=some (decide (x=a\/x=b\/x=c)):=by
 rw[o9]
 by_cases h:x=a<;>simp[h]
theorem qB(x a b c d:Int):(if decide (x=a)=true then some (decide (x=a))else(if decide (x=b)=true then some (decide (x=b))else(if decide (x=c)=true then some (decide (x=c))else some (decide (x=d)))))=some (decide (x=a\/x=b\/x=c\/x=d)):=by
 rw[vb]
 by_cases h:x=a<;>simp[h]
theorem CX(x a b c d e:Int):(if decide (x=a)=true then some (decide (x=a))else(if decide (x=b)=true then some (decide (x=b))else(if decide (x=c)=true then some (decide (x=c))else(if decide (x=d)=true then some (decide (x=d))else some (decide (x=e))))))=some (decide (x=a\/x=b\/x=c\/x=d\/x=e)):=by
 rw[qB]
 by_cases h:x=a<;>simp[h]
theorem Wp.fI{α:Type}{l:List α}{i:Int}{Q:α->Prop}(h0:0<=i)(h1:i<l.length)(h:∀x,x∈l->idx l i=anE x->Q x):Wp (idx l i) Q:=by
 obtain⟨k,rfl⟩:∃k:Nat,i=k:=⟨i.toNat,by omega⟩
 have hk:k<l.length:=by omega
 exact⟨_,ah hk,h _ (al0 hk) (ah hk)⟩
def ar(op:Int):Int:=
 if(1<=op/\op<=9)\/(35<=op/\op<=39)then 0 else if op=10\/op=25\/(31<=op/\op<=34)then 1 else if(11<=op/\op<=24)\/(27<=op/\op<=30)then 2 else if op=26 then 3 else-1
theorem cJ(N:Nat)(op:Int):M.dC N op=some (ar op):=by
 by_cases h:1<=op/\op<=39
 .have:op=1\/op=2\/op=3\/op=4\/op=5\/op=6\/op=7\/op=8\/op=9\/op=10\/op=11\/op=12\/op=13\/op=14\/op=15\/op=16\/op=17\/op=18\/op=19\/op=20\/op=21\/op=22\/op=23\/op=24\/op=25\/op=26\/op=27\/op=28\/op=29\/op=30\/op=31\/op=32\/op=33\/op=34\/op=35\/op=36\/op=37\/op=38\/op=39:=by omega
  rcases this with rfl|rfl|rfl|rfl|rfl|rfl|rfl|rfl|rfl|rfl|rfl|rfl|rfl|rfl|rfl|rfl|rfl|rfl|rfl|rfl|rfl|rfl|rfl|rfl|rfl|rfl|rfl|rfl|rfl|rfl|rfl|rfl|rfl|rfl|rfl|rfl|rfl|rfl|rfl<;>(show(_:Option Int)=_;kernel_rfl)
 .have ha:ar op= -1:=by unfold ar;rw[if_neg (by omega),if_neg (by omega),if_neg (by omega),if_neg (by omega)]
  rw[ha]
  have ne:∀k:Int,1<=k->k<=39->decide (op=k)=false:=fun k h1 h2=>by simp;omega
  unfold M.dC;simp[ne]
theorem kK(op:Int):ar op<=3:=by unfold ar;split<;>(try split)<;>(try split)<;>(try split)<;>omega
def im(env:cz.den):Prop:=env.2.2.2.1.length<=100/\∀t∈env.2.2.2.2.2,t.2.2.2.length<=9223372036854775807
def Fm(op m:Int):Prop:=0<=ar op/\(op=14\/op=15\/op=16->0<=m/\m<=5)/\(op=34->0<=m/\amy m 8<=5)/\(op=6->0<=m)
theorem L5(N:Nat)(op:Int):Wp (M.ga N op) fun _=>True:=by
 unfold M.ga;simp only[aF,alS];exact .some trivial
theorem tV(N:Nat)(op m:Int):Wp (M.cY N (op,m)) fun b=>b=true->Fm op m:=by
 unfold M.cY;simp only[cJ,alS]
 refine Wp.seq (fun j=>j=false->0<=ar op) ?_ fun j hj=>?_
 .refine Wp.dec (fun _=> .some fun h=>by cases h) fun h=>?_
  refine Wp.jz (fun _=>Wp.seq _ (L5 ..) fun y _=> .some fun _=>by omega) fun _=> .some fun _=>by omega
 .refine Wp.ite (fun _=> .some fun h=>by cases h) fun hc=>?_
  have ha:=hj (by simpa using hc);rw[vb];simp only[alS,aF,mG]
  refine .some fun hb=>?_
  unfold Fm;by_cases h1:op=14\/op=15\/op=16
  .rw[if_pos (by simpa using h1)]at hb;simp at hb;exact⟨ha,fun _=>hb,fun e=>by omega,fun e=>by omega⟩
  .rw[if_neg (by simpa using h1)]at hb;by_cases h2:op=34
   .rw[if_pos (by simpa using h2)]at hb;simp at hb;exact⟨ha,fun e=>absurd e h1,fun _=>hb,fun e=>by omega⟩
   .rw[if_neg (by simpa using h2)]at hb;by_cases h3:op=6
    .rw[if_pos (by simpa using h3)]at hb;simp at hb;exact⟨ha,fun e=>absurd e h1,fun e=>absurd e h2,fun _=>hb⟩
    .exact⟨ha,fun e=>absurd e h1,fun e=>absurd e h2,fun e=>absurd e h3⟩
def WC(op m:Int)(env:cz.den):Prop:=
 (op=7->0<=m/\m<env.2.1.length)/\(op=8->0<=m/\m<env.2.2.1.length)/\(op=33->0<=m/\m<env.2.2.2.2.2.length)/\(op=34->alT.wrap (amh m 8)<env.2.2.2.2.2.length)/\(op=36\/op=37\/op=38\/op=39->0<=m/\m<env.2.2.2.2.1.length)
theorem tW(N:Nat)(op m:Int)(env:cz.den):Wp (M.dQ N (op,m) env) fun b=>b=true->WC op m env:=by
 unfold M.dQ WC;simp only
 refine Wp.dec (fun h=>?_) fun h7=>?_
 .subst h;simp only[aF,alS,mG]
  exact .some fun hb=>⟨fun _=>by simpa using hb,fun e=>by omega,fun e=>by omega,fun e=>by omega,fun e=>by omega⟩
 refine Wp.dec (fun h=>?_) fun h8=>?_
 .subst h
  refine Wp.seq (fun j=>j=true->0<=m/\m<env.2.2.1.length) ?_ fun j hj=> .some fun hb=>⟨fun e=>by omega,fun _=>hj hb,fun e=>by omega,fun e=>by omega,fun e=>by omega⟩
  refine Wp.dec (fun h0=>Wp.dec (fun h1=>Wp.bind (Wp.fI h0 h1 fun x _ _=> .some fun _=>⟨h0,h1⟩)) fun _=> .some fun h=>by cases h) fun _=> .some fun h=>by cases h
 refine Wp.dec (fun h=>?_) fun NF=>?_
 .subst h;simp only[aF,alS,mG]
  exact .some fun hb=>⟨fun e=>by omega,fun e=>by omega,fun _=>by simpa using hb,fun e=>by omega,fun e=>by omega⟩
 refine Wp.dec (fun h=>?_) fun sY=>?_
 .subst h
  exact .some fun hb=>⟨fun e=>by omega,fun e=>by omega,fun e=>by omega,fun _=>by simpa using hb,fun e=>by omega⟩
 rw[qB];simp only[alS]
 refine Wp.dec (fun h=>?_) fun Sz=> .some fun _=>⟨fun e=>absurd e h7,fun e=>absurd e h8,fun e=>absurd e NF,fun e=>absurd e sY,fun e=>absurd e Sz⟩
 simp only[aF,alS,mG]
 exact .some fun hb=>⟨fun e=>absurd e h7,fun e=>absurd e h8,fun e=>absurd e NF,fun e=>absurd e sY,fun _=>by simpa using hb⟩
theorem CY{N:Nat}(l:List Vl)(hl:l.length<=100000)(hN:100001<=N):Wp (M.dm N l) fun b=>b=true->∀v∈l,dp v.1 v.2.1 v.2.2:=by
 unfold M.dm;refine Wp.loop (fun s:Int=>∃i:Nat,s=i/\i<=l.length/\∀v∈l.take i,dp v.1 v.2.1 v.2.2) (fun s=>(l.length-s).toNat) ⟨0,rfl,amj _,by simp⟩ (by omega) ?_
 rintro _ ⟨i,rfl,hi,hp⟩
 refine Wp.dec (fun h=>?_) fun h=> .some fun _=>?_
 .have gr:i<l.length:=by omega
  rw[ah gr];simp only[alS,dc]
  refine Wp.jz (fun _=> .some fun h=>by cases h) fun hq=> .some ?_
  rw[aD (by omega)];refine⟨⟨i+1,rfl,gr,fun v hv=>?_⟩,by simp only;omega⟩;rw[List.take_succ_eq_append_getElem gr]at hv
  rcases amf.1 hv with hv|hv
  .exact hp v hv
  .rw[ama.1 hv];exact hq
 .rw[List.take_of_length_le (by omega)]at hp;exact hp
theorem CZ(N:Nat)(a b:Vl):Wp (M.du N a b) fun _=>True:=by
 unfold M.du;simp only[aF,alS];exact .some trivial
theorem SA(N:Nat)(a b:Int):Wp (M.cP N a b) fun _=>True:=by
 unfold M.cP;simp only[ml,aF,alS];exact .some trivial
theorem OX(N:Nat)(op:Int)(a b:Vl):Wp (M.cW N op a b) fun _=>True:=by
 unfold M.cW M.du;simp only[ml,aF,alS];exact .some trivial
def WD(op m:Int)(env:cz.den):Prop:=
 (op=34->∀t,idx env.2.2.2.2.2 (alT.wrap (amh m 8))=some t->t.2.1=((3,0):Int×Int)/\t.2.2.1=((4,0):Int×Int))/\(op=36\/op=37\/op=38\/op=39->∀t,idx env.2.2.2.2.1 m=some t->TN op t)
theorem xe{N:Nat}{op m:Int}{args:List Vl}{env:cz.den}(hx:WC op m env)(ha:(args.length:Int)=ar op)(sY:op=34->0<=alT.wrap (amh m 8)):Wp (M.bx N (op,m) args env) fun b=>b=true->WD op m env:=by
 obtain⟨x7,x8,NA,Vw,x36⟩:=hx;unfold M.bx WD;dsimp only[ae,Row.den]
 have no:∀{b:Bool},¬op=34->¬(op=36\/op=37\/op=38\/op=39)->b=true->(op=34->∀t,idx env.2.2.2.2.2 (alT.wrap (amh m 8))=some t->t.2.1=((3,0):Int×Int)/\t.2.2.1=((4,0):Int×Int))/\(op=36\/op=37\/op=38\/op=39->∀t,idx env.2.2.2.2.1 m=some t->TN op t):=fun h1 h2 _=>⟨fun e=>absurd e h1,fun e=>absurd e h2⟩
 refine Wp.dec (fun h=>?_) fun h7=>?_
 .obtain⟨a,b⟩:=x7 h;exact Wp.bind (Wp.fI a b fun x _ _=>by rw[dc];exact .some (no (by omega) (by omega)))
 refine Wp.dec (fun h=>?_) fun h8=>?_
 .obtain⟨a,b⟩:=x8 h;exact Wp.bind (Wp.fI a b fun x _ _=>by rw[dc];exact .some (no (by omega) (by omega)))
 have aju:1<=ar op->0<args.length:=fun h=>by omega
 refine Wp.dec (fun h=>?_) fun NF=>?_
 .obtain⟨a,b⟩:=NA h
  have h1:ar op=1:=by rw[h];decide
  refine Wp.bind (Wp.fI a b fun x _ _=>?_)
  refine Wp.seq (fun _=>True) ?_ fun j _=> .some (no (by omega) (by omega))
  refine Wp.bind (Wp.fI (am7 0) (by omega) fun y _ _=>?_);rw[ry];simp only[alS,aF];exact .some trivial
 refine Wp.dec (fun h=>?_) fun WE=>?_
 .have b:=Vw h
  have h1:ar op=1:=by rw[h];decide
  refine Wp.bind (Wp.fI (sY h) b fun x _ WG=>?_)
  refine Wp.seq (fun j=>j=true->x.2.1=((3,0):Int×Int)/\x.2.2.1=((4,0):Int×Int)) ?_ fun j hj=> .some fun hb=>⟨fun _ t ht=>?_,fun e=>by omega⟩
  .refine Wp.bind (Wp.fI (am7 0) (by omega) fun y _ _=>?_);simp only[aF,mG]
   refine .some fun hb=>?_
   simp only[ani,nW,decide_eq_true_eq]at hb;exact⟨hb.2.1,hb.2.2⟩
  .rw[WG]at ht;obtain rfl:=alU ht;exact hj hb
 rw[qB];simp only[alS]
 refine Wp.dec (fun h=>?_) fun Sz=>?_
 .obtain⟨a,b⟩:=x36 h;refine Wp.bind (Wp.fI a b fun x _ WG=>?_);rw[oo]
  refine .some fun hb=>⟨fun e=>absurd e WE,fun _ t ht=>?_⟩
  rw[WG]at ht;obtain rfl:=alU ht;simpa using hb
 have XG:∀b:Bool,b=true->_:=fun b=>no (b:=b) WE Sz
 refine Wp.dec (fun h=>?_) fun _=>?_
 .refine Wp.bind (Wp.fI (am7 0) (by omega) fun y _ _=>?_)
  exact Wp.seq _ (SA ..) fun b _=> .some (XG b)
 refine Wp.dec (fun h=>?_) fun _=>?_
 .refine Wp.bind (Wp.fI (am7 0) (by omega) fun y _ _=>?_);refine Wp.bind (Wp.fI (by omega) (by omega) fun z _ _=>?_)
  exact Wp.seq _ (OX ..) fun b _=> .some (XG b)
 refine Wp.dec (fun h=>?_) fun _=> .some (XG _)
 refine Wp.seq (fun _=>True) ?_ fun b _=> .some (XG b)
 refine Wp.bind (Wp.fI (am7 0) (by omega) fun y _ _=>?_)
 refine Wp.dec (fun _=>?_) fun _=> .some trivial
 refine Wp.bind (Wp.fI (by omega) (by omega) fun z _ _=>?_);refine Wp.bind (Wp.fI (by omega) (by omega) fun z' _ _=>?_)
 exact Wp.seq _ (CZ ..) fun b _=> .some trivial
def Ce(c:Int):Prop:=c=0\/c=3\/c=12\/c=6\/c=8
theorem Cd.e{c:Int}(h:Cd c):Ce c:=by unfold Cd at h;unfold Ce;omega
theorem C0{op:Int}{t:Ty}{j:Nat}:{ms:List (List Vl)}->{first:Bool}->{acc c:Int}->oq op t j ms first acc= .inr c->c=3\/c=6\/c=8
 |[],_,_,_,h=>by cases h
 |l::ms,first,acc,c,h=>by
  rw[oq]at h;split at h
  .cases h;exact .inr (.inl rfl)
  .split at h
   .cases h;exact .inr (.inl rfl)
   .split at h
    .split at h
     .exact C0 h
     .cases h;exact .inl rfl
    .cases h;exact .inr (.inr rfl)
theorem OY(op:Int)(t:Ty)(j:Nat)(ms:List (List Vl)):Ce (I8 op t j ms).2:=by
 unfold I8;split
 .unfold Ce;omega
 .split
  .unfold Ce;omega
  .rename_i c hc;have:=C0 hc
   show Ce c
   unfold Ce;omega
theorem lp(N:Nat)(b:Bool):Wp (M.dK N b) fun _=>True:=by
 unfold M.dK;simp only[aF];exact .some trivial
theorem L6(op:Int)(a:Vl):Wp (M.kw aB op a) fun _=>True:=by
 unfold M.kw
 refine Wp.dec (fun _=> .some trivial) fun _=>?_
 refine Wp.dec (fun _=>Wp.seq _ (lp ..) fun _ _=> .some trivial) fun _=>?_
 refine Wp.seq _ (pH ..) fun y _=>?_
 simp only[aF];exact .some trivial
theorem xf(N:Nat)(a b:Int):Wp (M.mL N a b) fun r=>Cd r.2:=by
 unfold M.mL
 refine Wp.seq _ (sD ..) fun r _=>?_
 simp only[aF,alS];exact .some (AL (Cd3 _) (AL (zp _) (zp _)))
theorem Jb{op m:Int}{a b:Vl}(hm:op=14\/op=15\/op=16->0<=m/\m<=5)(gq:13<=op/\op<=16):Wp (M.kJ aB (op,m) a b) fun r=>Cd r.2:=by
 unfold M.kJ;dsimp only[ae,Row.den]
 refine Wp.seq (fun j=>Cd j.1) ?_ fun j hj=> .some hj
 refine Wp.dec (fun _=>Wp.seq _ (xf ..) fun r hr=> .some hr) fun U0=>?_
 have Bk:=hm (by omega);simp only[aF,alS,mG]
 refine Wp.ite (fun _=>Wp.seq _ (zt Bk) fun r hr=> .some hr) fun _=>?_
 refine Wp.dec (fun _=>Wp.seq _ (GK Bk) fun r hr=> .some hr) fun _=>?_
 refine Wp.dec (fun _=>Wp.seq _ (xc Bk) fun r hr=> .some hr) fun _=>?_
 refine Wp.dec (fun _=>Wp.seq _ (mn _ Bk) fun r hr=> .some hr) fun _=>?_
 exact Wp.seq _ (sE Bk) fun r hr=> .some hr
theorem Jc{op m:Int}{a b:Vl}(hm:op=14\/op=15\/op=16->0<=m/\m<=5):Wp (M.fX aB (op,m) a b) fun r=>Cd r.2:=by
 unfold M.fX;dsimp only[ae,Row.den];rw[o9,qB,o9];simp only[alS]
 refine Wp.ite (fun _=> .some (zp 0)) fun _=>?_
 refine Wp.dec (fun _=> .some (zp 0)) fun _=>?_
 refine Wp.dec (fun h=>Wp.seq _ (Jb hm (by omega)) fun r hr=> .some hr) fun _=>?_
 refine Wp.dec (fun _=>?_) fun _=>?_
 .simp only[aF];exact .some (by split<;>exact zp 0)
 refine Wp.dec (fun _=>Wp.seq _ (lp ..) fun _ _=> .some (zp 0)) fun _=>?_
 refine Wp.dec (fun _=>Wp.seq _ (lp ..) fun _ _=> .some (zp 0)) fun _=>?_
 refine Wp.dec (fun _=>Wp.seq _ (lp ..) fun _ _=> .some (zp 0)) fun _=>?_
 refine Wp.dec (fun _=>Wp.seq _ (lp ..) fun _ _=> .some (zp 0)) fun _=>?_
 refine Wp.dec (fun _=>Wp.seq (fun j=>j.1=0) (Wp.dec (fun _=>Wp.seq _ (lp ..) fun _ _=> .some rfl) fun _=>Wp.seq _ (lp ..) fun _ _=> .some rfl) fun j hj=> .some (.inl hj)) fun _=>?_
 refine Wp.dec (fun _=>Wp.seq (fun j=>j.1=0) (Wp.dec (fun _=>Wp.seq _ (lp ..) fun _ _=> .some rfl) fun _=>Wp.seq _ (lp ..) fun _ _=> .some rfl) fun j hj=> .some (.inl hj)) fun _=>?_
 refine Wp.dec (fun _=>Wp.seq _ (oN ..) fun r hr=> .some hr) fun _=>?_
 refine Wp.dec (fun _=> .some (zp 0)) fun _=>?_
 exact Wp.seq _ (oY ..) fun r _=> .some (zp 0)
theorem xg{op m:Int}{args:List Vl}{env:cz.den}(he:im env)(hf:Fm op m)(hx:WC op m env)(ha:(args.length:Int)=ar op)(WH:WD op m env)(sY:op=34->0<=alT.wrap (amh m 8)):Wp (M.bD aB (op,m) args env) fun r=>Ce r.2:=by
 obtain⟨x7,x8,NA,Vw,x36⟩:=hx;obtain⟨f0,f14,f34,_⟩:=hf;obtain⟨w34,w36⟩:=WH;have NG:Ce 0:= .inl rfl;unfold M.bD;dsimp only[ae,Row.den];rw[CX,qB];simp only[alS]
 refine Wp.dec (fun _=> .some NG) fun _=>?_
 refine Wp.dec (fun _=> .some NG) fun _=>?_
 refine Wp.dec (fun h=>Wp.bind (Wp.fI (x7 h).1 (x7 h).2 fun x _ _=> .some NG)) fun _=>?_
 refine Wp.dec (fun h=>Wp.bind (Wp.fI (x8 h).1 (x8 h).2 fun x _ _=> .some NG)) fun _=>?_
 refine Wp.dec (fun _=> .some NG) fun _=>?_
 refine Wp.dec (fun _=> .some NG) fun _=>?_
 refine Wp.dec (fun h=>?_) fun _=>?_
 .obtain⟨a,b⟩:=x36 h
  obtain⟨j,rfl⟩:∃j:Nat,m=j:=⟨m.toNat,by omega⟩
  have hj:j<env.2.2.2.2.1.length:=by omega
  rw[pG (by unfold aB;omega) h hj he.1 (w36 h _ (ah hj))];exact .some (OY ..)
 refine Wp.dec (fun h=>?_) fun _=>?_
 .have h1:ar op=1:=by rw[h];decide
  refine Wp.bind (Wp.fI (NA h).1 (NA h).2 fun x hx _=>?_);refine Wp.bind (Wp.fI (am7 0) (by omega) fun y _ _=>?_)
  refine Wp.seq _ (zu _ _ _ (he.2 x hx)) fun r hr=>?_
  refine Wp.ite (fun _=> .some (by unfold Ce;omega)) fun hc=>?_
  obtain⟨a,b⟩:=hr (by simpa using hc);exact Wp.bind (Wp.fI a b fun z _ _=> .some NG)
 refine Wp.dec (fun h=>?_) fun _=>?_
 .have h1:ar op=1:=by rw[h];decide
  refine Wp.bind (Wp.fI (sY h) (Vw h) fun x hx WG=>?_);refine Wp.bind (Wp.fI (am7 0) (by omega) fun y _ _=>?_);obtain⟨k1,k2⟩:=w34 h x WG;obtain⟨m1,m2⟩:=f34 h
  have:0<=amy m 8:=by rw[Int.tmod_eq_emod_of_nonneg m1];omega
  exact Wp.seq _ (uH ⟨this,m2⟩ k1 k2 (he.2 x hx)) fun r hr=> .some hr.e
 refine Wp.dec (fun h=>?_) fun _=>?_
 .refine Wp.bind (Wp.fI (am7 0) (by omega) fun y _ _=>?_)
  exact Wp.seq _ (L6 ..) fun r _=> .some NG
 refine Wp.dec (fun h=>?_) fun _=>?_
 .refine Wp.bind (Wp.fI (am7 0) (by omega) fun y _ _=>?_);refine Wp.bind (Wp.fI (by omega) (by omega) fun z _ _=>?_)
  exact Wp.seq _ (Jc f14) fun r hr=> .some hr.e
 have h3:ar op=3:=by
  have:¬ar op=0:=by unfold ar;split<;>(try split)<;>(try split)<;>(try split)<;>omega
  have:=kK op;omega
 refine Wp.bind (Wp.fI (am7 0) (by omega) fun y _ _=>?_)
 refine Wp.dec (fun _=>Wp.bind (Wp.fI (by omega) (by omega) fun z _ _=> .some NG)) fun _=>Wp.bind (Wp.fI (by omega) (by omega) fun z _ _=> .some NG)
structure OZ(r:Vl×Int):Prop where
 ok:r.2=0->dp r.1.1 r.1.2.1 r.1.2.2
 bad:r.2≠0->r.1=((0,0,0):Int×Int×Int)
 code:r.2=0\/r.2=2\/r.2=3\/r.2=6\/r.2=8\/r.2=12
theorem pI{n:Ty}{args:List Vl}{env:cz.den}(he:im env)(hn:WF aa n)(hl:args.length<=100000):Wp (M.bL aB n args env) OZ:=by
 obtain⟨op,m⟩:=n;have hm:=hn.2;unfold M.bL
 have err:∀c:Int,c≠0->(c=2\/c=3\/c=6\/c=8\/c=12)->OZ (((0:Int),((0:Int),(0:Int))),c):=fun c h1 h2=>⟨fun h=>absurd h h1,fun _=>rfl, .inr h2⟩
 refine Wp.seq (fun j=>j=false->Fm op m/\(args.length:Int)=ar op) ?_ fun j hj=>?_
 .refine Wp.seq _ (tV ..) fun y hy=>?_
  refine Wp.ite (fun _=> .some fun h=>by cases h) fun hc=>?_
  rw[cJ]
  exact .some fun h=>⟨hy (by simpa using hc),by simpa using h⟩
 refine Wp.ite (fun _=> .some (err 2 (by decide) (by omega))) fun hc=>?_
 obtain⟨hf,ha⟩:=hj (by simpa using hc)
 refine Wp.seq _ (tW ..) fun y hy=>?_
 refine Wp.ite (fun _=> .some (err 6 (by decide) (by omega))) fun vj=>?_
 have hx:=hy (by simpa using vj)
 have sY:op=34->0<=alT.wrap (amh m 8):=fun e=>by
  have h0:=(hf.2.2.1 e).1;have h1:(m:Int)<=9223372036854775807:=hm.2;rw[amV h0];dsimp only[ae,Row.den]at h0 h1⊢;rw[aJ (by omega) (by omega)];omega
 refine Wp.seq (fun j=>j=false->WD op m env) ?_ fun j5 hj5=>?_
 .refine Wp.seq _ (CY _ hl (by unfold aB;omega)) fun y _=>?_
  refine Wp.ite (fun _=> .some fun h=>by cases h) fun _=>?_
  exact Wp.seq _ (xe hx ha sY) fun z hz=> .some fun h=>hz (by simpa using h)
 refine Wp.ite (fun _=> .some (err 8 (by decide) (by omega))) fun KX=>?_
 have WH:=hj5 (by simpa using KX)
 refine Wp.seq _ (xg he hf hx ha WH sY) fun r hr=>?_
 refine Wp.jz (fun h=> .some (err _ h (by unfold Ce at hr;omega))) fun _=>?_
 rw[dc];simp only[alS]
 refine Wp.jz (fun _=> .some (err 3 (by decide) (by omega))) fun hp=> .some ⟨fun _=>hp,fun h=>absurd rfl h, .inl rfl⟩
end L.P
end Go.Proofs.YtmihpkfkbfgigaaGreatDoor
end
section
open _root_.Int renaming toNat_natCast->al1
open _root_.Go.IntKind renaming i64->alT
open _root_.List renaming append_nil->amK,drop_eq_getElem_cons->amx,drop_of_length_le->amC,getD->amn,getElem?_append_left->amq,getElem?_append_right->amH,getElem?_drop->ami,getElem?_eq_getElem->alV,getElem?_eq_some_iff->alW,getElem?_map->amD,getElem_append_left->al5,getElem_append_right->ame,getElem_mem->al0,length_append->alY,length_map->amm,length_singleton->al6,mem_append->amf,mem_singleton->ama,replicate->alX,replicate_succ->amX,set_append_right->amz,take_append_of_le_length->aml,take_length->amc
open _root_.Nat renaming le_of_lt->anA,le_refl->alZ
open _root_.Option renaming bind_some->alS,getD_some->amu
open _root_.Option.some renaming inj->alU
namespace Go.Proofs.YtmihpkfkbfgigaaGreatDoor
open Go Go.RowKit
set_option maxRecDepth 100000
namespace L.P
abbrev dG(l:List Nat):List Int:=l.map (fun n:Nat=>(n:Int))
def mW(a:Int)(i:Nat)(sk:List Nat):Nat:=if a=0 then i else sk.getD (sk.length-a.toNat) 0
def kB:List Ty->Nat->List Nat->List Nat->(Nat×Int)⊕(List Nat×List Nat)
 |[],_,st,sk=> .inr (st,sk)
 |n::e,i,st,sk=>
  if ar n.1<0 then .inl (i,2)else if(sk.length:Int)<ar n.1 then .inl (i,5)else
  if 12<sk.length-(ar n.1).toNat+1 then .inl (i,16)else kB e (i+1) (st++[mW (ar n.1) i sk]) (sk.take (sk.length-(ar n.1).toNat)++[mW (ar n.1) i sk])
def qC(e:List Ty):Int×Int×List Int:=
 if 48<e.length then(0,4,[])else if e.length=0 then(0,5,[])else match kB e 0 [] []with
  | .inl (i,c)=>(i,c,[])
  | .inr (st,sk)=>if 1<sk.length then(e.length,4,[])else(0,0,dG st)
theorem AM(st:List Nat)(m:Nat)(v:Nat):aH (dG st++alX (m+1) (0:Int)) (st.length:Int) (v:Int)=dG (st++[v])++alX m (0:Int):=by
 unfold aH;rw[al1,amz _ _ (by simp),amX];simp
theorem tX(st:List Nat)(m:Nat)(u v:Nat):aH (dG (st++[u])++alX m (0:Int)) (st.length:Int) (v:Int)=dG (st++[v])++alX m (0:Int):=by
 unfold aH;rw[al1,List.set_append_left _ _ (by simp)]
 congr 1
 simp only[dG,List.map_append];rw[amz _ _ (by simp)];simp
theorem mQ(e:List Ty):M.fu aB e=some (qC e):=by
 apply Wp.eq;unfold M.fu qC
 refine Wp.dec (fun h=> .some ?_) fun h1=>?_
 .rw[if_pos (by omega)]
 rw[if_neg (show¬48<e.length by omega)]
 refine Wp.dec (fun h=> .some ?_) fun h2=>?_
 .rw[if_pos (show e.length=0 by omega)]
 rw[if_neg (show¬e.length=0 by omega)]
 have uB:lB (e.length:Int) (0:Int)=some (alX e.length 0):=by
  unfold lB;rw[if_pos (by omega),al1]
 rw[uB];simp only[alS];refine Wp.join (Wp.loop (fun s:Int×List Int×List Int=>∃st sk:List Nat,s=((st.length:Int),dG st++alX (e.length-st.length) 0,dG sk)/\st.length<=e.length/\sk.length<=12/\kB (e.drop st.length) st.length st sk=kB e 0 [] []) (fun s=>(e.length-s.1).toNat) ⟨[],[],by simp,by simp,by simp,by simp⟩ (by simp only;unfold aB;omega) ?_)
 rintro _ ⟨st,sk,rfl,fi,NH,bA⟩
 simp only
 refine Wp.dec (fun hk=>?_) fun hk=> .some ?_
 case refine_2=>
  have hd:e.drop st.length=[]:=amC (by omega);rw[hd]at bA;rw[<-bA]
  have h0:e.length-st.length=0:=by omega
  rw[h0];simp only[kB,List.replicate_zero,amK]
  show Wp _ _
  refine Wp.dec (fun h=> .some ?_) fun h=> .some ?_
  .rw[if_pos (by simp at h;omega)]
  .rw[if_neg (by simp at h;omega)]
 have dZ:st.length<e.length:=by omega
 have hd:e.drop st.length=e[st.length]::e.drop (st.length+1):=amx dZ
 obtain⟨m,hm⟩:∃m,e.length-st.length=m+1:=⟨e.length-st.length-1,by omega⟩
 rw[hd]at bA;rw[ah dZ,hm];simp only[alS,cJ];generalize gq:(e[st.length].1:Int)=op;rw[kB]at bA;rw[gq]at bA;have Jd:=kK op
 refine Wp.dec (fun h=> .some ?_) fun Fe=>?_
 .rw[if_pos h]at bA
  show _=_
  rw[<-bA]
 rw[if_neg Fe]at bA
 refine Wp.dec (fun h=> .some ?_) fun hlen=>?_
 .rw[if_pos (by simpa using h)]at bA
  show _=_
  rw[<-bA]
 have hlen:¬(sk.length:Int)<ar op:=by simpa using hlen
 rw[if_neg hlen]at bA
 obtain⟨a,ha⟩:∃a:Nat,ar op=a:=⟨(ar op).toNat,by omega⟩
 rw[ha]at bA Fe hlen Jd⊢
 have adk:a<=sk.length:=by omega
 have e6:idx (dG st++alX (m+1) (0:Int)) (st.length:Int)=some 0:=by
  rw[ah (by simp)];rw[ame (by simp)];simp
 rw[e6]
 have hw:alT.wrap (((dG sk).length:Int)-(a:Int))=((sk.length-a:Nat):Int):=by
  rw[amm,aJ (by omega) (by omega)];omega
 have hs:mW (a:Int) st.length sk=(if a=0 then st.length else sk.getD (sk.length-a) 0):=by
  unfold mW;by_cases h0:a=0
  .subst h0;simp
  .rw[if_neg (by omega),if_neg h0,al1]
 simp only[alS,AM,hw];refine Wp.seq (· =dG (st++[mW (a:Int) st.length sk])++alX m (0:Int)) ?_ ?_
 .refine Wp.dec (fun h=>?_) fun h=>?_
  .have aj:sk.length-a<(dG sk).length:=by simp;omega
   rw[ah aj]
   have e9:idx (dG (st++[st.length])++alX m (0:Int)) (st.length:Int)=some (st.length:Int):=by
    rw[ah (by simp)];rw[al5 (by simp)];simp
   simp only[alS,e9,List.getElem_map,tX];refine .some ?_;rw[hs,if_neg (by omega),show sk.getD (sk.length-a) 0=sk[sk.length-a]'(by simpa using aj) by simp[amn,show sk.length-a<sk.length by omega]]
  .refine .some ?_;rw[hs,if_pos (by omega)]
 .rintro _ rfl
  generalize mW (a:Int) st.length sk=s at bA⊢
  have xS:fH (dG sk) (0:Int) ((sk.length-a:Nat):Int)=some (dG (sk.take (sk.length-a))):=by
   rw[gG (by simp)];simp
  have e11:idx (dG (st++[s])++alX m (0:Int)) (st.length:Int)=some (s:Int):=by
   rw[ah (by simp)];rw[al5 (by simp)];simp
  have SB:bZ (dG (sk.take (sk.length-a))) [(s:Int)]=some (dG (sk.take (sk.length-a)++[s])):=by
   rw[bh (by simp;omega)];simp
  rw[xS];simp only[alS,e11,SB]
  have hl:(dG (sk.take (sk.length-a)++[s])).length=sk.length-a+1:=by simp
  rw[hl];rw[al1]at bA
  refine Wp.dec (fun h=> .some ?_) fun h=> .some ?_
  .rw[if_pos (by omega)]at bA
   show _=_
   rw[<-bA]
  .rw[if_neg (by omega)]at bA;rw[aD (by omega)];refine⟨⟨st++[s],sk.take (sk.length-a)++[s],?_,by simp;omega,by simp;omega,?_⟩,by simp only;omega⟩
   .have:e.length-(st++[s]).length=m:=by simp;omega
    rw[this];simp
   .rw[alY];exact bA
inductive Ch(st:List Nat):Nat->List Nat->Prop
 |nil:Ch st 0 []
 |snoc {i s:Nat} {l:List Nat} (h:st[i]? =some s) (hs:s<=i) (c:Ch st s l):Ch st (i+1) (l++[s])
theorem Ch.mono{st cf:List Nat}(hs:∀i s:Nat,st[i]? =some s->cf[i]? =some s){i:Nat}{l:List Nat}(h:Ch st i l):Ch cf i l:=by
 induction h with
 |nil=>exact .nil
 |snoc h1 h2 _ ih=>exact .snoc (hs _ _ h1) h2 ih
theorem sF{st:List Nat}{x i s:Nat}(h:st[i]? =some s):(st++[x])[i]? =some s:=by
 obtain⟨hi,_⟩:=alW.1 h;rw[amq hi,h]
theorem Ch.lt{st:List Nat}{i:Nat}{l:List Nat}(h:Ch st i l):∀x∈l,x<i:=by
 induction h with
 |nil=>simp
 |snoc h1 h2 _ ih=>
  intro x hx
  rcases amf.1 hx with hx|hx
  .have:=ih x hx;omega
  .rw[ama.1 hx];omega
theorem Ch.take{st:List Nat}{i:Nat}{l:List Nat}(h:Ch st i l):∀m(hm:m<l.length),Ch st l[m] (l.take m):=by
 induction h with
 |nil=>intro m hm;simp at hm
 | @snoc i s l h1 h2 c ih=>
   intro m hm;by_cases FZ:m<l.length
   .rw[al5 FZ,aml (by omega)];exact ih m FZ
   .have:m=l.length:=by simp at hm;omega
    subst this;rw[ame (by omega),aml (by omega),amc];simpa using c
theorem Ch.O0{st:List Nat}{i:Nat}{l l':List Nat}(h:Ch st i l)(h':Ch st i l'):l=l':=by
 induction h generalizing l' with
 |nil=>cases h' with
  |nil=>rfl
 | @snoc i s l h1 h2 c ih=>
   cases h' with
   |snoc g1 g2 c'=>
    rw[h1]at g1;obtain rfl:=alU g1;rw[ih c']
theorem Ch.pos{st:List Nat}{i:Nat}{l:List Nat}(h:Ch st i l)(hi:0<i):l≠[]:=by
 cases h with
 |nil=>omega
 |snoc=>simp
structure xP(e:List Ty)(st:List Nat):Prop where
 len:st.length=e.length
 node:∀p(h:p<e.length),0<=ar e[p].1/\∃l,Ch st p l/\(ar e[p].1).toNat<=l.length/\l.length-(ar e[p].1).toNat+1<=12/\st[p]? =some (mW (ar e[p].1) p l)
theorem xP.nil:xP [] []:=⟨rfl,fun p h=>by simp at h⟩
theorem xP.snoc{e:List Ty}{st:List Nat}(v:xP e st){n:Ty}{sk:List Nat}(h0:0<=ar n.1)(hc:Ch st e.length sk)(ha:(ar n.1).toNat<=sk.length)(hd:sk.length-(ar n.1).toNat+1<=12):xP (e++[n]) (st++[mW (ar n.1) e.length sk]):=by
 refine⟨by simp[v.len],fun p hp=>?_⟩;by_cases h:p<e.length
 .rw[al5 h];obtain⟨h1,l,h2,h3,h4,h5⟩:=v.node p h;exact⟨h1,l,h2.mono fun _ _ h=>sF h,h3,h4,sF h5⟩
 .have:p=e.length:=by simp at hp;omega
  subst this;rw[ame (by omega)];simp only[Nat.sub_self,List.getElem_cons_zero];refine⟨h0,sk,hc.mono fun _ _ h=>sF h,ha,hd,?_⟩;rw[<-v.len,amH (by omega)];simp[v.len]
theorem AN{a:Int}{i:Nat}{st l:List Nat}(h0:0<=a)(hc:Ch st i l)(ha:a.toNat<=l.length):mW a i l<=i:=by
 unfold mW;split
 .exact alZ _
 .have aj:l.length-a.toNat<l.length:=by omega
  simp only[amn,alV aj,amu];exact anA (hc.lt _ (al0 aj))
theorem Ch.next{st l:List Nat}{i:Nat}{a:Int}(h0:0<=a)(hc:Ch st i l)(ha:a.toNat<=l.length)(hs:st[i]? =some (mW a i l)):Ch st (i+1) (l.take (l.length-a.toNat)++[mW a i l]):=by
 refine .snoc hs (AN h0 hc ha) ?_;unfold mW;by_cases h:a=0
 .rw[if_pos h];subst h;simpa using hc
 .have aj:l.length-a.toNat<l.length:=by omega
  rw[if_neg h];simp only[amn,alV aj,amu];exact hc.take _ aj
theorem C1:∀(NI pre:List Ty)(st sk cf L7:List Nat),xP pre st->Ch st pre.length sk->kB NI pre.length st sk= .inr (cf,L7)->xP (pre++NI) cf/\Ch cf (pre++NI).length L7
 |[],pre,st,sk,cf,L7,v,c,h=>by
  rw[kB]at h;cases h;rw[amK];exact⟨v,c⟩
 |n::NI,pre,st,sk,cf,L7,v,c,h=>by
  rw[kB]at h;split at h
  .cases h
  split at h
  .cases h
  split at h
  .cases h
  rename_i h1 h2 h3
  have h0:0<=ar n.1:=by omega
  have ha:(ar n.1).toNat<=sk.length:=by omega
  have v':=v.snoc h0 c ha (by omega)
  have c1:Ch (st++[mW (ar n.1) pre.length sk]) pre.length sk:=c.mono fun _ _ h=>sF h
  have hs:(st++[mW (ar n.1) pre.length sk])[pre.length]? =some (mW (ar n.1) pre.length sk):=by
   rw[<-v.len,amH (by omega)];simp[v.len]
  have c':=c1.next h0 ha hs;have:=C1 NI (pre++[n]) _ _ cf L7 v' (by simpa using c') (by simpa using h);simpa using this
theorem C2{e:List Ty}{st:List Nat}(v:xP e st):∀(NI pre:List Ty)(sk:List Nat),pre++NI=e->Ch st pre.length sk->∃L7,kB NI pre.length (st.take pre.length) sk= .inr (st,L7)/\Ch st e.length L7
 |[],pre,sk,he,c=>by
  rw[amK]at he;subst he;exact⟨sk,by rw[kB,<-v.len,amc],c⟩
 |n::NI,pre,sk,he,c=>by
  subst he;obtain⟨h0,l,h1,h2,h3,h4⟩:=v.node pre.length (by simp);rw[ame (by omega)]at h0 h2 h3 h4;simp only[Nat.sub_self,List.getElem_cons_zero]at h0 h2 h3 h4;obtain rfl:=h1.O0 c;rw[kB,if_neg (by omega),if_neg (by omega),if_neg (by omega)];have c':=c.next h0 h2 h4;obtain⟨L7,g1,g2⟩:=C2 v NI (pre++[n]) _ (by simp) (by simpa using c');refine⟨L7,?_,g2⟩;rw[<-g1]
  have:(st.take pre.length++[mW (ar n.1) pre.length l])=st.take (pre++[n]).length:=by
   obtain⟨hi,hg⟩:=alW.1 h4;rw[alY,al6,List.take_succ_eq_append_getElem hi,hg]
  rw[this];simp
theorem L8{st:List Nat}{P:Nat}(IH:∀p:Nat,p<P->∀q s:Nat,st[p]? =some s->s<=q->q<=p->∃s':Nat,st[q]? =some s'/\s<=s'){i:Nat}{l:List Nat}(c:Ch st i l):i<=P->∀m(hm:m<l.length)q,l[m]<=q->q<i->∃s',st[q]? =some s'/\l[m]<=s':=by
 induction c with
 |nil=>intro _ m hm;simp at hm
 | @snoc i s l h1 h2 c ih=>
   intro hP m hm q hq hqi;by_cases hs:s<=q
   .obtain⟨s',g1,g2⟩:=IH i (by omega) q s h1 hs (by omega);refine⟨s',g1,?_⟩;by_cases FZ:m<l.length
    .rw[al5 FZ];have:=c.lt _ (al0 FZ);omega
    .have:m=l.length:=by simp at hm;omega
     subst this;simpa using g2
   .have FZ:m<l.length:=by
     by_cases FZ:m<l.length
     .exact FZ
     .have:m=l.length:=by simp at hm;omega
      subst this;simp at hq;omega
    rw[al5 FZ]at hq⊢;exact ih (by omega) m FZ q hq (by omega)
theorem xP.nest{e:List Ty}{st:List Nat}(v:xP e st):∀p q s:Nat,st[p]? =some s->s<=q->q<=p->∃s':Nat,st[q]? =some s'/\s<=s':=by
 intro p
 induction p using Nat.strongRecOn with
 |_ p IH=>
  intro q s hp hsq hqp;by_cases hq:q=p
  .subst hq;exact⟨s,hp,alZ _⟩
  .have aj:p<e.length:=by rw[<-v.len];exact(alW.1 hp).1
   obtain⟨h0,l,h1,h2,h3,h4⟩:=v.node p aj;rw[hp]at h4;have h4:=alU h4;unfold mW at h4;split at h4
   .omega
   .rename_i bR
    have hm:l.length-(ar e[p].1).toNat<l.length:=by omega
    simp only[amn,alV hm,amu]at h4;have:=L8 (P:=p) IH h1 (alZ _) _ hm q (by rw[<-h4];exact hsq) (by omega);rw[<-h4]at this;exact this
def Je(st:List Nat)(s P:Nat):List Nat:=((st.take (P+1)).drop s).map (· -s)
theorem xh{st:List Nat}{s P q t:Nat}(h:st[q]? =some t)(hs:s<=q)(hq:q<=P):(Je st s P)[q-s]? =some (t-s):=by
 unfold Je;rw[amD,ami,show s+(q-s)=q by omega,List.getElem?_take_of_lt (by omega),h];rfl
theorem Ch.cut{e:List Ty}{st:List Nat}(v:xP e st){P s:Nat}(hP:st[P]? =some s){i:Nat}{l:List Nat}(c:Ch st i l):s<=i->i<=P+1->∃l0 l1,l=l0++l1/\Ch st s l0/\(∀x∈l1,s<=x)/\Ch (Je st s P) (i-s) (l1.map (· -s)):=by
 induction c with
 |nil=>
  intro h1 _
  obtain rfl:s=0:=by omega
  exact⟨[],[],rfl, .nil,by simp, .nil⟩
 | @snoc i t l h1 h2 c ih=>
   intro h3 h4;by_cases hs:s=i+1
   .subst hs;exact⟨l++[t],[],by simp, .snoc h1 h2 c,by simp,by simpa using .nil⟩
   .obtain⟨t',g1,g2⟩:=v.nest P i s hP (by omega) (by omega);rw[h1]at g1;obtain rfl:=alU g1;obtain⟨l0,l1,rfl,k1,k2,k3⟩:=ih g2 (by omega);refine⟨l0,l1++[t],by simp,k1,fun x hx=>?_,?_⟩
    .rcases amf.1 hx with hx|hx
     .exact k2 x hx
     .rw[ama.1 hx];exact g2
    .rw[show i+1-s=(i-s)+1 by omega,List.map_append];exact .snoc (xh h1 (by omega) (by omega)) (by simp only;omega) k3
theorem xP.cut{e:List Ty}{st:List Nat}(v:xP e st){P s:Nat}(hP:st[P]? =some s):xP ((e.take (P+1)).drop s) (Je st s P):=by
 have aj:P<e.length:=by rw[<-v.len];exact(alW.1 hP).1
 refine⟨by simp[Je,v.len],fun p hp=>?_⟩
 have hp':s+p<P+1:=by simp at hp;omega
 have HC:((e.take (P+1)).drop s)[p]=e[s+p]:=by simp
 rw[HC];obtain⟨h0,l,h1,h2,h3,h4⟩:=v.node (s+p) (by omega);obtain⟨l0,l1,rfl,k1,k2,k3⟩:=h1.cut v hP (by omega) (by omega);rw[Nat.add_sub_cancel_left]at k3;obtain⟨t,g1,g2⟩:=v.nest P (s+p) s hP (by omega) (by omega);have e4:=g1;rw[h4]at g1;have g1:=alU g1
 have Bj:(ar e[s+p].1).toNat<=l1.length:=by
  by_cases ha:ar e[s+p].1=0
  .omega
  .unfold mW at g1;rw[if_neg ha]at g1
   have hm:(l0++l1).length-(ar e[s+p].1).toNat<(l0++l1).length:=by omega
   simp only[amn,alV hm,amu]at g1
   rcases Nat.lt_or_ge ((l0++l1).length-(ar e[s+p].1).toNat) l0.length with hc|hc
   .rw[al5 hc]at g1;have:=k1.lt _ (al0 hc);omega
   .simp at hc h2;omega
 refine⟨h0,l1.map (· -s),k3,by simpa using Bj,by simp at h3⊢;omega,?_⟩;have xS:=xh (s:=s) (P:=P) e4 (by omega) (by omega);rw[Nat.add_sub_cancel_left]at xS;rw[xS,<-g1];refine congrArg some ?_;unfold mW;by_cases ha:ar e[s+p].1=0
 .rw[if_pos ha,if_pos ha];omega
 .rw[if_neg ha,if_neg ha]
  have hm:(l0++l1).length-(ar e[s+p].1).toNat<(l0++l1).length:=by omega
  have YX:l1.length-(ar e[s+p].1).toNat<l1.length:=by omega
  simp only[amn,alV hm,amu,amm,amD,alV YX,Option.map_some];rw[ame (by simp;omega)]
  congr 2
  simp;omega
end L.P
end Go.Proofs.YtmihpkfkbfgigaaGreatDoor
end
section
open _root_.Int renaming toNat_natCast->al1
open _root_.List renaming append_assoc->amk,append_nil->amK,drop_append_of_le_length->amG,drop_eq_getElem_cons->amx,drop_of_length_le->amC,getD->amn,getElem?_eq_getElem->alV,getElem?_eq_some_iff->alW,getElem_append_left->al5,getElem_append_right->ame,getElem_mem->al0,mem_append->amf,mem_singleton->ama,replicate->alX,replicate_succ->amX,set_append_right->amz
open _root_.Nat renaming le_of_lt->anA,le_refl->alZ,min_eq_left->amF
open _root_.Option renaming bind_some->alS
open _root_.Prod.mk renaming injEq->amZ
namespace Go.Proofs.YtmihpkfkbfgigaaGreatDoor
open Go Go.RowKit
namespace L.P
def opsL(st:List Nat):Nat->Nat->List Nat
 |0,_=>[]
 |a+1,i=>opsL st a (st.getD (i-1) 0)++[i-1]
theorem dg(st:List Nat):∀a i,(opsL st a i).length=a
 |0,_=>rfl
 |a+1,i=>by simp[opsL,dg st a]
theorem L9{st l:List Nat}{i:Nat}(c:Ch st i l):∀a,a<=l.length->(∀o∈opsL st a i,o<i/\(if h:l.length-a<l.length then l[l.length-a]else i)<=o/\∃s,st[o]? =some s/\s<=o/\(if h:l.length-a<l.length then l[l.length-a]else i)<=s):=by
 induction c with
 |nil=>intro a ha o ho;simp at ha;subst ha;simp[opsL]at ho
 | @snoc i s l h1 h2 c ih=>
   intro a ha o ho
   cases a with
   |zero=>simp[opsL]at ho
   |succ a=>
    have aj:(l++[s]).length-(a+1)<(l++[s]).length:=by simp;omega
    rw[dif_pos aj]
    have e1:(l++[s])[(l++[s]).length-(a+1)]=(if h:l.length-a<l.length then l[l.length-a]else s):=by
     split
     .rename_i h;rw[al5 (by simp;omega)]
      congr 1
      simp
     .rename_i h;rw[ame (by simp;omega)];simp
    rw[e1]
    have hg:st.getD (i+1-1) 0=s:=by simp[amn,h1]
    rw[opsL,hg]at ho;simp at ha
    have hle:(if h:l.length-a<l.length then l[l.length-a]else s)<=s:=by
     split
     .rename_i h;exact anA (c.lt _ (al0 h))
     .exact alZ _
    rcases amf.1 ho with ho|ho
    .obtain⟨g1,g2,t,g3,g4,g5⟩:=ih a ha o ho;exact⟨by omega,g2,t,g3,g4,g5⟩
    .rw[ama.1 ho,Nat.add_sub_cancel];exact⟨by omega,by omega,s,h1,h2,hle⟩
theorem xP.ops{e:List Ty}{st:List Nat}(v:xP e st){p:Nat}(h:p<e.length):∀o∈opsL st (ar e[p].1).toNat p,o<p/\∃s t,st[o]? =some s/\s<=o/\st[p]? =some t/\t<=s:=by
 obtain⟨h0,l,h1,h2,_,h4⟩:=v.node p h;intro o ho;obtain⟨g1,g2,s,g3,g4,g5⟩:=L9 h1 _ h2 o ho;refine⟨g1,s,_,g3,g4,h4,?_⟩;unfold mW;split
 .rename_i hz;rw[hz]at ho;simp[opsL]at ho
 .have hm:l.length-(ar e[p].1).toNat<l.length:=by omega
  rw[dif_pos hm]at g5;simpa[amn,alV hm]using g5
def z3:Vl:=((0,0,0):Int×Int×Int)
def eQ(g:Nat->Vl×Int):List Nat->List Vl⊕Int
 |[]=> .inl []
 |o::os=>if(g o).2=0 then(match eQ g os with
  | .inl vs=> .inl ((g o).1::vs)
  | .inr c=> .inr c)else .inr (g o).2
def gH(r:Vl×Int):Vl×Int:=if r.2≠0 then(z3,r.2)else if(r.1.1:Int)=1/\dp r.1.1 r.1.2.1 r.1.2.2 then(r.1,0)else(z3,8)
def C4(g:Nat->Vl×Int)(n:Ty)(ops:List Nat):Vl×Int:=
 if(n.2:Int)≠0 then(z3,2)else
 if(gH (g (ops.getD 0 0))).2≠0 then(z3,(gH (g (ops.getD 0 0))).2)else
 if(n.1:Int)=26/\((gH (g (ops.getD 0 0))).1.2.2:Int)=1 then g (ops.getD 1 0)else
 if(n.1:Int)=26 then g (ops.getD 2 0)else
 if((n.1:Int)=23)=(((gH (g (ops.getD 0 0))).1.2.2:Int)=0)then((gH (g (ops.getD 0 0))).1,0)else gH (g (ops.getD 1 0))
def bM(op:Int):Prop:=op=23\/op=24\/op=26
instance(op:Int):Decidable (bM op):=by unfold bM;infer_instance
noncomputable def fg(ap:Ty->List Vl->Vl×Int)(e:List Ty)(st:List Nat):Nat->Nat->Vl×Int
 |0,_=>(z3,0)
 |f+1,i=>if bM (e.getD i ((0,0):Int×Int)).1 then C4 (fg ap e st f) (e.getD i ((0,0):Int×Int)) (opsL st (ar (e.getD i ((0,0):Int×Int)).1).toNat i)
  else match eQ (fg ap e st f) (opsL st (ar (e.getD i ((0,0):Int×Int)).1).toNat i)with
   | .inl vs=>ap (e.getD i ((0,0):Int×Int)) vs
   | .inr c=>(z3,c)
theorem uI{e:List Ty}{st:List Nat}(v:xP e st)(hl:e.length<=100000)(env:cz.den){i:Nat}(hi:i<e.length):M.eM aB (e,(dG st,env)) (i:Int)=some (dG (opsL st (ar e[i].1).toNat i)):=by
 apply Wp.eq;obtain⟨h0,l,hc,ha,hd,_⟩:=v.node i hi;unfold M.eM;simp only;rw[ah hi];simp only[alS,cJ]
 obtain⟨a,hea⟩:∃a:Nat,ar e[i].1=a:=⟨(ar e[i].1).toNat,by omega⟩
 have hle:=kK e[i].1;rw[hea]at ha hle⊢;rw[al1]at ha⊢
 have uB:lB (a:Int) (0:Int)=some (alX a 0):=by
  unfold lB;rw[if_pos (by omega),al1]
 rw[uB];simp only[alS,List.length_replicate];refine Wp.loop (fun s:Int×Int×List Int=>∃b p:Nat,∃dn l':List Nat,s=((p:Int)-1,(b:Int)-1,alX b (0:Int)++dG dn)/\b<=a/\p<=i/\opsL st a i=opsL st b p++dn/\Ch st p l'/\b<=l'.length) (fun s=>(s.2.1+1).toNat) ⟨a,i,[],l,?_,alZ _,alZ _,by simp,hc,ha⟩ ?_ ?_
 .rw[aJ (by omega) (by omega),aJ (by omega) (by omega)];simp
 .simp only;rw[aJ (n:=(a:Int)-1) (by omega) (by omega)];unfold aB;omega
 .rintro _ ⟨b,p,dn,l',rfl,h1,h2,h3,h4,h5⟩
  simp only
  refine Wp.dec (fun hb=>?_) fun hb=> .some ?_
  .obtain⟨b,rfl⟩:∃m,b=m+1:=⟨b-1,by omega⟩
   cases h4 with
   |nil=>simp at h5
   | @snoc p u l' g1 g2 c=>
     simp at h5;have hp:p<st.length:=(alW.1 g1).1
     have e5:idx (alX (b+1) (0:Int)++dG dn) (((b+1:Nat):Int)-1)=some 0:=by
      rw[show((b+1:Nat):Int)-1=(b:Int) by omega,ah (by simp;omega),al5 (by simp)];simp
     have e6:idx (dG st) (((p+1:Nat):Int)-1)=some (u:Int):=by
      rw[show((p+1:Nat):Int)-1=(p:Int) by omega,ah (by simpa using hp)];have:=(alW.1 g1).2;simp[this]
     rw[e5,e6];simp only[alS];rw[aJ (n:=(u:Int)-1) (by omega) (by omega),aJ (n:=(((b+1:Nat):Int)-1)-1) (by omega) (by omega)];refine .some ⟨⟨b,u,p::dn,l',?_,by omega,by omega,?_,c,h5⟩,by simp only;omega⟩
     .have e7:aH (alX (b+1) (0:Int)++dG dn) (((b+1:Nat):Int)-1) (((p+1:Nat):Int)-1)=alX b (0:Int)++dG (p::dn):=by
       unfold aH;rw[show(((b+1:Nat):Int)-1).toNat=b by omega,show((p+1:Nat):Int)-1=(p:Int) by omega,List.replicate_succ',amk,amz _ _ (by simp)];simp
      rw[e7];simp only[amZ,and_true,true_and];omega
     .rw[h3,opsL]
      have:st.getD (p+1-1) 0=u:=by simp[amn,g1]
      rw[this];simp
  .obtain rfl:b=0:=by omega
   show _=_
   rw[h3];simp[opsL]
noncomputable def jL(env:cz.den)(n:Ty)(args:List Vl):Vl×Int:=(M.bL aB n args env).getD (z3,0)
theorem zv{env:cz.den}(he:im env){n:Ty}(hn:WF aa n){args:List Vl}(hl:args.length<=100000):M.bL aB n args env=some (jL env n args):=by
 obtain⟨r,hr,_⟩:=pI (n:=n) (args:=args) he hn hl;unfold jL;rw[hr];rfl
theorem GL{env:cz.den}(he:im env){n:Ty}(hn:WF aa n){args:List Vl}(hl:args.length<=100000):OZ (jL env n args):=by
 obtain⟨r,hr,h⟩:=pI (n:=n) (args:=args) he hn hl;unfold jL;rw[hr];exact h
theorem xi{N:Nat}{x:bq.den}{o:Int}{r:Vl×Int}(h:M.bJ aB N x o=some r):M.dx aB (N+1) x o=some (gH r):=by
 unfold M.dx gH;rw[h];simp only[alS,dc];by_cases h0:r.2=0
 .by_cases h1:(r.1.1:Int)=1
  .by_cases h2:dp r.1.1 r.1.2.1 r.1.2.2
   .rw[h1]at h2;simp[h0,h1,h2]
   .rw[h1]at h2;simp[h0,h1,h2,z3]
  .simp[h0,h1,z3]
 .simp[h0,z3]
theorem pJ{g:Nat->Vl×Int}:∀(os:List Nat)(k:Nat),k<=os.length->∀vs,eQ g (os.take k)= .inl vs->eQ g os=(match eQ g (os.drop k)with
 | .inl ws=> .inl (vs++ws)
 | .inr c=> .inr c)
 |os,0,_,vs,h=>by
  rw[List.take_zero,eQ]at h;cases h;rw[List.drop_zero]
  cases eQ g os<;>rfl
 |[],k+1,h,_,_=>by simp at h
 |o::os,k+1,hk,vs,h=>by
  rw[List.take_succ_cons,eQ]at h;split at h
  .rename_i h0
   cases hq:eQ g (os.take k)with
   |inr c=>rw[hq]at h;cases h
   |inl ws=>
    rw[hq]at h;cases h;have:=pJ os k (by simpa using hk) ws hq;rw[eQ,if_pos h0,this,List.drop_succ_cons]
    cases eQ g (os.drop k)<;>rfl
  .cases h
theorem tY{g:Nat->Vl×Int}:∀{os:List Nat}{vs:List Vl},eQ g os= .inl vs->vs.length=os.length
 |[],vs,h=>by cases h;rfl
 |o::os,vs,h=>by
  rw[eQ]at h;split at h
  .cases hq:eQ g os with
   |inr c=>rw[hq]at h;cases h
   |inl ws=>rw[hq]at h;cases h;simp[tY hq]
  .cases h
theorem O1{e:List Ty}{st:List Nat}(v:xP e st)(hl:e.length<=100000){env:cz.den}(he:im env)(hw:∀n∈e,WF aa n):∀(f N i:Nat),i<f->i<e.length->3*f<=N->M.bJ aB N (e,(dG st,env)) (i:Int)=some (fg (jL env) e st f i):=by
 intro f
 induction f with
 |zero=>intro N i h;omega
 |succ f ih=>
  intro N i GM hi hN
  obtain⟨N,rfl⟩:∃m,N=m+3:=⟨N-3,by omega⟩
  have adn:=v.ops hi
  have hge:e.getD i ((0,0):Int×Int)=e[i]:=by simp[amn,hi]
  have hlen:=dg st (ar e[i].1).toNat i;have Jd:=kK e[i].1
  have C5:∀M',3*f<=M'->∀o∈opsL st (ar e[i].1).toNat i,M.bJ aB M' (e,(dG st,env)) (o:Int)=some (fg (jL env) e st f o):=by
   intro M' hM' o ho;obtain⟨g1,_⟩:=adn o ho;exact ih M' o (by omega) (by omega) hM'
  unfold fg M.bJ;rw[hge,uI v hl env hi];simp only;rw[ah hi];simp only[alS];rw[vb];simp only[alS];have Jf:=hw e[i] (al0 hi);generalize ajz:opsL st (ar e[i].1).toNat i=ops at*;by_cases hz:bM e[i].1
  .rw[if_pos hz,if_pos (by simpa[bM]using hz)]
   have ha2:2<=ops.length/\((e[i].1:Int)=26->3<=ops.length):=by
    have:2<=ar e[i].1/\((e[i].1:Int)=26->ar e[i].1=3):=by
     revert hz;generalize(e[i].1:Int)=op;intro hz
     rcases hz with rfl|rfl|rfl<;>decide
    refine⟨by omega,fun h=>?_⟩;have:=this.2 h;omega
   have gd:∀k(hk:k<ops.length),idx (dG ops) (k:Int)=some ((ops.getD k 0:Nat):Int)/\ops.getD k 0∈ops:=by
    intro k hk
    have:ops.getD k 0=ops[k]:=by simp[amn,hk]
    rw[this];refine⟨?_,al0 hk⟩;rw[ah (by simpa using hk)];simp
   obtain⟨i0,m0⟩:=gd 0 (by omega);obtain⟨i1,m1⟩:=gd 1 (by omega);unfold M.iC;rw[show((0:Nat):Int)=0 from rfl]at i0;rw[show((1:Nat):Int)=1 from rfl]at i1;rw[i0,i1];simp only[alS];rw[xi (C5 N (by omega) _ m0),xi (C5 N (by omega) _ m1),C5 (N+1) (by omega) _ m1];simp only[alS,aF,mG];unfold C4;generalize hb:gH (fg (jL env) e st f (ops.getD 0 0))=b;by_cases h2:(e[i].2:Int)=0
   .rw[if_neg (by simp[h2])];by_cases QC:b.2=0
    .rw[if_neg (by simp[QC])];by_cases XH:(e[i].1:Int)=26
     .obtain⟨i2,m2⟩:=gd 2 (by have:=ha2.2 XH;omega);rw[show((2:Nat):Int)=2 from rfl]at i2;rw[i2];simp only[alS];rw[C5 (N+1) (by omega) _ m2];by_cases hn:(b.1.2.2:Int)=1
      .simp[h2,QC,XH,hn]
      .simp[h2,QC,XH,hn]
     .by_cases h23:(e[i].1:Int)=23<;>by_cases hn:(b.1.2.2:Int)=0<;>simp[h2,QC,XH,h23,hn]
    .simp[h2,QC,z3]
   .simp[h2,z3]
  .rw[if_neg hz,if_neg (by simpa[bM]using hz)]
   have uB:lB ((dG ops).length:Int) ((0:Int),((0:Int),(0:Int)))=some (alX ops.length z3):=by
    unfold lB;rw[if_pos (by simp;omega)];simp[z3]
   rw[uB];simp only[alS];apply Wp.eq;refine Wp.join (Wp.loop (fun s:Int×List Vl=>∃vs:List Vl,s=((vs.length:Int),vs++alX (ops.length-vs.length) z3)/\vs.length<=ops.length/\eQ (fg (jL env) e st f) (ops.take vs.length)= .inl vs) (fun s=>(ops.length-s.1).toNat) ⟨[],by simp,by simp,by simp[eQ]⟩ (by simp only;unfold aB;omega) ?_)
   rintro _ ⟨vs,rfl,JW,hva⟩
   simp only;have sV:=pJ ops vs.length JW vs hva
   refine Wp.dec (fun hk=>?_) fun hk=> .some ?_
   .have dZ:vs.length<ops.length:=by simp at hk;omega
    have ado:vs.length<(dG ops).length:=by simpa using dZ
    rw[ah ado];simp only[alS,List.getElem_map];rw[C5 (N+2) (by omega) _ (al0 dZ)];simp only[alS];have hd:ops.drop vs.length=ops[vs.length]::ops.drop (vs.length+1):=amx dZ;rw[hd,eQ]at sV;have ht:ops.take (vs.length+1)=ops.take vs.length++[ops[vs.length]]:=List.take_succ_eq_append_getElem dZ
    obtain⟨r,hr⟩:∃r,fg (jL env) e st f ops[vs.length]=r:=⟨_,rfl⟩
    rw[hr]at sV⊢;by_cases h0:r.2=0
    .rw[if_neg (by simp[h0])]
     obtain⟨m,hm⟩:∃m,ops.length-vs.length=m+1:=⟨ops.length-vs.length-1,by omega⟩
     rw[hm]
     have e8:idx (vs++alX (m+1) z3) (vs.length:Int)=some z3:=by
      rw[ah (by simp),ame (by omega)];simp
     have e9:aH (vs++alX (m+1) z3) (vs.length:Int) r.1=(vs++[r.1])++alX m z3:=by
      unfold aH;rw[al1,amz _ _ (by omega),amX];simp
     rw[e8];simp only[alS,e9];rw[aD (by omega)]
     have lC:eQ (fg (jL env) e st f) [ops[vs.length]]= .inl [r.1]:=by
      simp only[eQ,hr];rw[if_pos h0]
     have KP:=pJ (g:=fg (jL env) e st f) (ops.take (vs.length+1)) vs.length (by simp;omega) vs (by rw[List.take_take,amF (by omega)];exact hva);rw[ht,amG (by simp;omega),amC (by simp;omega),List.nil_append,lC]at KP;refine .some ⟨⟨vs++[r.1],?_,by simp;omega,?_⟩,by simp only;omega⟩
     .have:ops.length-(vs++[r.1]).length=m:=by simp;omega
      rw[this];simp
     .rw[show(vs++[r.1]).length=vs.length+1 by simp,ht];exact KP
    .rw[if_pos (by simp[h0])];rw[if_neg h0]at sV;refine .some ?_
     show _=_
     rw[sV];rfl
   .have XI:ops.drop vs.length=[]:=amC (by simp at hk;omega);rw[XI,eQ]at sV;rw[sV]
    have h0:ops.length-vs.length=0:=by simp at hk;omega
    rw[h0];simp only[List.replicate_zero,amK]
    show Wp ((M.bL aB e[i] vs env).bind fun lJ=>some (lJ.1,lJ.2)) _
    rw[zv he Jf (by omega)];exact .some rfl
end L.P
end Go.Proofs.YtmihpkfkbfgigaaGreatDoor
end
section
open _root_.Go.IntKind renaming i64->alT
open _root_.List renaming getElem?_eq_some_iff->alW,length_append->alY,length_eq_zero_iff->am1,length_singleton->al6
open _root_.Nat renaming le_refl->alZ
open _root_.Option renaming bind_some->alS
namespace Go.Proofs.YtmihpkfkbfgigaaGreatDoor
open Go Go.RowKit
set_option maxRecDepth 100000
namespace L.P
structure Whole(e:List Ty)(st:List Nat):Prop where
 val:xP e st
 ne:e≠[]
 le:e.length<=48
 one:st[e.length-1]? =some 0
 res:qC e=(0,0,dG st)
theorem zw:∀(e:List Ty)(i:Nat)(st sk:List Nat)(j:Nat)(c:Int),kB e i st sk= .inl (j,c)->c=2\/c=5\/c=16
 |[],_,_,_,_,_,h=>by rw[kB]at h;cases h
 |n::e,i,st,sk,j,c,h=>by
  rw[kB]at h;split at h
  .cases h;exact .inl rfl
  split at h
  .cases h;exact .inr (.inl rfl)
  split at h
  .cases h;exact .inr (.inr rfl)
  exact zw e _ _ _ j c h
theorem Ch.O2{st l:List Nat}{n:Nat}(h:Ch st n l)(hl:l=[]):n=0:=by
 cases h with
 |nil=>rfl
 |snoc=>simp at hl
theorem Ch.Ma{st l:List Nat}{n:Nat}(h:Ch st n l)(hl:n=0):l=[]:=by
 cases h with
 |nil=>rfl
 |snoc=>omega
theorem Ch.one{st l:List Nat}{n:Nat}(h:Ch st n l)(hn:0<n):l.length<=1↔st[n-1]? =some 0:=by
 cases h with
 |nil=>omega
 | @snoc i s l h1 h2 c=>
   rw[Nat.add_sub_cancel,h1];constructor
   .intro hl;have:l=[]:=am1.1 (by rw[alY,al6]at hl;omega);rw[c.O2 this]
   .intro hs
    have h0:s=0:=by simpa using hs
    rw[h0]at c;rw[c.Ma rfl];simp
theorem C6{e:List Ty}{st:List Nat}(v:xP e st)(bR:e≠[])(hl:e.length<=48)(h1:st[e.length-1]? =some 0):Whole e st:=by
 have nO:0<e.length:=List.length_pos_iff.2 bR;refine⟨v,bR,hl,h1,?_⟩;obtain⟨sk,g1,g2⟩:=C2 v e [] [] rfl .nil;simp only[List.length_nil,List.take_zero]at g1;unfold qC;rw[if_neg (by omega),if_neg (by omega),g1];simp only;rw[if_neg];have:=(g2.one nO).2 h1;omega
theorem Ff(e:List Ty):(qC e).2.1≠0\/∃st,Whole e st:=by
 unfold qC;split
 .left;show(4:Int)≠0;decide
 rename_i hl;split
 .left;show(5:Int)≠0;decide
 rename_i bR
 cases hs:kB e 0 [] []with
 |inl p=>
  left
  obtain⟨j,c⟩:=p
  show c≠0
  have:=zw _ _ _ _ _ _ hs;omega
 |inr p=>
  obtain⟨st,sk⟩:=p;obtain⟨v,c⟩:=C1 e [] [] [] st sk xP.nil .nil hs;simp only[List.nil_append]at v c;by_cases h1:1<sk.length
  .left
   simp only[if_pos h1];decide
  .right
   exact⟨st,C6 v (fun h=>bR (by rw[h];rfl)) (by omega) ((c.one (by omega)).1 (by omega))⟩
theorem Whole.sub{e:List Ty}{st:List Nat}(w:Whole e st){o s:Nat}(ho:st[o]? =some s)(hs:s<=o):Whole ((e.take (o+1)).drop s) (Je st s o):=by
 have aj:o<e.length:=by rw[<-w.val.len];exact(alW.1 ho).1
 have hlen:((e.take (o+1)).drop s).length=o+1-s:=by simp;omega
 have hle:=w.le;refine C6 (w.val.cut ho) (fun h=>?_) (by omega) ?_
 .rw[h]at hlen;simp at hlen;omega
 .rw[hlen,show o+1-s-1=o-s by omega,xh ho hs (alZ _),Nat.sub_self]
theorem xj{e:List Ty}{st:List Nat}(w:Whole e st){env:cz.den}(he:im env)(hw:∀n∈e,WF aa n):M.iy aB e env=some (fg (jL env) e st e.length (e.length-1)):=by
 have nO:0<e.length:=List.length_pos_iff.2 w.ne;have hle:=w.le;unfold M.iy M.gM;rw[mQ,w.res];simp only[alS];rw[if_neg (by simp)];unfold M.jI;rw[show alT.wrap ((e.length:Int)-1)=((e.length-1:Nat):Int) by rw[aJ (by omega) (by omega)];omega];rw[O1 w.val (by omega) he hw e.length aB (e.length-1) (by omega) (by omega) (by unfold aB;omega)];rfl
end L.P
end Go.Proofs.YtmihpkfkbfgigaaGreatDoor
end
section
namespace Go.Proofs.YtmihpkfkbfgigaaGreatDoor
open Go Go.RowKit
set_option maxRecDepth 100000
namespace L.P
end L.P
end Go.Proofs.YtmihpkfkbfgigaaGreatDoor
end
section
open _root_.Bool renaming false_eq_true->al2,not_true->am4
open _root_.Int renaming toNat_natCast->al1
open _root_.Go.IntKind renaming i64->alT
open _root_.List renaming getD->amn,getElem?_eq_some_iff->alW,length_append->alY,length_singleton->al6,mem_of_getElem?->amM,replicate->alX,take_append_of_le_length->aml,take_length->amc
open _root_.Nat renaming le_refl->alZ,zero_le->amj
open _root_.Option renaming bind_some->alS
namespace Go.Proofs.YtmihpkfkbfgigaaGreatDoor
open Go Go.RowKit
set_option maxRecDepth 100000
namespace L.P
theorem lR(N:Nat)(op:Int):M.eT N op=some (decide (50<=op/\op<=53)):=by
 unfold M.eT
 by_cases h:50<=op<;>simp[h]
theorem nk(N:Nat)(op:Int):M.da N op=some (decide (¬bM op/\(50<=op/\op<=53\/0<=ar op))):=by
 unfold M.da;rw[vb,lR,cJ];simp only[alS];unfold bM;by_cases h:op=23\/op=24\/op=26
 .simp[h]
 .by_cases h2:50<=op/\op<=53
  .simp[h,h2]
  .simp[h,h2]
theorem kM(N:Nat)(op:Int):M.fj N op=some (decide (op=50\/op=52\/op=53)):=by
 unfold M.fj;by_cases h:op=50
 .simp[h]
 .by_cases h2:op=52
  .simp[h2]
  .simp[h,h2]
def gd(D:List Int)(k:Nat):Int:=D.getD k (-1)
theorem iD{D:List Int}{t:Nat}(ht:t<D.length)(d:Int)(k:Nat):gd (D.set t d) k=if k=t then d else gd D k:=by
 unfold gd amn;by_cases h:k=t
 .subst h;rw[if_pos rfl,List.getElem?_set_self ht];rfl
 .rw[if_neg h,List.getElem?_set_ne (by omega)]
theorem kC{D:List Int}{t:Nat}(ht:t<D.length):idx D (t:Int)=some (gd D t):=by
 rw[ah ht];simp[gd,amn,ht]
def Bd(D:List Int):Prop:=∀k,-1<=gd D k/\gd D k<=12
structure Mn(D D':List Int)(i:Nat):Prop where
 len:D'.length=D.length
 keep:∀k,0<=gd D k->gd D' k=gd D k
 low:∀k,k<=i->gd D' k=gd D k
theorem Mn.refl(D:List Int)(i:Nat):Mn D D i:=⟨rfl,fun _ _=>rfl,fun _ _=>rfl⟩
theorem Mn.trans{A B C:List Int}{i:Nat}(h:Mn A B i)(h':Mn B C i):Mn A C i:=
 ⟨h'.len.trans h.len,fun k hk=>by rw[h'.keep k (by rw[h.keep k hk];exact hk),h.keep k hk],fun k hk=>by rw[h'.low k hk,h.low k hk]⟩
theorem lq{N:Nat}{D:List Int}{t i:Nat}{d:Int}(ht:t<D.length)(vV:i<t)(hd:0<=d/\d<=12)(hB:Bd D):Wp (M.aU N (t:Int) d D) fun r=>(r.1=0->Mn D r.2 i/\Bd r.2/\gd r.2 t=d)/\(gd D t= -1->r=(0,D.set t d)):=by
 unfold M.aU;rw[kC ht];simp only[alS,aF];by_cases h0:0<=gd D t
 .rw[decide_eq_true h0];simp only[if_true];by_cases h1:gd D t=d
  .rw[if_neg (by simp[h1])]
   refine .some ⟨fun _=>⟨⟨by simp[aH],fun k _=>?_,fun k hk=>?_⟩,fun k=>?_,?_⟩,fun h=>by omega⟩<;>simp only[aH,al1,iD ht]
   .split
    .rename_i h;rw[h,h1]
    .rfl
   .rw[if_neg (by omega)]
   .split
    .omega
    .exact hB k
   .simp
  .rw[if_pos (by simp[h1])];exact .some ⟨fun h=>by simp at h,fun h=>by omega⟩
 .rw[decide_eq_false h0];simp only[al2,if_false]
  refine .some ⟨fun _=>⟨⟨by simp[aH],fun k hk=>?_,fun k hk=>?_⟩,fun k=>?_,?_⟩,fun h=>by simp[aH]⟩<;>simp only[aH,al1,iD ht]
  .rw[if_neg (fun h=>by rw[h]at hk;exact h0 hk)]
  .rw[if_neg (by omega)]
  .split
   .omega
   .exact hB k
  .simp
def jJ(len:Nat)(D:List Int)(j:Nat)(n:Ty):Prop:=
 ((n.1:Int)=51/\∃t:Nat,(n.2:Int)=t/\j<t/\t<=len/\gd D t=gd D j)\/
 (((n.1:Int)=50\/(n.1:Int)=52\/(n.1:Int)=53)/\1<=gd D j/\gd D (j+1)=gd D j-1/\∃t:Nat,(n.2:Int)=t/\j<t/\t<=len/\gd D t=if(n.1:Int)=50 then gd D j-1 else gd D j)\/
 ((n.1:Int)≠51/\¬((n.1:Int)=50\/(n.1:Int)=52\/(n.1:Int)=53)/\0<=ar n.1/\ar n.1<=gd D j/\gd D (j+1)=gd D j-ar n.1+1/\gd D j-ar n.1+1<=12)
theorem jJ.mono{len j i:Nat}{D D':List Int}{n:Ty}(h:jJ len D j n)(hj:0<=gd D j)(m:Mn D D' i):jJ len D' j n:=by
 have e:=m.keep j hj
 rcases h with⟨h1,t,h2,h3,h4,h5⟩|⟨h1,h2,h3,t,h4,h5,h6,h7⟩|⟨h1,h2,h3,h4,h5,h6⟩
 .exact .inl ⟨h1,t,h2,h3,h4,by rw[m.keep t (by omega),h5,e]⟩
 .have e1:=m.keep (j+1) (by omega);have e2:=m.keep t (by rw[h7];split<;>omega);exact .inr (.inl ⟨h1,by omega,by omega,t,h4,h5,h6,by rw[e2,e];exact h7⟩)
 .have e1:=m.keep (j+1) (by omega);exact .inr (.inr ⟨h1,h2,h3,by omega,by omega,by omega⟩)
theorem vB{N:Nat}{code:List Ty}{D:List Int}{i:Nat}(hl:code.length<=128)(hi:i<code.length)(hD:D.length=code.length+1)(hB:Bd D)(h0:0<=gd D i):Wp (M.bC N code (i:Int) code[i] D) fun r=>(r.1=0->Mn D r.2 i/\Bd r.2/\jJ code.length r.2 i code[i])/\((code[i].1:Int)<=39->¬bM code[i].1->0<=ar code[i].1->ar code[i].1<=gd D i->gd D i-ar code[i].1+1<=12->gd D (i+1)= -1->r=(0,D.set (i+1) (gd D i-ar code[i].1+1))):=by
 unfold M.bC;generalize code[i]=n;obtain⟨(op:Int),(m:Int)⟩:=n;dsimp only[ae,Row.den]at*;have Jd:=kK op;have hBi:=hB i;rw[nk,lR,kC (by omega),cJ,vb];simp only[alS,aF];by_cases c1:¬bM op/\(50<=op/\op<=53\/0<=ar op)
 case neg=>
  rw[decide_eq_false c1];simp only[Bool.not_false,if_true];refine .some ⟨fun h=>by simp at h,fun h1 h2 h3=>absurd ⟨h2, .inr h3⟩ c1⟩
 rw[decide_eq_true c1];simp only[am4,al2,if_false];by_cases c2:50<=op/\op<=53
 .rw[decide_eq_true c2];simp only[if_true];by_cases c3:m<=i\/(code.length:Int)<m
  .have:(if decide (m<=(i:Int))=true then true else decide ((code.length:Int)<m))=true:=by
    rcases c3 with c|c<;>simp[c]
   rw[if_pos this];exact .some ⟨fun h=>by simp at h,fun h=>by omega⟩
  have hc:(if decide (m<=(i:Int))=true then true else decide ((code.length:Int)<m))=false:=by
   rw[if_neg (by simp;omega)];simp;omega
  rw[if_neg (by rw[hc];simp)]
  obtain⟨t,rfl⟩:∃t:Nat,m=t:=⟨m.toNat,by omega⟩
  refine Wp.dec (fun c4=>?_) fun c4=>?_
  .refine Wp.seq _ (lq (t:=t) (i:=i) (by omega) (by omega) (by omega) hB) fun r hr=> .some ⟨fun h=>?_,fun h=>by omega⟩
   obtain⟨a1,a2,a3⟩:=hr.1 h;exact⟨a1,a2, .inl ⟨c4,t,rfl,by omega,by omega,by rw[a3,a1.low i (alZ _)]⟩⟩
  refine Wp.dec (fun c5=>?_) fun c5=>by omega
  refine Wp.dec (fun c6=> .some ⟨fun h=>by simp at h,fun h=>by omega⟩) fun c6=>?_
  have w1:alT.wrap (gd D i-1)=gd D i-1:=aJ (by omega) (by omega);rw[w1,aD (by omega)]
  refine Wp.seq _ (lq (t:=i+1) (i:=i) (by omega) (by omega) (by omega) hB) fun r hr=>?_
  refine Wp.jz (fun c7=> .some ⟨fun h=>absurd h c7,fun h=>by omega⟩) fun c7=>?_
  obtain⟨a1,a2,a3⟩:=hr.1 c7;have sG:=a1.low i (alZ _)
  refine Wp.seq _ (lq (D:=r.2) (t:=t) (i:=i) (by rw[a1.len];omega) (by omega) (by split<;>omega) a2) fun r' p6=> .some ⟨fun h=>?_,fun h=>by omega⟩
  obtain⟨b1,b2,b3⟩:=p6.1 h;refine⟨a1.trans b1,b2, .inr (.inl ⟨c5,?_,?_,t,rfl,by omega,by omega,?_⟩)⟩
  .rw[b1.low i (alZ _)];show 1<=gd r.2 i;omega
  .show gd r'.2 (i+1)=gd r'.2 i-1
   rw[b1.low i (alZ _),b1.keep (i+1) (by omega)];omega
  .show gd r'.2 t=if op=50 then gd r'.2 i-1 else gd r'.2 i
   rw[b1.low i (alZ _),b3,sG]
   by_cases Bn:op=50<;>simp[Bn]
 .rw[decide_eq_false c2];simp only[al2,if_false]
  refine Wp.dec (fun c4=>by omega) fun c4=>?_
  refine Wp.dec (fun c5=>by omega) fun c5=>?_
  refine Wp.dec (fun c6=> .some ⟨fun h=>by simp at h,fun _ _ _ h=>by omega⟩) fun c6=>?_
  have w1:alT.wrap (gd D i-ar op)=gd D i-ar op:=aJ (by omega) (by omega);have w2:alT.wrap (gd D i-ar op+1)=gd D i-ar op+1:=aJ (by omega) (by omega);rw[w1,w2]
  refine Wp.dec (fun c7=> .some ⟨fun h=>by simp at h,fun _ _ _ _ h=>by omega⟩) fun c7=>?_
  rw[aD (by omega)]
  refine Wp.seq _ (lq (t:=i+1) (i:=i) (by omega) (by omega) (by omega) hB) fun r hr=> .some ⟨fun h=>?_,fun _ _ _ _ _ h=>hr.2 h⟩
  obtain⟨a1,a2,a3⟩:=hr.1 h;have sG:=a1.low i (alZ _);exact⟨a1,a2, .inr (.inr ⟨c4,c5,by show 0<=ar op;omega,by show ar op<=gd r.2 i;omega,by show gd r.2 (i+1)=gd r.2 i-ar op+1;omega,by show gd r.2 i-ar op+1<=12;omega⟩)⟩
structure ae6(code:List Ty)(D:List Int):Prop where
 pos:0<code.length
 le:code.length<=128
 len:D.length=code.length+1
 bd:Bd D
 first:gd D 0=0
 last:gd D code.length=1
 step:∀j(h:j<code.length),0<=gd D j->jJ code.length D j code[j]
theorem AO(n k:Nat):gd (alX n (-1)) k= -1:=by
 unfold gd amn;by_cases h:k<n
 .simp[h]
 .rw[List.getElem?_eq_none (by simp;omega)];rfl
def Mc(code:List Ty)(r:Vl×Int×Int):Prop:=∃y,M.bY aB code=some y/\(y.2≠0->r.2=(0,1))/\(y.2=0->(r.2.2≠0->r.2.2≠1/\r.2.1=0)/\(r.2.2=0->1<=r.2.1/\r.2.1<=(code.length:Int)))
theorem sH{α:Type}(p:List α)(x:α):idx (p++[x]) (p.length:Int)=some x:=by
 rw[ah (by simp)];simp
def vC(n:Ty)(top:Vl):Bool:=decide (decide ((top.2.2:Int)=1)=decide ((n.1:Int)=53))
inductive cF(code:List Ty)(env:cz.den):Nat->List Vl->Vl×Int->Prop
 |done {v:Vl} {S:List Vl}:cF code env code.length (v::S) (v,0)
 |jump {p t:Nat} {S:List Vl} {r:Vl×Int} {n:Ty} (h:code[p]? =some n) (pb:(n.1:Int)=51) (ht:(n.2:Int)=t) (C7:p<t) (uY:t<=code.length) (next:cF code env t S r):cF code env p S r
 |op {p a:Nat} {S:List Vl} {r:Vl×Int} {n:Ty} (h:code[p]? =some n) (bR:¬(50<=(n.1:Int)/\(n.1:Int)<=53)) (ha:ar n.1=a) (hs:a<=S.length) (h0:(jL env n (S.drop (S.length-a))).2=0) (next:cF code env (p+1) (S.take (S.length-a)++[(jL env n (S.drop (S.length-a))).1]) r):cF code env p S r
 |fail {p a:Nat} {S:List Vl} {n:Ty} (h:code[p]? =some n) (bR:¬(50<=(n.1:Int)/\(n.1:Int)<=53)) (ha:ar n.1=a) (hs:a<=S.length) (h0:(jL env n (S.drop (S.length-a))).2≠0):cF code env p S (z3,(jL env n (S.drop (S.length-a))).2)
 |cond {p t:Nat} {S:List Vl} {r:Vl×Int} {n:Ty} {top:Vl} (h:code[p]? =some n) (gq:(n.1:Int)=50\/(n.1:Int)=52\/(n.1:Int)=53) (ht:(n.2:Int)=t) (C7:p<t) (uY:t<=code.length) (hk:(top.1:Int)=1) (hv:(top.2.2:Int)=0\/(top.2.2:Int)=1) (next:cF code env (if vC n top=true then t else p+1) (if vC n top=false\/(n.1:Int)=50 then S else S++[top]) r):cF code env p (S++[top]) r
theorem C8{code:List Ty}{env:cz.den}{r:Vl×Int}(he:im env)(hw:∀n∈code,WF aa n)(hl:code.length<=128)(SC:Wp (M.bY aB code) fun y=>y.2=0)(hr:cF code env 0 [] r):Wp (M.nh aB code env) fun x=>x.1=r.1/\x.2.2=r.2:=by
 unfold M.nh
 refine Wp.seq _ SC fun y hy=>?_
 refine Wp.jz (fun h=>absurd hy h) fun _=>?_
 refine Wp.join (Wp.loop (fun s:Int×Int×List Vl=>∃q k:Nat,s.1=q/\s.2.1=k/\k<=code.length/\q<=k/\s.2.2.length<=k/\cF code env k s.2.2 r) (fun s=>(code.length-s.2.1).toNat) ⟨0,0,rfl,rfl,amj _,alZ _,alZ _,hr⟩ (by unfold aB;simp only;omega) ?_)
 rintro⟨_,_,iq⟩ ⟨q,k,rfl,rfl,hk,hq,NH,bA⟩
 dsimp only at NH bA⊢
 cases bA with
 | @done v S=>
   refine Wp.dec (fun h=>by omega) fun _=> .some ?_
   show Wp ((idx (v::S) (0:Int)).bind _) _
   exact .some ⟨rfl,rfl⟩
 | @jump _ t _ _ n h pb ht C7 uY next=>
   obtain⟨aj,hn⟩:=alW.1 h
   refine Wp.dec (fun _=>?_) fun h=>by omega
   rw[ah aj,hn];simp only[alS];rw[aD (k:=q) (by omega)];refine Wp.join (Wp.dec (fun _=> .some ?_) fun h=>absurd pb h);refine Wp.some ⟨⟨q+1,t,rfl,ht,uY,by omega,by show iq.length<=t;omega,next⟩,?_⟩;simp only[ht];omega
 | @op _ a _ _ n h bR ha hs h0 next=>
   obtain⟨aj,hn⟩:=alW.1 h;have Bo:WF aa n:=hw n (amM h)
   refine Wp.dec (fun _=>?_) fun h=>by omega
   rw[ah aj,hn];simp only[alS,kM,cJ,aF];rw[aD (k:=q) (by omega)]
   have n1:¬(n.1:Int)=51:=fun h=>bR (by rw[h];decide)
   have n2:¬((n.1:Int)=50\/(n.1:Int)=52\/(n.1:Int)=53):=fun h=>bR (by rcases h with h|h|h<;>rw[h]<;>decide)
   refine Wp.join (Wp.dec (fun h=>absurd h n1) fun _=>?_);rw[decide_eq_false n2];simp only[Bool.not_false,if_true]
   have wl:alT.wrap ((iq.length:Int)-(a:Int))=((iq.length-a:Nat):Int):=by rw[aJ (by omega) (by omega)];omega
   rw[ha,wl,lk (iq.length-a) iq.length rfl rfl (by omega) (alZ _),gG (by omega),amc,aD (k:=k) (by omega)];simp only[alS];rw[zv he Bo (by simp;omega)];simp only[alS]
   refine Wp.jz (fun h=>absurd h0 h) fun _=>?_
   rw[bh (by simp;omega)];simp only[alS];refine .some (Wp.some ⟨⟨q+1,k+1,rfl,rfl,aj,by omega,?_,next⟩,by simp only;omega⟩);simp;omega
 | @fail _ a _ n h bR ha hs h0=>
   obtain⟨aj,hn⟩:=alW.1 h;have Bo:WF aa n:=hw n (amM h)
   refine Wp.dec (fun _=>?_) fun h=>by omega
   rw[ah aj,hn];simp only[alS,kM,cJ,aF]
   have n1:¬(n.1:Int)=51:=fun h=>bR (by rw[h];decide)
   have n2:¬((n.1:Int)=50\/(n.1:Int)=52\/(n.1:Int)=53):=fun h=>bR (by rcases h with h|h|h<;>rw[h]<;>decide)
   refine Wp.join (Wp.dec (fun h=>absurd h n1) fun _=>?_);rw[decide_eq_false n2];simp only[Bool.not_false,if_true]
   have wl:alT.wrap ((iq.length:Int)-(a:Int))=((iq.length-a:Nat):Int):=by rw[aJ (by omega) (by omega)];omega
   rw[ha,wl,lk (iq.length-a) iq.length rfl rfl (by omega) (alZ _),amc];simp only[alS];rw[zv he Bo (by simp;omega)];simp only[alS]
   refine Wp.jz (fun _=> .some ?_) fun h=>absurd h h0
   exact⟨rfl,rfl⟩
 | @cond _ t S _ n top h gq ht C7 uY hkd hv next=>
   obtain⟨aj,hn⟩:=alW.1 h
   refine Wp.dec (fun _=>?_) fun h=>by omega
   rw[ah aj,hn];simp only[alS,kM,cJ,aF];rw[aD (k:=q) (by omega)]
   have n1:¬(n.1:Int)=51:=fun h=>by rcases gq with g|g|g<;>(rw[h]at g;exact absurd g (by decide))
   refine Wp.join (Wp.dec (fun h=>absurd h n1) fun _=>?_);rw[decide_eq_true gq];simp only[am4,al2,if_false];rw[alY,al6]at NH⊢
   have wl:alT.wrap (((S.length+1:Nat):Int)-1)=(S.length:Int):=by rw[aJ (by omega) (by omega)];omega
   rw[wl,sH S top];simp only[alS];rw[if_neg (by rw[hkd];rcases hv with g|g<;>rw[g]<;>simp)];rw[gG (by simp),aD (k:=k) (by omega),aml (alZ _),amc];simp only[alS]
   have QD:∀b:Bool,(if b=true then n.2 else((k+1:Nat):Int))=((if b=true then t else k+1:Nat):Int):=fun b=>by cases b<;>simp[ht]
   rw[QD];have hb:decide (decide ((top.2.2:Int)=1)=decide ((n.1:Int)=53))=vC n top:=rfl;rw[hb];generalize vC n top=b at*
   have fin:∀(S':List Vl),S'.length<=k->cF code env (if b=true then t else k+1) S' r->w6 (fun s:Int×Int×List Vl=>∃q k:Nat,s.1=q/\s.2.1=k/\k<=code.length/\q<=k/\s.2.2.length<=k/\cF code env k s.2.2 r) (fun s=>(code.length-s.2.1).toNat) ((q:Int),(k:Int),S++[top]) (qT (fun j2:Int×List Vl=>(idx j2.2 0).bind fun JX=>some (JX,j2.1,0)) fun x:Vl×Int×Int=>x.1=r.1/\x.2.2=r.2) (Sum.inl (((q+1:Nat):Int),((if b=true then t else k+1:Nat):Int),S')):=by
    intro S' hS hR;refine⟨⟨q+1,if b=true then t else k+1,rfl,rfl,by split<;>omega,by split<;>omega,by show S'.length<=_;split<;>omega,hR⟩,?_⟩
    simp only;split<;>omega
   refine Wp.ite (fun hp=> .some ?_) fun hp=> .some ?_
   .have hx:b=false\/(n.1:Int)=50:=by
     cases b with
     |false=>exact .inl rfl
     |true=>exact .inr (by simpa using hp)
    have ex:(if b=false\/(n.1:Int)=50 then S else S++[top])=S:=if_pos hx
    rw[ex]at next
    exact Wp.some (fin S (by omega) next)
   .have hx:¬(b=false\/(n.1:Int)=50):=by
     cases b with
     |false=>simp at hp
     |true=>simpa using hp
    have ex:(if b=false\/(n.1:Int)=50 then S else S++[top])=S++[top]:=if_neg hx
    rw[ex]at next
    exact Wp.some (fin (S++[top]) (by rw[alY,al6];exact NH) next)
end L.P
end Go.Proofs.YtmihpkfkbfgigaaGreatDoor
end
section
open _root_.Option renaming bind_some->alS
namespace Go.Proofs.YtmihpkfkbfgigaaGreatDoor
open Go Go.RowKit
set_option maxRecDepth 100000
namespace L.P
theorem C9{e:List Ty}{st:List Nat}(w:Whole e st){i:Nat}(hi:i<e.length):M.lZ aB e (i:Int)=some (dG (opsL st (ar e[i].1).toNat i)):=by
 have hle:=w.le;have h:=uI w.val (by omega) ((0:Int),(([]:List Vl),(([]:List Vl),(([]:List (List Vl)),(([]:List Ty),([]:List av.den)))))) hi;unfold M.lZ M.gM;rw[mQ,w.res];simp only[alS,aF,pF];rw[if_neg (by simp;omega)];exact h
end L.P
end Go.Proofs.YtmihpkfkbfgigaaGreatDoor
end
section
open _root_.Bool renaming eq_iff_iff->anh,false_eq_true->al2
open _root_.Int renaming tdiv->amh,tdiv_eq_ediv_of_nonneg->amV,tmod->amy
open _root_.Go.IntKind renaming i64->alT
open _root_.List renaming getElem?_eq_getElem->alV
open _root_.Option renaming bind_some->alS
open _root_.Sum renaming inr->amP
namespace Go.Proofs.YtmihpkfkbfgigaaGreatDoor
open Go Go.RowKit
set_option maxRecDepth 100000
namespace L.P
abbrev Sg:Type:=aT.den
def us(op:Int):Prop:=(1<=op/\op<=8)\/(14<=op/\op<=16)\/op=33\/op=34\/(36<=op/\op<=39)
theorem GN(N:Nat)(op:Int):Wp (M.ga N op) fun b=>b=true↔us op:=by
 by_cases h:us op
 .have:op=1\/op=2\/op=3\/op=4\/op=5\/op=6\/op=7\/op=8\/op=14\/op=15\/op=16\/op=33\/op=34\/op=36\/op=37\/op=38\/op=39:=by unfold us at h;omega
  refine⟨true,?_,by simp[h]⟩
  rcases this with rfl|rfl|rfl|rfl|rfl|rfl|rfl|rfl|rfl|rfl|rfl|rfl|rfl|rfl|rfl|rfl|rfl<;>(show(_:Option Bool)=_;kernel_rfl)
 .refine⟨false,?_,by simp[h]⟩
  have ne:∀k:Int,us k->decide (op=k)=false:=fun k hk=>by simp;rintro rfl;exact h hk
  unfold M.ga;rw[ne 1 (by unfold us;omega),ne 2 (by unfold us;omega),ne 3 (by unfold us;omega),ne 4 (by unfold us;omega),ne 5 (by unfold us;omega),ne 6 (by unfold us;omega),ne 7 (by unfold us;omega),ne 8 (by unfold us;omega),ne 14 (by unfold us;omega),ne 15 (by unfold us;omega),ne 16 (by unfold us;omega),ne 33 (by unfold us;omega),ne 34 (by unfold us;omega),ne 36 (by unfold us;omega),ne 37 (by unfold us;omega),ne 38 (by unfold us;omega),ne 39 (by unfold us;omega)];rfl
abbrev GO(k:Int):Prop:=k=2\/k=3\/k=4
theorem pK(N:Nat)(k:Int):M.dH N k=some (decide (GO k)):=by
 unfold M.dH GO;by_cases h:k=2
 .simp[h]
 .by_cases h2:k=3
  .simp[h2]
  .simp[h,h2]
theorem GP(N:Nat)(m:Int):M.fx N m=some (decide (0<=m/\m<=5)):=by
 unfold M.fx
 by_cases h:0<=m<;>simp[h]
def RT(op:Int)(ts:List Ty)(t:Ty):Prop:=
 (op=10/\∃a:Ty,ts=[a]/\GO a.1/\t=a)\/
 (op=25/\∃a:Ty,ts=[a]/\(a.1:Int)=1/\t=((1:Int),(0:Int)))\/
 ((op=31\/op=32)/\∃a:Ty,ts=[a]/\(a.1:Int)=5/\t=((2:Int),(0:Int)))\/
 ((op=11\/op=12)/\∃a:Ty,ts=[a,a]/\GO a.1/\t=a)\/
 (op=13/\∃a b:Ty,ts=[a,b]/\(b.1:Int)=2/\((a.1:Int)=2\/(a.1:Int)=3)/\t=(a.1,(0:Int)))\/
 (op=14/\∃a b:Ty,ts=[a,b]/\(b.1:Int)=4/\((a.1:Int)=3\/(a.1:Int)=4)/\t=(a.1,(0:Int)))\/
 (op=15/\∃a b:Ty,ts=[a,b]/\(((b.1:Int)=2/\((a.1:Int)=2\/(a.1:Int)=3)/\t=(a.1,(0:Int)))\/((a.1:Int)=3/\(b.1:Int)=3/\t=((4:Int),(0:Int)))))\/
 (op=16/\∃a b:Ty,ts=[a,b]/\(a.1:Int)=3/\(b.1:Int)=3/\t=a)\/
 ((op=17\/op=18)/\∃a:Ty,ts=[a,a]/\(GO a.1\/(a.1:Int)=5)/\t=a)\/
 ((op=19\/op=20)/\∃a:Ty,ts=[a,a]/\t=((1:Int),(0:Int)))\/
 ((op=21\/op=22)/\∃a:Ty,ts=[a,a]/\(GO a.1\/(a.1:Int)=5)/\t=((1:Int),(0:Int)))\/
 ((op=23\/op=24)/\∃a b:Ty,ts=[a,b]/\(a.1:Int)=1/\(b.1:Int)=1/\t=((1:Int),(0:Int)))\/
 (op=26/\∃a b:Ty,ts=[a,b,b]/\(a.1:Int)=1/\t=b)\/
 ((op=27\/op=28)/\∃a b:Ty,ts=[a,b]/\(a.1:Int)=5/\(b.1:Int)=2/\t=a)\/
 ((op=29\/op=30)/\∃a b:Ty,ts=[a,b]/\(a.1:Int)=5/\(b.1:Int)=5/\t=((2:Int),(0:Int)))
theorem AP(a b:Ty):nW aa a b=decide (a=b):=by
 obtain⟨a1,a2⟩:=a;obtain⟨b1,b2⟩:=b;rw[anh];simp[nW]
theorem mR{α:Type}{a:α}{l:List α}:idx (a::l) (0:Int)=some a:=rfl
theorem sI{α:Type}{a b:α}{l:List α}:idx (a::b::l) (1:Int)=some b:=rfl
theorem SD{α:Type}{a b c:α}{l:List α}:idx (a::b::c::l) (2:Int)=some c:=rfl
theorem WI{α:Type}{l:List α}(h:l.length=1):∃a,l=[a]:=by
 match l,h with
 |[a],_=>exact⟨a,rfl⟩
theorem Fg{α:Type}{l:List α}(h:l.length=2):∃a b,l=[a,b]:=by
 match l,h with
 |[a,b],_=>exact⟨a,b,rfl⟩
theorem Da{α:Type}{l:List α}(h:l.length=3):∃a b c,l=[a,b,c]:=by
 match l,h with
 |[a,b,c],_=>exact⟨a,b,c,rfl⟩
theorem Fh(N:Nat)(op:Int)(a b:Int):Wp (M.gB N op a b) fun r=>r.2=true->(op=14/\b=4/\(a=3\/a=4)/\r.1=(a,(0:Int)))\/(op≠14/\b=2/\(a=2\/a=3)/\r.1=(a,(0:Int)))\/(op=15/\a=3/\b=3/\r.1=((4:Int),(0:Int))):=by
 unfold M.gB
 refine Wp.dec (fun h=>?_) fun h=>?_
 .by_cases h1:b=4
  .by_cases h2:a=3
   .simp only[decide_eq_true h1,decide_eq_true h2,if_true,alS];exact .some fun _=> .inl ⟨h,h1, .inl h2,rfl⟩
   .simp only[decide_eq_true h1,decide_eq_false h2,if_true,al2,if_false,alS];exact .some fun h3=> .inl ⟨h,h1, .inr (by simpa using h3),rfl⟩
  .simp only[decide_eq_false h1,al2,if_false,alS];exact .some fun h=>by cases h
 .refine Wp.dec (fun h1=>?_) fun h1=>?_
  .by_cases h2:a=2
   .simp only[decide_eq_true h2,if_true,alS];exact .some fun _=> .inr (.inl ⟨h,h1, .inl h2,rfl⟩)
   .simp only[decide_eq_false h2,al2,if_false,alS];exact .some fun h3=> .inr (.inl ⟨h,h1, .inr (by simpa using h3),rfl⟩)
  .by_cases h3:op=15/\a=3/\b=3
   .obtain⟨g1,g2,g3⟩:=h3;simp only[decide_eq_true g1,decide_eq_true g2,decide_eq_true g3,if_true,alS]
    exact .some fun _=> .inr (.inr ⟨g1,g2,g3,rfl⟩)
   .have:(if decide (op=15)=true then(if decide (a=3)=true then some (decide (b=3))else some false)else some false)=some false:=by
     by_cases g1:op=15<;>by_cases g2:a=3<;>by_cases g3:b=3<;>simp_all
    rw[this]
    exact .some fun h=>by cases h
theorem Jg(N:Nat)(op:Int)(ts:List Ty)(hl:(ts.length:Int)=ar op):Wp (M.cH N op ts) fun r=>r.2=true->RT op ts r.1:=by
 unfold M.cH
 have one:ar op=1->∃a,ts=[a]:=fun h=>WI (by omega)
 have two:ar op=2->∃a b,ts=[a,b]:=fun h=>Fg (by omega)
 refine Wp.dec (fun h=>?_) fun h1=>?_
 .obtain⟨a,rfl⟩:=one (by rw[h];rfl);simp only[mR,alS,pK]
  exact .some fun h'=> .inl ⟨h,a,rfl,by simpa using h',rfl⟩
 refine Wp.dec (fun h=>?_) fun h2=>?_
 .obtain⟨a,rfl⟩:=one (by rw[h];rfl);simp only[mR,alS]
  exact .some fun h'=> .inr (.inl ⟨h,a,rfl,by simpa using h',rfl⟩)
 rw[o9];simp only[alS]
 refine Wp.dec (fun h=>?_) fun h3=>?_
 .obtain⟨a,b,rfl⟩:=two (by rcases h with h|h<;>rw[h]<;>rfl);simp only[mR,sI,alS,pK,AP];by_cases we:a=b
  .subst we;simp only[decide_true,if_true,alS]
   exact .some fun h'=> .inr (.inr (.inr (.inl ⟨h,a,rfl,by simpa using h',rfl⟩)))
  .simp only[decide_eq_false we,al2,if_false,alS]
   exact .some fun h'=>by cases h'
 rw[vb];simp only[alS]
 refine Wp.dec (fun h=>?_) fun h4=>?_
 .obtain⟨a,b,rfl⟩:=two (by rcases h with h|h|h<;>rw[h]<;>rfl);simp only[mR,sI,alS]
  refine Wp.seq _ (Fh ..) fun r hr=> .some fun h'=>?_
  rcases hr h' with⟨g1,g2,g3,g4⟩|⟨g1,g2,g3,g4⟩|⟨g1,g2,g3,g4⟩
  .exact .inr (.inr (.inr (.inr (.inr (.inl ⟨g1,a,b,rfl,g2,g3,g4⟩)))))
  .rcases h with h|h|h
   .exact .inr (.inr (.inr (.inr (.inl ⟨h,a,b,rfl,g2,g3,g4⟩))))
   .exact absurd h g1
   .exact .inr (.inr (.inr (.inr (.inr (.inr (.inl ⟨h,a,b,rfl, .inl ⟨g2,g3,g4⟩⟩))))))
  .exact .inr (.inr (.inr (.inr (.inr (.inr (.inl ⟨g1,a,b,rfl, .inr ⟨g2,g3,g4⟩⟩))))))
 refine Wp.dec (fun h=>?_) fun h5=>?_
 .obtain⟨a,b,rfl⟩:=two (by rw[h];rfl);simp only[mR,sI,alS];by_cases g1:(a.1:Int)=3
  .simp only[decide_eq_true g1,if_true,alS]
   exact .some fun h'=> .inr (.inr (.inr (.inr (.inr (.inr (.inr (.inl ⟨h,a,b,rfl,g1,by simpa using h',rfl⟩)))))))
  .simp only[decide_eq_false g1,al2,if_false,alS]
   exact .some fun h'=>by cases h'
 rw[o9];simp only[alS]
 refine Wp.dec (fun h=>?_) fun h6=>?_
 .obtain⟨a,b,rfl⟩:=two (by rcases h with h|h<;>rw[h]<;>rfl);simp only[mR,sI,alS,pK,AP];by_cases we:a=b
  .subst we;simp only[decide_true,if_true]
   have mk:(GO a.1\/(a.1:Int)=5)->RT op [a,a] a:=fun h'=> .inr (.inr (.inr (.inr (.inr (.inr (.inr (.inr (.inl ⟨h,a,rfl,h',rfl⟩))))))))
   by_cases hn:GO a.1
   .simp only[decide_eq_true hn,if_true,alS]
    exact .some fun _=>mk (.inl hn)
   .simp only[decide_eq_false hn,al2,if_false,alS]
    exact .some fun h'=>mk (.inr (by simpa using h'))
  .simp only[decide_eq_false we,al2,if_false,alS]
   exact .some fun h'=>by cases h'
 rw[o9];simp only[alS]
 refine Wp.dec (fun h=>?_) fun h7=>?_
 .obtain⟨a,b,rfl⟩:=two (by rcases h with h|h<;>rw[h]<;>rfl);simp only[mR,sI,alS,AP]
  refine .some fun h'=> .inr (.inr (.inr (.inr (.inr (.inr (.inr (.inr (.inr (.inl ⟨h,a,?_,rfl⟩)))))))))
  have:a=b:=by simpa using h'
  rw[this]
 rw[o9];simp only[alS]
 refine Wp.dec (fun h=>?_) fun h8=>?_
 .obtain⟨a,b,rfl⟩:=two (by rcases h with h|h<;>rw[h]<;>rfl);simp only[mR,sI,alS,pK,AP];by_cases we:a=b
  .subst we;simp only[decide_true,if_true]
   have mk:(GO a.1\/(a.1:Int)=5)->RT op [a,a] ((1:Int),(0:Int)):=fun h'=> .inr (.inr (.inr (.inr (.inr (.inr (.inr (.inr (.inr (.inr (.inl ⟨h,a,rfl,h',rfl⟩))))))))))
   by_cases hn:GO a.1
   .simp only[decide_eq_true hn,if_true,alS]
    exact .some fun _=>mk (.inl hn)
   .simp only[decide_eq_false hn,al2,if_false,alS]
    exact .some fun h'=>mk (.inr (by simpa using h'))
  .simp only[decide_eq_false we,al2,if_false,alS]
   exact .some fun h'=>by cases h'
 rw[o9];simp only[alS]
 refine Wp.dec (fun h=>?_) fun h9=>?_
 .obtain⟨a,b,rfl⟩:=two (by rcases h with h|h<;>rw[h]<;>rfl);simp only[mR,sI,alS];by_cases g1:(a.1:Int)=1
  .simp only[decide_eq_true g1,if_true,alS]
   exact .some fun h'=> .inr (.inr (.inr (.inr (.inr (.inr (.inr (.inr (.inr (.inr (.inr (.inl ⟨h,a,b,rfl,g1,by simpa using h',rfl⟩)))))))))))
  .simp only[decide_eq_false g1,al2,if_false,alS]
   exact .some fun h'=>by cases h'
 refine Wp.dec (fun h=>?_) fun WJ=>?_
 .obtain⟨a,b,c,rfl⟩:=Da (l:=ts) (by rw[h]at hl;have:ar 26=3:=rfl;omega);simp only[mR,sI,SD,alS,AP];by_cases g1:(a.1:Int)=1
  .simp only[decide_eq_true g1,if_true,alS]
   refine .some fun h'=> .inr (.inr (.inr (.inr (.inr (.inr (.inr (.inr (.inr (.inr (.inr (.inr (.inl ⟨h,a,b,?_,g1,rfl⟩))))))))))))
   have:b=c:=by simpa using h'
   rw[this]
  .simp only[decide_eq_false g1,al2,if_false,alS]
   exact .some fun h'=>by cases h'
 rw[o9];simp only[alS]
 refine Wp.dec (fun h=>?_) fun h11=>?_
 .obtain⟨a,b,rfl⟩:=two (by rcases h with h|h<;>rw[h]<;>rfl);simp only[mR,sI,alS];by_cases g1:(a.1:Int)=5
  .simp only[decide_eq_true g1,if_true,alS]
   exact .some fun h'=> .inr (.inr (.inr (.inr (.inr (.inr (.inr (.inr (.inr (.inr (.inr (.inr (.inr (.inl ⟨h,a,b,rfl,g1,by simpa using h',rfl⟩)))))))))))))
  .simp only[decide_eq_false g1,al2,if_false,alS]
   exact .some fun h'=>by cases h'
 rw[o9];simp only[alS]
 refine Wp.dec (fun h=>?_) fun QE=>?_
 .obtain⟨a,b,rfl⟩:=two (by rcases h with h|h<;>rw[h]<;>rfl);simp only[mR,sI,alS];by_cases g1:(a.1:Int)=5
  .simp only[decide_eq_true g1,if_true,alS]
   exact .some fun h'=> .inr (.inr (.inr (.inr (.inr (.inr (.inr (.inr (.inr (.inr (.inr (.inr (.inr (.inr ⟨h,a,b,rfl,g1,by simpa using h',rfl⟩)))))))))))))
  .simp only[decide_eq_false g1,al2,if_false,alS]
   exact .some fun h'=>by cases h'
 rw[o9];simp only[alS]
 refine Wp.dec (fun h=>?_) fun U0=> .some fun h'=>by cases h'
 .obtain⟨a,rfl⟩:=one (by rcases h with h|h<;>rw[h]<;>rfl);simp only[mR,alS]
  exact .some fun h'=> .inr (.inr (.inl ⟨h,a,rfl,by simpa using h',rfl⟩))
def jM(t:Ty)(n:Nat):Prop:=(1<=(t.1:Int)/\(t.1:Int)<=5/\(t.2:Int)=0)\/((t.1:Int)=6/\0<=(t.2:Int)/\(t.2:Int)<n)
instance(t:Ty)(n:Nat):Decidable (jM t n):=by unfold jM;exact inferInstance
theorem xk(N:Nat)(t:Ty)(E:List bu.den):M.cr N t E=some (decide (jM t E.length)):=by
 obtain⟨(k:Int),(u:Int)⟩:=t;unfold M.cr;dsimp only[ae,Row.den];rw[CX];simp only[alS]
 have cast:∀{p q:Prop}[Decidable p][Decidable q],(p↔q)->some (decide p)=some (decide q):=fun h=>by simp[h]
 have no:¬((1<=k/\k<=5/\u=0)\/(k=6/\0<=u/\u<(E.length:Int)))->some false=some (decide (jM (k,u) E.length)):=fun h=>by rw[decide_eq_false (p:=jM (k,u) E.length) h]
 by_cases h:k=1\/k=2\/k=3\/k=4\/k=5
 .rw[decide_eq_true h,if_pos rfl];exact cast (show(u=0↔(1<=k/\k<=5/\u=0)\/(k=6/\0<=u/\u<(E.length:Int))) by omega)
 .rw[decide_eq_false h,if_neg (by simp)];by_cases h6:k=6
  .rw[decide_eq_true h6,if_pos rfl];by_cases hu:0<=u
   .rw[decide_eq_true hu,if_pos rfl,alS];exact cast (show(u<(E.length:Int)↔(1<=k/\k<=5/\u=0)\/(k=6/\0<=u/\u<(E.length:Int))) by omega)
   .rw[decide_eq_false hu,if_neg (by simp),alS];exact no (by omega)
  .rw[decide_eq_false h6,if_neg (by simp)];exact no (by omega)
theorem nl(N:Nat)(n k:Int)(s:Sg)(hk:1<=k/\k<=5):Wp (M.cL N n k s) fun r=>r.2=0->r.1=(k,(0:Int)):=by
 unfold M.cL
 refine Wp.seq (fun _=>True) ?_ fun y _=>?_
 .unfold M.fR;dsimp only[ae,Row.den];rw[xk];simp only[alS]
  refine Wp.ite (fun _=> .some trivial) fun _=>?_
  refine Wp.dec (fun _=> .some trivial) fun _=>?_
  refine Wp.dec (fun _=> .some trivial) fun _=>?_
  refine Wp.dec (fun _=> .some trivial) fun _=>?_
  refine Wp.dec (fun _=> .some trivial) fun _=>?_
  refine Wp.dec (fun _=> .some trivial) fun _=>by omega
 refine Wp.seq (fun _=>True) (Wp.ite (fun _=> .some trivial) fun _=> .some trivial) fun j _=>?_
 refine Wp.ite (fun _=> .some ?_) fun _=> .some ?_
 .exact fun h=>by cases h
 .exact fun _=>rfl
theorem O4(N:Nat)(m:Int)(hm:m<=9223372036854775807)(s:Sg):Wp (M.bI N m s) fun r=>r.2=0->0<=m/\r.1=((6:Int),alT.wrap (amh m 16)):=by
 unfold M.bI
 refine Wp.dec (fun _=> .some fun h=>by cases h) fun h0=>?_
 have e:amh m 16=m/16:=amV (by omega)
 have w:alT.wrap (amh m 16)=m/16:=by rw[e,aJ (by omega) (by omega)]
 refine Wp.seq (fun _=>True) ?_ fun j _=>Wp.ite (fun _=> .some fun h=>by cases h) fun _=> .some fun _=>⟨by omega,rfl⟩
 refine Wp.dec (fun _=> .some trivial) fun h1=>?_
 rw[w]at h1⊢
 exact Wp.seq (fun _=>True) (Wp.fI (by omega) (by omega) fun _ _ _=>trivial) fun _ _=> .some trivial
def XJ(n:Int)(ts:List Ty)(s:Sg)(t:Ty):Prop:=∃k:Nat,n=k/\ts[k]? =some t/\jM t s.1.length
theorem tZ(N:Nat)(n:Int)(ts:List Ty)(s:Sg):Wp (M.dP N n ts s) fun r=>r.2=0->XJ n ts s r.1:=by
 unfold M.dP;simp only[aF,alS,pF]
 refine Wp.ite (fun _=> .some fun h=>by cases h) fun h=>?_
 simp only[Bool.or_eq_true,decide_eq_true_eq,not_or]at h
 obtain⟨k,rfl⟩:∃k:Nat,n=k:=⟨n.toNat,by omega⟩
 have hk:k<ts.length:=by omega
 rw[ah hk];simp only[alS,xk]
 refine Wp.ite (fun _=> .some fun h=>by cases h) fun hv=> .some fun _=>⟨k,rfl,alV hk,by rw[Bool.not_eq_true',Bool.not_eq_false]at hv;exact of_decide_eq_true hv⟩
def Tb(op m:Int)(a:Ty)(s:Sg)(t:Ty):Prop:=∃(k:Nat)(T:av.den),s.2.1[k]? =some T/\jM T.2.1 s.1.length/\jM T.2.2.1 s.1.length/\a=T.2.1/\((op=34/\0<=m/\0<=amy m 8/\amy m 8<=5/\alT.wrap (amh m 8)=k/\(T.2.1.1:Int)=3/\(T.2.2.1.1:Int)=4/\t=T.2.1)\/(op≠34/\m=k/\t=T.2.2.1))
theorem Md(N:Nat)(op m:Int)(a:Ty)(s:Sg):Wp (M.gA N (op,m) a s) fun r=>r.2=0->Tb op m a s r.1:=by
 unfold M.gA;dsimp only[ae,Row.den];refine Wp.join (Wp.mono (Q:=fun x=>(∃j,x=Sum.inl j/\((op=34/\0<=m/\0<=amy m 8/\amy m 8<=5/\alT.wrap (amh m 8)=j)\/(op≠34/\m=j)))\/∃r,x=amP r/\r.2≠0) ?_ ?_)
 .refine Wp.dec (fun h=>?_) fun h=> .some (.inl ⟨_,rfl, .inr ⟨h,rfl⟩⟩)
  rw[GP];simp only[alS]
  refine Wp.seq (fun j=>j=false->0<=m/\0<=amy m 8/\amy m 8<=5) ?_ fun j hj=>?_
  .refine Wp.dec (fun _=> .some fun h=>by cases h) fun h=> .some fun h'=>⟨by omega,?_⟩
   rw[Bool.not_eq_false']at h';exact of_decide_eq_true h'
  .refine Wp.ite (fun _=> .some (.inr ⟨_,rfl,by simp⟩)) fun hc=>?_
   obtain⟨g1,g2,g3⟩:=hj (by simpa using hc);exact .some (.inl ⟨_,rfl, .inl ⟨h,g1,g2,g3,rfl⟩⟩)
 rintro _ (⟨j,rfl,hj⟩|⟨r,rfl,hr⟩)
 case inr=>exact fun h=>absurd h hr
 show Wp _ _
 refine Wp.seq (fun b=>b=false->0<=j/\j<s.2.1.length) ?_ fun b hb=>?_
 .exact Wp.dec (fun _=> .some fun h=>by cases h) fun h=> .some fun h'=>by simp at h';omega
 refine Wp.ite (fun _=> .some fun h=>by cases h) fun hc=>?_
 obtain⟨j0,j1⟩:=hb (by simpa using hc)
 obtain⟨k,rfl⟩:∃k:Nat,j=k:=⟨j.toNat,by omega⟩
 have hk:k<s.2.1.length:=by omega
 have get:=alV hk;rw[ah hk];generalize s.2.1[k]=T at get;simp only[alS,xk,AP]
 refine Wp.seq (fun b=>b=false->jM T.2.1 s.1.length/\jM T.2.2.1 s.1.length/\a=T.2.1) ?_ fun b hb=>?_
 .refine Wp.ite (fun _=> .some fun h=>by cases h) fun h1=>?_
  refine Wp.ite (fun _=> .some fun h=>by cases h) fun h2=> .some fun h3=>⟨by simpa using h1,by simpa using h2,by simpa using h3⟩
 refine Wp.ite (fun _=> .some fun h=>by cases h) fun hc=>?_
 obtain⟨v1,v2,v3⟩:=hb (by simpa using hc)
 refine Wp.dec (fun sY=>?_) fun sY=> .some fun _=>?_
 .refine Wp.seq (fun b=>b=false->(T.2.1.1:Int)=3/\(T.2.2.1.1:Int)=4) ?_ fun b hb=>?_
  .exact Wp.jz (fun _=> .some fun h=>by cases h) fun h=> .some fun h'=>⟨h,by simpa using h'⟩
  refine Wp.ite (fun _=> .some fun h=>by cases h) fun hc=> .some fun _=>?_
  obtain⟨w1,w2⟩:=hb (by simpa using hc)
  rcases hj with⟨_,g1,g2,g3,g4⟩|⟨g,_⟩
  .exact⟨k,T,get,v1,v2,v3, .inl ⟨sY,g1,g2,g3,g4,w1,w2,rfl⟩⟩
  .exact absurd sY g
 .rcases hj with⟨g,_⟩|⟨_,g⟩
  .exact absurd g sY
  .exact⟨k,T,get,v1,v2,v3, .inr ⟨sY,g,rfl⟩⟩
def Mb(op m:Int)(s:Sg)(t:Ty):Prop:=XJ m s.2.2.2.2.1 s t/\(op=36->(t.1:Int)=2\/(t.1:Int)=3)/\(op=37\/op=38->(t.1:Int)=1)/\(op=39->GO t.1\/(t.1:Int)=5)
theorem Jh(N:Nat)(op m:Int)(s:Sg):Wp (M.br N (op,m) s) fun r=>r.2=0->(op=35/\r.1=((2:Int),(0:Int)))\/(op≠35/\Mb op m s r.1):=by
 unfold M.br;dsimp only[ae,Row.den];simp only[o9,pK,alS]
 refine Wp.ite (fun _=> .some fun h=>by cases h) fun _=>?_
 refine Wp.dec (fun h=> .some fun _=> .inl ⟨h,rfl⟩) fun h35=>?_
 refine Wp.seq _ (tZ ..) fun y hy=>?_
 refine Wp.jz (fun h=> .some ?_) fun h0=>?_
 .exact fun h'=>absurd h' h
 have hL:=hy h0
 refine Wp.seq (fun b=>b=true->(op=36->(y.1.1:Int)=2\/(y.1.1:Int)=3)/\(op=37\/op=38->(y.1.1:Int)=1)/\(op=39->GO y.1.1\/(y.1.1:Int)=5)) ?_ fun b hb=>?_
 .refine Wp.dec (fun h=>?_) fun Sz=>?_
  .refine Wp.dec (fun h2=> .some fun _=>⟨fun _=> .inl h2,fun g=>by omega,fun g=>by omega⟩) fun _=> .some fun h3=>⟨fun _=> .inr (by simpa using h3),fun g=>by omega,fun g=>by omega⟩
  refine Wp.dec (fun h=> .some fun h1=>⟨fun g=>absurd g Sz,fun _=>by simpa using h1,fun g=>by omega⟩) fun h37=>?_
  refine Wp.dec (fun h=>?_) fun _=> .some fun h=>by cases h
  refine Wp.dec (fun h2=> .some fun _=>⟨fun g=>absurd g Sz,fun g=>absurd g h37,fun _=> .inl h2⟩) fun _=> .some fun h3=>⟨fun g=>absurd g Sz,fun g=>absurd g h37,fun _=> .inr (by simpa using h3)⟩
 refine Wp.ite (fun _=> .some fun h=>by cases h) fun hc=> .some fun _=> .inr ⟨h35,hL,hb (by simpa using hc)⟩
def NT(op m:Int)(ts:List Ty)(s:Sg)(t:Ty):Prop:=
 ((1<=op/\op<=5)/\t=(op,(0:Int)))\/
 (op=6/\0<=m/\t=((6:Int),alT.wrap (amh m 16)))\/
 (op=7/\XJ m s.2.2.1 s t)\/
 (op=8/\XJ m s.2.2.2.1 s t)\/
 (op=9/\t=((5:Int),(0:Int)))\/
 ((op=33\/op=34)/\∃a,ts=[a]/\Tb op m a s t)\/
 (op=35/\t=((2:Int),(0:Int)))\/
 ((op=36\/op=37\/op=38\/op=39)/\Mb op m s t)\/
 ((op=14\/op=15\/op=16->0<=m/\m<=5)/\RT op ts t)
theorem O5(N:Nat)(op m:Int)(hm:m<=9223372036854775807)(ts:List Ty)(s:Sg)(hl:(ts.length:Int)=ar op):Wp (M.aP N (op,m) ts s) fun r=>r.2=0->NT op m ts s r.1:=by
 unfold M.aP;dsimp only[ae,Row.den];simp only[o9 op 33 34,vb op 14 15 16,CX op 35 36 37 38 39,GP,alS]
 have fin:∀Q:Ty×Int->Prop,((op=14\/op=15\/op=16->0<=m/\m<=5)->∀t,RT op ts t->Q (t,0))->Q (((0:Int),(0:Int)),8)->((op=14\/op=15\/op=16)->0<=m/\m<=5)->Wp ((M.cH N op ts).bind fun xO=>if(!xO.2)=true then some (((0:Int),(0:Int)),(8:Int))else some (xO.1,(0:Int))) Q:=by
  intro Q hq h8 JQ
  refine Wp.seq _ (Jg N op ts hl) fun y hy=>?_
  refine Wp.ite (fun _=> .some h8) fun h=> .some (hq JQ _ (hy (by simpa using h)))
 refine Wp.join ?_
 refine Wp.dec (fun h=>Wp.seq _ (nl _ _ 1 _ (by omega)) fun r hr=> .some fun h'=> .inl ⟨by omega,by rw[h];exact hr h'⟩) fun h1=>?_
 refine Wp.dec (fun h=>Wp.seq _ (nl _ _ 2 _ (by omega)) fun r hr=> .some fun h'=> .inl ⟨by omega,by rw[h];exact hr h'⟩) fun h2=>?_
 refine Wp.dec (fun h=>Wp.seq _ (nl _ _ 3 _ (by omega)) fun r hr=> .some fun h'=> .inl ⟨by omega,by rw[h];exact hr h'⟩) fun h3=>?_
 refine Wp.dec (fun h=>Wp.seq _ (nl _ _ 4 _ (by omega)) fun r hr=> .some fun h'=> .inl ⟨by omega,by rw[h];exact hr h'⟩) fun h4=>?_
 refine Wp.dec (fun h=>Wp.seq _ (nl _ _ 5 _ (by omega)) fun r hr=> .some fun h'=> .inl ⟨by omega,by rw[h];exact hr h'⟩) fun h5=>?_
 refine Wp.dec (fun h=>Wp.seq _ (O4 _ _ hm _) fun r hr=> .some fun h'=> .inr (.inl ⟨h,hr h'⟩)) fun h6=>?_
 refine Wp.dec (fun h=>Wp.seq _ (tZ ..) fun r hr=> .some fun h'=> .inr (.inr (.inl ⟨h,hr h'⟩))) fun h7=>?_
 refine Wp.dec (fun h=>Wp.seq _ (tZ ..) fun r hr=> .some fun h'=> .inr (.inr (.inr (.inl ⟨h,hr h'⟩)))) fun h8=>?_
 refine Wp.dec (fun h=> .some fun h'=> .inr (.inr (.inr (.inr (.inl ⟨h,rfl⟩))))) fun h9=>?_
 refine Wp.dec (fun h=>?_) fun NF=>?_
 .obtain⟨a,rfl⟩:=WI (l:=ts) (by have:ar op=1:=by rcases h with h|h<;>rw[h]<;>rfl
                                omega)
  simp only[mR,alS]
  exact Wp.seq _ (Md ..) fun r hr=> .some fun h'=> .inr (.inr (.inr (.inr (.inr (.inl ⟨h,a,rfl,hr h'⟩)))))
 refine Wp.dec (fun h=>?_) fun h35=>?_
 .refine Wp.seq _ (Jh ..) fun r hr=> .some fun h'=>?_
  rcases hr h' with⟨g1,g2⟩|⟨g1,g2⟩
  .exact .inr (.inr (.inr (.inr (.inr (.inr (.inl ⟨g1,g2⟩))))))
  .exact .inr (.inr (.inr (.inr (.inr (.inr (.inr (.inl ⟨by omega,g2⟩)))))))
 refine Wp.dec (fun h=>?_) fun Db=>?_
 .refine Wp.ite (fun _=> .some fun h=>by cases h) fun hmo=> .some ?_
  exact fin _ (fun JQ t ht _=> .inr (.inr (.inr (.inr (.inr (.inr (.inr (.inr ⟨JQ,ht⟩)))))))) (fun h=>by cases h) fun _=>by simpa using hmo
 .refine .some ?_
  exact fin _ (fun JQ t ht _=> .inr (.inr (.inr (.inr (.inr (.inr (.inr (.inr ⟨JQ,ht⟩)))))))) (fun h=>by cases h) fun h=>absurd h Db
end L.P
end Go.Proofs.YtmihpkfkbfgigaaGreatDoor
end
section
open _root_.Int renaming toNat_natCast->al1
open _root_.List renaming append_assoc->amk,getD->amn,getElem?_append_left->amq,length_append->alY,length_singleton->al6
namespace Go.Proofs.YtmihpkfkbfgigaaGreatDoor
open Go Go.RowKit
set_option maxRecDepth 100000
namespace L.P
theorem xl{g:Nat->Vl×Int}:∀{os:List Nat}{c:Int},eQ g os= .inr c->c≠0
 |[],c,h=>by cases h
 |o::os,c,h=>by
  rw[eQ]at h;split at h
  .cases hq:eQ g os with
   |inl vs=>rw[hq]at h;cases h
   |inr d=>rw[hq]at h;cases h;exact xl hq
  .rename_i h0;cases h;exact h0
theorem Fi{st:List Nat}:∀{i:Nat}{l:List Nat},Ch st i l->∀a:Nat,a<=l.length->opsL st l.length i=opsL st (l.length-a) (mW (a:Int) i l)++opsL st a i:=by
 intro i l c
 induction c with
 |nil=>
  intro a ha
  obtain rfl:a=0:=by simpa using ha
  simp[opsL]
 | @snoc j s l h1 h2 c ih=>
   intro a ha;rw[alY,al6]at ha⊢
   have hg:st.getD (j+1-1) 0=s:=by simp[amn,h1]
   cases a with
   |zero=>simp[mW,opsL]
   |succ a=>
    have e1:opsL st (l.length+1) (j+1)=opsL st l.length s++[j]:=by rw[opsL,hg];rfl
    have e2:opsL st (a+1) (j+1)=opsL st a s++[j]:=by rw[opsL,hg];rfl
    rw[e1,e2,ih a (by omega),amk]
    have e3:l.length+1-(a+1)=l.length-a:=by omega
    rw[e3]
    congr 1
    have en:((a+1:Nat):Int).toNat=a+1:=by omega
    have s1:mW ((a+1:Nat):Int) (j+1) (l++[s])=(l++[s]).getD (l.length-a) 0:=by
     unfold mW;rw[if_neg (by omega),alY,al6,en,e3]
    rw[s1];unfold mW;by_cases h0:(a:Int)=0
    .rw[if_pos h0]
     have:a=0:=by omega
     subst this;simp[amn]
    .rw[if_neg h0,al1]
     have aj:l.length-a<l.length:=by omega
     simp[amn,amq aj]
theorem O6{e:List Ty}{st:List Nat}(w:Whole e st){l:List Nat}(c:Ch st e.length l):opsL st l.length e.length=[e.length-1]:=by
 have hp:0<e.length:=List.length_pos_iff.2 w.ne
 have h1:l.length=1:=by
  have:=(c.one hp).2 w.one;have:=List.length_pos_iff.2 (c.pos hp);omega
 rw[h1,opsL];rfl
end L.P
end Go.Proofs.YtmihpkfkbfgigaaGreatDoor
end
