/- Joined texts: PQ8 P28 CV PD RA RB RC RD RE RF RI RU. -/
import Derived.Test.YtilaieogabgamaaGreatDoorU12
import Derived.Test.YtilaieogabgamaaGreatDoorU1
import Derived.Test.YtilaieogabgamaaGreatDoorU10
section
open _root_.Int renaming toNat_natCast->aja
open _root_.List renaming append_nil->ajW,getD->ajD,getElem?_append_left->ajA,getElem?_append_right->ajN,getElem?_eq_getElem->ai5,getElem?_eq_some_iff->ai7,getElem?_map->aj2,getElem_mem->ajc,getElem_of_mem->aji,length_append->ai6,length_map->ajG,mem_append->ajs,mem_map->akD,mem_of_getElem?->akj,mem_singleton->ajj,replicate->ai9,replicate_succ->aj9
open _root_.Nat renaming le_refl->ai8,zero_le->ajt
open _root_.Option renaming bind_some->ai2,getD_some->ajP
open _root_.Option.some renaming inj->ai4
namespace Go.Proofs.YtilaieogabgamaaGreatDoor
open Go Go.RowKit
set_option maxRecDepth 100000
namespace L.P.Q
def gb(l:List Bool)(k:Nat):Bool:=l.getD k false
theorem qJ{l:List Bool}{t:Nat}(ht:t<l.length)(d:Bool)(k:Nat):gb (l.set t d) k=if k=t then d else gb l k:=by
 unfold gb ajD;by_cases h:k=t
 .subst h;rw[if_pos rfl,List.getElem?_set_self ht];rfl
 .rw[if_neg h,List.getElem?_set_ne (by omega)]
theorem tf{l:List Bool}{t:Nat}(ht:t<l.length):idx l (t:Int)=some (gb l t):=by
 rw[ag ht];simp[gb,ajD,ht]
theorem Ra(n k:Nat):gb (ai9 n false) k=false:=by
 unfold gb ajD;by_cases h:k<n
 .simp[h]
 .rw[List.getElem?_eq_none (by simp;omega)];rfl
structure RL(code:List Ty)(F:List Int)(l:List Bool):Prop where
 len:l.length=code.length+1
 zero:gb l 0=true
 sound:∀i,gb l i=true->0<=gd F i
 step:∀(i:Nat)n,code[i]? =some n->gb l i=true->((n.1:Int)≠51->gb l (i+1)=true)/\(kI n->∀t:Nat,(n.2:Int)=t->gb l t=true)
theorem zS{code:List Ty}{F:List Int}(f:Fits code F):Wp (M.eI aC code) fun r=>∃l,RL code F l/\r=l.take code.length:=by
 have hle:=f.le;have nR:=f.pos;unfold M.eI;rw[aK (by omega)]
 have wK:mV ((code.length+1:Nat):Int) false=some (ai9 (code.length+1) false):=by
  unfold mV;rw[if_pos (by omega),aja]
 rw[wK];simp only[ai2]
 have e1:idx (ai9 (code.length+1) false) 0=some false:=by rw[aj9];rfl
 rw[e1];simp only[ai2];have es:aT (ai9 (code.length+1) false) (0:Int) true=(ai9 (code.length+1) false).set 0 true:=rfl;rw[es]
 have g0:∀k,gb ((ai9 (code.length+1) false).set 0 true) k=if k=0 then true else false:=fun k=>by
  rw[qJ (by simp),Ra]
 refine Wp.seq (RL code F) ?_ fun l hl=>?_
 .refine Wp.loop (fun s:Int×List Bool=>∃i:Nat,s.1=i/\i<=code.length/\s.2.length=code.length+1/\gb s.2 0=true/\(∀j,gb s.2 j=true->0<=gd F j)/\∀(j:Nat)n,j<i->code[j]? =some n->gb s.2 j=true->((n.1:Int)≠51->gb s.2 (j+1)=true)/\(kI n->∀t:Nat,(n.2:Int)=t->gb s.2 t=true)) (fun s=>(code.length-s.1).toNat) ⟨0,rfl,ajt _,by simp,by rw[g0];rfl,fun j hj=>?_,fun j n h=>by omega⟩ (by unfold aC;simp only;omega) ?_
  .simp only[g0]at hj;split at hj
   .rename_i e;subst e;rw[f.first];decide
   .cases hj
  rintro⟨_,l⟩ ⟨i,rfl,hi,Ah,hz,hs,eB⟩
  dsimp only at Ah hz hs eB⊢
  refine Wp.dec (fun h=>?_) fun h=> .some ⟨Ah,hz,hs,fun j n hn=>eB j n ?_ hn⟩
  case refine_2=>
   have:=(ai7.1 hn).1;omega
  have gv:i<code.length:=by omega
  have hge:=ai5 gv;rw[ag gv,tf (by omega)];generalize code[i]=n at hge⊢;simp only[ai2,mm]
  have mono:∀{a b:List Bool}{t:Nat},t<a.length->0<=gd F t->b=a.set t true->(∀j,gb a j=true->0<=gd F j)->(∀j,gb b j=true->0<=gd F j)/\(∀j,gb a j=true->gb b j=true)/\(∀j,j≠t->gb b j=gb a j)/\gb b t=true:=by
   intro a b t ht h0 e hs;subst e;refine⟨fun j hj=>?_,fun j hj=>?_,fun j hj=>?_,?_⟩
   .rw[qJ ht]at hj;split at hj
    .rename_i e;rw[e];exact h0
    .exact hs j hj
   .rw[qJ ht];split
    .rfl
    .exact hj
   .rw[qJ ht,if_neg hj]
   .rw[qJ ht,if_pos rfl]
  refine Wp.seq (fun o=>o.length=code.length+1/\(∀j,gb o j=true->0<=gd F j)/\(∀j,gb l j=true->gb o j=true)/\(∀j,j<=i->gb o j=gb l j)/\(gb l i=true->((n.1:Int)≠51->gb o (i+1)=true)/\(kI n->∀t:Nat,(n.2:Int)=t->gb o t=true))) ?_ fun o ho=> .some ?_
  .by_cases hg:gb l i=true
   .rw[if_neg (by simp[hg])];have h0:=hs i hg;obtain⟨sp,_⟩:=f.at hge h0
    have hnx:(n.1:Int)≠51->0<=gd F (i+1):=by
     intro h
     rcases sp with⟨c,_⟩|⟨_,c2,c3,_⟩|⟨_,_,c3,c4,c5,_⟩
     .exact absurd c h
     .omega
     .omega
    have htg:kI n->∃t:Nat,(n.2:Int)=t/\i<t/\t<=code.length/\0<=gd F t:=by
     intro h
     rcases sp with⟨_,t,c2,c3,c4,c5⟩|⟨_,c2,c3,t,c4,c5,c6,c7⟩|⟨c1,c2,_⟩
     .exact⟨t,c2,c3,c4,by omega⟩
     .exact⟨t,c4,c5,c6,by rw[c7];split<;>omega⟩
     .exact(lR h).elim (fun e=>absurd e c1) (fun e=>absurd e c2)
    refine Wp.seq (fun o=>o.length=code.length+1/\(∀j,gb o j=true->0<=gd F j)/\(∀j,gb l j=true->gb o j=true)/\(∀j,j<=i->gb o j=gb l j)/\((n.1:Int)≠51->gb o (i+1)=true)) ?_ fun o ho=>?_
    .refine Wp.mY (fun qH=>?_) fun qH=> .some ⟨Ah,hs,fun _ h=>h,fun _ _=>rfl,fun h=>absurd qH h⟩
     rw[aK (by omega),tf (by omega)];simp only[ai2];obtain⟨m1,m2,m3,m4⟩:=mono (a:=l) (t:=i+1) (by omega) (hnx qH) rfl hs;refine .some ⟨by simp[aT,Ah],m1,m2,fun j hj=>m3 j (by omega),fun _=>m4⟩
    obtain⟨o1,o2,o3,o4,o5⟩:=ho
    refine Wp.dec (fun hj=>?_) fun hj=> .some ⟨o1,o2,o3,o4,fun _=>⟨o5,fun h=>absurd h hj⟩⟩
    obtain⟨t,t1,t2,t3,t4⟩:=htg hj;rw[show(n.2:Int)=t from t1,tf (by omega)];simp only[ai2];obtain⟨m1,m2,m3,m4⟩:=mono (a:=o) (t:=t) (by omega) t4 rfl o2;refine .some ⟨by simp[aT,o1],m1,fun j h=>m2 j (o3 j h),fun j hj=>by rw[<-o4 j hj];exact m3 j (by omega),fun _=>⟨fun h=>m2 _ (o5 h),fun _ u hu=>?_⟩⟩
    have:u=t:=by have h:(t:Int)=u:=hu;omega
    subst this;exact m4
   .rw[if_pos (by simpa using hg)];exact .some ⟨Ah,hs,fun _ h=>h,fun _ _=>rfl,fun h=>absurd h hg⟩
  .obtain⟨o1,o2,o3,o4,o5⟩:=ho;rw[aK (by omega)];refine⟨⟨i+1,rfl,gv,o1,o3 0 hz,o2,fun j m hj hm VE=>?_⟩,by simp only;omega⟩;by_cases e:j=i
   .subst e;rw[hge]at hm;obtain rfl:=ai4 hm;rw[o4 j (ai8 _)]at VE;exact o5 VE
   .rw[o4 j (by omega)]at VE;obtain⟨a1,a2⟩:=eB j m (by omega) hm VE;exact⟨fun h=>o3 _ (a1 h),fun h t ht=>o3 _ (a2 h t ht)⟩
 .rw[kQ (by rw[hl.len];omega)];simp only[ai2];exact .some ⟨l,hl,rfl⟩
def oZ(n:Ty)(i:Nat):Prop:=(n.1:Int)=51/\(n.2:Int)=((i+1:Nat):Int)
instance(n:Ty)(i:Nat):Decidable (oZ n i):=by unfold oZ;infer_instance
structure KL(code:List Ty)(l K:List Bool):Prop where
 len:K.length=code.length
 ok:∀(i:Nat)n,code[i]? =some n->(gb K i=true↔gb l i=true/\¬oZ n i)
def ct(K:List Bool):Nat->Nat
 |0=>0
 |i+1=>ct K i+if gb K i=true then 1 else 0
def kp{α:Type}(g:Nat->α)(K:List Bool):Nat->List α
 |0=>[]
 |i+1=>kp g K i++if gb K i=true then[g i]else[]
theorem kS{α:Type}(g:Nat->α)(K:List Bool):∀i,(kp g K i).length=ct K i
 |0=>rfl
 |i+1=>by
  rw[kp,ct,ai6,kS g K i]
  split<;>rfl
theorem zT(K:List Bool){i j:Nat}(h:i<=j):ct K i<=ct K j:=by
 induction j with
 |zero=>obtain rfl:i=0:=by omega
        exact ai8 _
 |succ j ih=>
  by_cases e:i=j+1
  .rw[e];exact ai8 _
  .have:=ih (by omega);rw[ct];omega
theorem yp(K:List Bool):∀i,ct K i<=i
 |0=>ai8 _
 |i+1=>by
  have:=yp K i;rw[ct]
  split<;>omega
theorem wi{α:Type}(g:Nat->α)(K:List Bool){i:Nat}(hi:gb K i=true):∀j,i<j->(kp g K j)[ct K i]? =some (g i):=by
 intro j
 induction j with
 |zero=>intro h;omega
 |succ j ih=>
  intro h;rw[kp];by_cases e:i=j
  .subst e;rw[if_pos hi,ajN (by rw[kS];exact ai8 _),kS,Nat.sub_self];rfl
  .have al:ct K i<(kp g K j).length:=by
    rw[kS];have h1:ct K (i+1)<=ct K j:=zT K (by omega);rw[ct,if_pos hi]at h1;omega
   rw[ajA al];exact ih (by omega)
theorem zU(K:List Bool){q:Nat}:∀j,q<ct K j->∃i,i<j/\gb K i=true/\ct K i=q:=by
 intro j
 induction j with
 |zero=>intro h;simp[ct]at h
 |succ j ih=>
  intro h;by_cases hq:q<ct K j
  .obtain⟨i,h1,h2,h3⟩:=ih hq;exact⟨i,by omega,h2,h3⟩
  .rw[ct]at h;by_cases hk:gb K j=true
   .rw[if_pos hk]at h;exact⟨j,by omega,hk,by omega⟩
   .rw[if_neg hk]at h;omega
def rj(K:List Bool)(n:Ty):Ty:=if kI n then((n.1,((ct K (n.2:Int).toNat:Nat):Int)):Int×Int)else n
def rem(code:List Ty)(K:List Bool):List Ty:=(kp (fun i=>code.getD i ((0,0):Int×Int)) K code.length).map (rj K)
theorem Lj(K:List Bool)(n:Ty):((rj K n).1:Int)=n.1:=by
 unfold rj
 split<;>rfl
theorem Lk{K:List Bool}{n:Ty}(h:¬kI n):rj K n=n:=by
 unfold rj;rw[if_neg h]
theorem uk{code:List Ty}{K:List Bool}(hl:code.length<=1000)(hK:K.length=code.length)(hj:∀(i:Nat)n,code[i]? =some n->gb K i=true->kI n->∃t:Nat,(n.2:Int)=t/\t<=code.length):Wp (M.dt aC code K) fun r=>r=rem code K:=by
 unfold M.dt;rw[aK (by omega)]
 have wK:mV ((code.length+1:Nat):Int) (0:Int)=some (ai9 (code.length+1) 0):=by
  unfold mV;rw[if_pos (by omega),aja]
 rw[wK];simp only[ai2]
 refine Wp.seq (fun j=>j.1.length=code.length+1/\(∀t:Nat,t<code.length->j.1[t]? =some (((ct K t:Nat):Int)))/\j.2=kp (fun i=>code.getD i ((0,0):Int×Int)) K code.length) ?_ fun j Q8=>?_
 .refine Wp.loop (fun s:Int×List Int×List Ty=>∃i:Nat,s.1=i/\i<=code.length/\s.2.1.length=code.length+1/\(∀t:Nat,t<i->s.2.1[t]? =some (((ct K t:Nat):Int)))/\s.2.2=kp (fun i=>code.getD i ((0,0):Int×Int)) K i) (fun s=>(code.length-s.1).toNat) ⟨0,rfl,ajt _,by simp,fun t h=>by omega,rfl⟩ (by unfold aC;simp only;omega) ?_
  rintro⟨_,ps,_⟩ ⟨i,rfl,hi,rc,hp,rfl⟩
  dsimp only at rc hp⊢
  refine Wp.dec (fun h=>?_) fun h=> .some ?_
  .have gv:i<code.length:=by omega
   rw[ag gv,ag (show i<ps.length by omega),tf (by omega)];simp only[ai2]
   have Hz:code.getD i ((0,0):Int×Int)=code[i]:=by simp only[ajD,gv,ai5,ajP]
   have IP:=kS (fun i=>code.getD i ((0,0):Int×Int)) K i;have xh:=yp K i
   refine Wp.seq (fun o=>o=(ps.set i (((ct K i:Nat):Int)),kp (fun i=>code.getD i ((0,0):Int×Int)) K (i+1))) ?_ fun o ho=> .some ?_
   .by_cases hg:gb K i=true
    .rw[if_pos hg,bD (by rw[IP];simp;omega)];simp only[ai2];refine .some ?_;rw[kp,if_pos hg,Hz,IP];rfl
    .rw[if_neg hg];refine .some ?_;rw[kp,if_neg hg,ajW,IP];rfl
   .subst ho;rw[aK (by omega)];refine⟨⟨i+1,rfl,gv,by simp[rc],fun t ht=>?_,rfl⟩,by simp only;omega⟩
    show(ps.set i _)[t]? =_
    by_cases e:t=i
    .subst e;rw[List.getElem?_set_self (by omega)]
    .rw[List.getElem?_set_ne (by omega)];exact hp t (by omega)
  .obtain rfl:i=code.length:=by omega
   exact⟨rc,hp,rfl⟩
 .obtain⟨ps,res⟩:=j;obtain⟨p1,p2,rfl⟩:=Q8;dsimp only at p1 p2⊢;rw[ag (show code.length<ps.length by omega)];simp only[ai2];have xh:=yp K code.length;have IP:=kS (fun i=>code.getD i ((0,0):Int×Int)) K code.length
  have RB:∀t:Nat,t<=code.length->idx (aT ps (code.length:Int) (((kp (fun i=>code.getD i ((0,0):Int×Int)) K code.length).length:Nat):Int)) (t:Int)=some (((ct K t:Nat):Int)):=by
   intro t ht
   have hlen:t<(aT ps (code.length:Int) (((kp (fun i=>code.getD i ((0,0):Int×Int)) K code.length).length:Nat):Int)).length:=by simp[aT];omega
   rw[ag hlen]
   have e:(aT ps (code.length:Int) (((kp (fun i=>code.getD i ((0,0):Int×Int)) K code.length).length:Nat):Int))[t]? =some (((ct K t:Nat):Int)):=by
    unfold aT;rw[aja,IP];by_cases e:t=code.length
    .subst e;rw[List.getElem?_set_self (by omega)]
    .rw[List.getElem?_set_ne (by omega)];exact p2 t (by omega)
   rw[ai5 hlen]at e;exact e
  unfold rem
  refine Ca (by omega) (fun q hq l Ah VF=>?_) fun l Ah=>?_
  .have hq2:q<l.length:=by omega
   have hqc:q<ct K code.length:=by omega
   obtain⟨i,i1,i2,i3⟩:=zU K _ hqc
   have Hz:code.getD i ((0,0):Int×Int)=code[i]:=by simp only[ajD,i1,ai5,ajP]
   have hx:(kp (fun i=>code.getD i ((0,0):Int×Int)) K code.length)[q]=code[i]:=by
    have:=wi (fun i=>code.getD i ((0,0):Int×Int)) K i2 code.length i1;rw[i3,ai5 hq,Hz]at this;exact ai4 this
   have hge:=ai5 i1;rw[hx]at VF⊢;generalize code[i]=x at VF hge⊢;dsimp only;rw[ag hq2,VF];simp only[ai2,mm]
   refine Wp.dec (fun _=>?_) fun h=>by omega
   refine Wp.seq (fun o=>o=l.set q (rj K x)) ?_ fun o ho=> .some ?_
   .refine Wp.dec (fun CN=>?_) fun CN=> .some ?_
    .obtain⟨t,t1,t2⟩:=hj i x hge i2 CN;rw[show(x.2:Int)=t from t1,RB t t2];simp only[ai2];refine .some ?_;unfold rj;rw[if_pos (show kI x from CN),t1];simp[aT]
    .rw[Lk CN,<-VF];simp
   .rw[ho,aK (by omega)]
  .dsimp only
   exact Wp.dec (fun h=>by omega) fun _=> .some rfl
theorem Cg{K:List Bool}(hl:K.length<=1000):Wp (M.cN aC K false) fun b=>(b=true->∃i,i<K.length/\gb K i=false):=by
 unfold M.cN M.fW
 refine Wp.seq (fun r:Int=>0<=r->∃i,i<K.length/\gb K i=false) ?_ fun r hr=> .some fun h=>hr (by simpa using h)
 refine Wp.loop (fun s:Int=>∃i:Nat,s=i/\i<=K.length) (fun s=>(K.length-s).toNat) ⟨0,rfl,ajt _⟩ (by unfold aC;omega) ?_
 rintro _ ⟨i,rfl,hi⟩
 refine Wp.dec (fun h=>?_) fun h=> .some fun h=>absurd h (by decide)
 have gv:i<K.length:=by omega
 rw[tf gv];simp only[ai2]
 refine Wp.dec (fun h1=> .some fun _=>⟨i,gv,h1.symm⟩) fun h1=> .some ?_
 rw[aK (by omega)];exact⟨⟨i+1,rfl,gv⟩,by simp only;omega⟩
theorem Ll{code:List Ty}{F:List Int}{l K:List Bool}(f:Fits code F)(hw:∀n∈code,WF aa n)(r:RL code F l)(k:KL code l K):oe code (rem code K)/\(rem code K).length=ct K code.length:=by
 have hlen:(rem code K).length=ct K code.length:=by unfold rem;rw[ajG,kS]
 have xh:=yp K code.length;have hle:=f.le;refine⟨?_,hlen⟩
 have gF:∀i,gb K i=true->i<code.length->gd (kp (fun i=>gd F i) K code.length++[1]) (ct K i)=gd F i:=by
  intro i hi al;have:=wi (fun i=>gd F i) K hi code.length al;have hl2:ct K i<(kp (fun i=>gd F i) K code.length).length:=(ai7.1 this).1;rw[tc,ajA hl2,this];rfl
 have gL:gd (kp (fun i=>gd F i) K code.length++[1]) (ct K code.length)=1:=by
  rw[tc,ajN (by rw[kS];exact ai8 _),kS,Nat.sub_self];rfl
 have skip:∀(p:Nat)n,code[p]? =some n->gb l p=true->¬gb K p=true->oZ n p/\gb l (p+1)=true/\gd F (p+1)=gd F p/\ct K (p+1)=ct K p:=by
  intro p n hn hg hk
  have hx:oZ n p:=by
   by_cases h:oZ n p
   .exact h
   .exact absurd ((k.ok p n hn).2 ⟨hg,h⟩) hk
  refine⟨hx,(r.step p n hn hg).2 (qi hx.1) (p+1) hx.2,?_,by rw[ct,if_neg hk];rfl⟩;obtain⟨s,_⟩:=f.at hn (r.sound p hg)
  rcases s with⟨_,u,u1,u2,u3,u4⟩|⟨c,_⟩|⟨c,_⟩
  .have:u=p+1:=nat_eq u1 hx.2;rw[<-this];exact u4
  .exact absurd hx.1 (nc c)
  .exact absurd hx.1 c
 have dep:∀(m p:Nat),code.length-p<=m->p<=code.length->gb l p=true->gd (kp (fun i=>gd F i) K code.length++[1]) (ct K p)=gd F p:=by
  intro m
  induction m with
  |zero=>
   intro p hm hp hg
   obtain rfl:p=code.length:=by omega
   rw[gL,f.last]
  |succ m ih=>
   intro p hm hp hg;by_cases al:p<code.length
   .by_cases hk:gb K p=true
    .exact gF p hk al
    .obtain⟨_,h1,h2,h3⟩:=skip p _ (ai5 al) hg hk;rw[<-h3,<-h2];exact ih (p+1) (by omega) al h1
   .obtain rfl:p=code.length:=by omega
    rw[gL,f.last]
 have abB:∀(m p:Nat),code.length-p<=m->p<=code.length->gb l p=true->gb l code.length=true:=by
  intro m
  induction m with
  |zero=>
   intro p hm hp hg
   obtain rfl:p=code.length:=by omega
   exact hg
  |succ m ih=>
   intro p hm hp hg;by_cases al:p<code.length
   .have hge:=ai5 al;obtain⟨s1,s2⟩:=r.step p _ hge hg;by_cases qH:(code[p].1:Int)=51
    .obtain⟨s,_⟩:=f.at hge (r.sound p hg)
     rcases s with⟨_,u,u1,u2,u3,u4⟩|⟨c,_⟩|⟨c,_⟩
     .exact ih u (by omega) u3 (s2 (qi qH) u u1)
     .exact absurd qH (nc c)
     .exact absurd qH c
    .exact ih (p+1) (by omega) al (s1 qH)
   .obtain rfl:p=code.length:=by omega
    exact hg
 have abC:=abB code.length 0 (by omega) (ajt _) r.zero
 have one:∀p:Nat,p<code.length->gb K p=true->L8 code (rem code K) (fun p q=>gb l p=true/\p<=code.length/\q=ct K p) p (ct K p):=by
  intro p hp hk;have hge:=ai5 hp
  have hb:(rem code K)[ct K p]? =some (rj K code[p]):=by
   unfold rem;rw[aj2,wi _ K hk code.length hp];simp only[ajD,hge,ajP,Option.map_some]
  have RR:ct K (p+1)=ct K p+1:=by rw[ct,if_pos hk]
  generalize code[p]=n at hge hb;have hg:=((k.ok p n hge).1 hk).1;obtain⟨s1,s2⟩:=r.step p n hge hg
  have UH:∀t:Nat,kI n->(n.2:Int)=t->p<t->t<=code.length->((rj K n).2:Int)=((ct K t:Nat):Int)/\ct K p<ct K t/\gb l t=true:=by
   intro t hj ht Nr Dd;refine⟨?_,?_,s2 hj t ht⟩
   .unfold rj;rw[if_pos hj]
    show((ct K (n.2:Int).toNat:Nat):Int)=_
    rw[ht];rfl
   .have:=zT K (show p+1<=t by omega);omega
  by_cases hj:kI n
  .obtain⟨s,_⟩:=f.at hge (r.sound p hg)
   rcases s with⟨c1,t,c2,c3,c4,c5⟩|⟨c1,c2,c3,t,c4,c5,c6,c7⟩|⟨c1,c2,_⟩
   .obtain⟨t1,t2,t3⟩:=UH t hj c2 c3 c4;exact .jump hge hb c1 ((Lj K n).trans c1) c2 t1 t2 ⟨t3,c4,rfl⟩
   .obtain⟨t1,t2,t3⟩:=UH t hj c4 c5 c6;exact .cond hge hb c1 (Lj K n) c4 t1 t2 ⟨t3,c6,rfl⟩ ⟨s1 (nc c1),hp,RR.symm⟩
   .exact(lR hj).elim (fun e=>absurd e c1) (fun e=>absurd e c2)
  .rw[Lk hj]at hb;exact .op hge hb hj ⟨s1 (fun h=>hj (qi h)),hp,RR.symm⟩
 have d0:=dep code.length 0 (by omega) (ajt _) r.zero;rw[f.first]at d0
 have nR:0<ct K code.length:=by
  rcases Nat.eq_zero_or_pos (ct K code.length)with h|h
  .rw[h]at gL;have e:ct K 0=0:=rfl;rw[e,gL]at d0;cases d0
  .exact h
 have s:Nz code (rem code K) F (kp (fun i=>gd F i) K code.length++[1]) (fun p q=>gb l p=true/\p<=code.length/\q=ct K p):=by
  refine⟨f,by omega,by omega,by rw[ai6,kS,hlen];rfl,fun q=>?_,fun p q h=>?_,fun p q h=>?_,fun q hq h0=>?_,⟨r.zero,ajt _,rfl⟩,⟨abC,ai8 _,hlen⟩⟩
  .rw[tc]
   cases hx:(kp (fun i=>gd F i) K code.length++[1])[q]? with
   |none=>decide
   |some z=>
    show-1<=z/\z<=12
    have hm:=akj hx
    rcases ajs.1 hm with hm|hm
    .obtain⟨q',mz,rfl⟩:=aji hm;rw[kS]at mz;obtain⟨i,i1,i2,i3⟩:=zU K _ mz;have:=wi (fun i=>gd F i) K i2 code.length i1;rw[i3,ai5 (by rw[kS];exact mz)]at this;rw[ai4 this];exact f.bd i
    .rw[ajj.1 hm];decide
  .obtain⟨a1,a2,rfl⟩:=h;exact⟨r.sound p a1,a2,by rw[hlen];exact zT K a2,dep code.length p (by omega) a2 a1⟩
  .obtain⟨a1,a2,rfl⟩:=h;by_cases hp:p=code.length
   .exact .inl ⟨hp,by rw[hlen,hp]⟩
   .have al:p<code.length:=by omega
    by_cases hk:gb K p=true
    .exact .inr (.inl (one p al hk))
    .have hge:=ai5 al;obtain⟨h1,h2,_,h3⟩:=skip p _ hge a1 hk;exact .inr (.inr ⟨_,p+1,hge,h1.1,h1.2,h2,al,h3.symm⟩)
  .rw[hlen]at hq;obtain⟨i,i1,i2,i3⟩:=zU K _ hq;subst i3;exact⟨i,⟨((k.ok i _ (ai5 i1)).1 i2).1,by omega,rfl⟩,one i i1 i2⟩
 refine s.same (by omega) fun m hm=>?_
 unfold rem at hm;obtain⟨y,hy,rfl⟩:=akD.1 hm;obtain⟨q,hq,rfl⟩:=aji hy;have mz:=hq;rw[kS]at mz;obtain⟨i,i1,i2,i3⟩:=zU K _ mz;have:=wi (fun i=>code.getD i ((0,0):Int×Int)) K i2 code.length i1;rw[i3,ai5 hq]at this;have e:=ai4 this
 have Hz:code.getD i ((0,0):Int×Int)=code[i]:=by simp only[ajD,i1,ai5,ajP]
 rw[e,Hz];have hwi:=hw _ (ajc i1);unfold rj;split
 .rename_i hj;refine⟨hwi.1,?_,?_⟩
  .show(-9223372036854775808:Int)<=((ct K _:Nat):Int);omega
  .show((ct K (code[i].2:Int).toNat:Nat):Int)<=(9223372036854775807:Int)
   by_cases VG:∃t:Nat,(code[i].2:Int)=t/\t<=code.length
   .obtain⟨t,t1,t2⟩:=VG;rw[t1,aja];have:=yp K t;omega
   .exfalso;apply VG;have hge:=ai5 i1;obtain⟨s,_⟩:=f.at hge (r.sound i ((k.ok i _ hge).1 i2).1)
    rcases s with⟨c1,t,c2,c3,c4,c5⟩|⟨c1,c2,c3,t,c4,c5,c6,c7⟩|⟨c1,c2,_⟩
    .exact⟨t,c2,c4⟩
    .exact⟨t,c4,c6⟩
    .exact(lR hj).elim (fun e=>absurd e c1) (fun e=>absurd e c2)
 .exact hwi
end L.P.Q
end Go.Proofs.YtilaieogabgamaaGreatDoor
end
section
open _root_.Go.IntKind renaming i64->ai3
open _root_.List renaming getD->ajD,getElem?_eq_getElem->ai5,getElem?_eq_some_iff->ai7
open _root_.Nat renaming le_refl->ai8,zero_le->ajt
open _root_.Option renaming bind_some->ai2
open _root_.Option.some renaming inj->ai4
namespace Go.Proofs.YtilaieogabgamaaGreatDoor
open Go Go.RowKit
set_option maxRecDepth 100000
namespace L.P.Q
noncomputable def FU(s4:List aa.den):Option (List aa.den⊕List aa.den):=
(M.eI aC s4).bind fun y5=>
(Loop (S:=Int×List Bool) (X:=List Bool) (fun s7=>
(if(decide (s7.1<(s4.length:Int)))=true then
((idx s4 s7.1).bind fun x9=>
((if(decide (x9.1=(51:Int)))=true then
some (decide (x9.2=(ai3.wrap (s7.1+(1:Int)))))
else
some false):Option (Bool)).bind fun qg=>
(if qg=true then
(idx s7.2 s7.1).bind fun ow=>
some (aT s7.2 s7.1 false)
else
some s7.2):Option (List Bool)).bind fun j8=>
some (Sum.inl (ai3.wrap (s7.1+(1:Int)),j8))
else
some (Sum.inr s7.2))) aC ((0:Int),y5):Option (List Bool)).bind fun j6=>
(M.cN aC j6 false).bind fun pV=>
(if pV=true then
(M.dt aC s4 j6).bind fun BM=>
some (Sum.inl BM)
else
some (Sum.inr s4))
theorem OR{K:List Bool}:∀{j:Nat},(∃i,i<j/\gb K i=false)->ct K j<j
 |0,⟨i,h,_⟩=>by omega
 |j+1,⟨i,h,hk⟩=>by
  rw[ct];by_cases e:i=j
  .subst e;rw[if_neg (by simp[hk])];have:=yp K i;omega
  .have:=OR (K:=K) (j:=j) ⟨i,by omega,hk⟩
   split<;>omega
theorem Lm{code:List Ty}{F:List Int}(f:Fits code F)(hw:∀n∈code,WF aa n):Wp (FU code) fun r=>(∃y,r= .inl y/\oe code y/\y.length<code.length)\/r= .inr code:=by
 have hle:=f.le;unfold FU
 refine Wp.seq _ (zS f) fun y hy=>?_
 obtain⟨l,r,rfl⟩:=hy;have hrl:=r.len
 refine Wp.seq (KL code l) ?_ fun K k=>?_
 .refine Wp.loop (fun s:Int×List Bool=>∃i:Nat,s.1=i/\i<=code.length/\s.2.length=code.length/\(∀(j:Nat)n,j<i->code[j]? =some n->(gb s.2 j=true↔gb l j=true/\¬oZ n j))/\∀j,i<=j->j<code.length->gb s.2 j=gb l j) (fun s=>(code.length-s.1).toNat) ⟨0,rfl,ajt _,by simp;omega,fun j n h=>by omega,fun j _ hj=>?_⟩ (by unfold aC;simp only;omega) ?_
  .show gb (l.take code.length) j=gb l j
   unfold gb;rw[ajD,ajD,List.getElem?_take_of_lt hj]
  rintro⟨_,K⟩ ⟨i,rfl,hi,VH,hd,hr⟩
  dsimp only at VH hd hr⊢
  refine Wp.dec (fun h=>?_) fun h=> .some ⟨VH,fun j n hn=>hd j n ?_ hn⟩
  case refine_2=>
   have:=(ai7.1 hn).1;omega
  have gv:i<code.length:=by omega
  have hge:=ai5 gv;rw[ag gv];generalize code[i]=n at hge⊢;simp only[ai2]
  refine Wp.seq (fun o=>o.length=code.length/\(gb o i=true↔gb l i=true/\¬oZ n i)/\∀j,j≠i->gb o j=gb K j) ?_ fun o ho=> .some ?_
  .refine Wp.seq (fun b=>b=decide (oZ n i)) ?_ fun b hb=>?_
   .rw[aK (by omega)]
    refine Wp.dec (fun h1=> .some ?_) fun h1=> .some ?_
    .unfold oZ
     by_cases h2:(n.2:Int)=((i+1:Nat):Int)
     .simp[h1,h2]
     .simp[h1,h2]
    .unfold oZ;simp[h1]
   .subst hb
    refine Wp.dec (fun h1=>?_) fun h1=> .some ⟨VH,?_,fun _ _=>rfl⟩
    .rw[tf (by omega)];simp only[ai2];refine .some ⟨by simp[aT,VH],?_,fun j hj=>?_⟩
     .show gb (K.set i false) i=true↔_
      rw[qJ (by omega),if_pos rfl];simp[h1]
     .show gb (K.set i false) j=gb K j
      rw[qJ (by omega),if_neg hj]
    .rw[hr i (ai8 _) gv];simp[h1]
  .obtain⟨o1,o2,o3⟩:=ho;rw[aK (by omega)];refine⟨⟨i+1,rfl,gv,o1,fun j m hj hm=>?_,fun j hj N9=>?_⟩,by simp only;omega⟩
   .by_cases e:j=i
    .subst e;rw[hge]at hm;obtain rfl:=ai4 hm;exact o2
    .show gb o j=true↔_
     rw[o3 j e];exact hd j m (by omega) hm
   .show gb o j=gb l j
    rw[o3 j (by omega)];exact hr j (by omega) N9
 .refine Wp.seq _ (Cg (by rw[k.len];omega)) fun b hb=>?_
  refine Wp.ite (fun h=>?_) fun _=> .some (.inr rfl)
  have hx:=hb h;rw[k.len]at hx
  refine Wp.seq _ (uk (by omega) k.len fun i n hn hk hj=>?_) fun z hz=> .some (.inl ⟨z,rfl,?_⟩)
  .obtain⟨s,_⟩:=f.at hn (r.sound i ((k.ok i n hn).1 hk).1)
   rcases s with⟨c1,t,c2,c3,c4,c5⟩|⟨c1,c2,c3,t,c4,c5,c6,c7⟩|⟨c1,c2,_⟩
   .exact⟨t,c2,c4⟩
   .exact⟨t,c4,c6⟩
   .exact(lR hj).elim (fun e=>absurd e c1) (fun e=>absurd e c2)
  .obtain⟨a1,a2⟩:=Ll f hw r k;rw[hz];refine⟨a1,?_⟩;rw[a2];exact OR hx
theorem Ig{code:List Ty}(hl:code.length<=1000)(hw:∀n∈code,WF aa n):Wp (M.cG aC code) fun y=>((¬∃F,Fits code F)/\y=code)\/((∃F,Fits code F)/\oe code y/\FU y=some (.inr y)):=by
 unfold M.cG;rw[wh hl];simp only[ai2];obtain⟨b,hb,Dc⟩:=oY code;rw[hb];simp only[ai2];refine Wp.join (Wp.ite (fun hc=> .some ?_) fun hc=> .some ?_)
 .exact .inl ⟨fun h=>(by rw[Dc.2 h]at hc;cases hc),rfl⟩
 have hF:∃F,Fits code F:=Dc.1 (by simpa using hc)
 have Lg:oe code code:=⟨hF,ai8 _,hw,fun _ _ _ h=>h⟩
 show Wp (Loop FU aC code) _
 refine Wp.loop (fun s:List Ty=>oe code s) (fun s=>s.length) Lg (by unfold aC;omega) ?_;intro s hs;obtain⟨F,f⟩:=hs.fits;obtain⟨r,hr,h⟩:=Lm f hs.wf;refine⟨r,hr,?_⟩
 rcases h with⟨y,rfl,h1,h2⟩|rfl
 .exact⟨hs.trans h1,h2⟩
 .exact .inr ⟨hF,hs,hr⟩
theorem wj(r:Row)(x:r.den):nh r x x=true:=by unfold nh;simp
end L.P.Q
end Go.Proofs.YtilaieogabgamaaGreatDoor
end
section
open _root_.Go.IntKind renaming i64->ai3
open _root_.List renaming getElem_mem->ajc,mem_map->akD
open _root_.Nat renaming le_trans->ajE
open _root_.Option renaming bind_some->ai2
open _root_.Option.some renaming inj->ai4
namespace Go.Proofs.YtilaieogabgamaaGreatDoor
open Go Go.RowKit
set_option maxRecDepth 100000
set_option linter.unusedSimpArgs false
namespace L.P.V
structure Code(e:List Ty)(s:Sg)(y:List Ty):Prop where
 pos:0<y.length
 le:y.length<=128
 wf:∀n∈y,WF aa n
 verify:Wp (M.cJ aC y) fun v=>v.2=0
theorem Ci{code:List Ty}(hl:code.length<=1000)(hw:∀n∈code,WF aa n)(hF:∃F,P.Q.Fits code F):Wp (M.gD aC code) (P.Q.oe code):=by
 have thr:∀{a:List Ty},a.length<=1000->(∀n∈a,WF aa n)->(∃F,P.Q.Fits a F)->Wp (M.dL aC a) fun y=>P.Q.oe a y:=fun{a}hl hw hF=>(P.Q.If hl hw).mono fun y hy=>by
  rcases hy with⟨h,_⟩|⟨⟨F,f⟩,e1,e2⟩
  .exact absurd hF h
  .exact P.Q.Cf f e1 e2
 have fol:∀{a:List Ty},a.length<=1000->(∀n∈a,WF aa n)->(∃F,P.Q.Fits a F)->Wp (M.dh aC a) fun y=>P.Q.oe a y:=fun{a}hl hw hF=>(P.Q.NH hl hw).mono fun y hy=>by
  rcases hy with⟨h,_⟩|⟨_,h,_⟩
  .exact absurd hF h
  .exact h
 have rmv:∀{a:List Ty},a.length<=1000->(∀n∈a,WF aa n)->(∃F,P.Q.Fits a F)->Wp (M.cG aC a) fun y=>P.Q.oe a y:=fun{a}hl hw hF=>(P.Q.Ig hl hw).mono fun y hy=>by
  rcases hy with⟨h,_⟩|⟨_,h,_⟩
  .exact absurd hF h
  .exact h
 unfold M.gD
 refine Wp.seq _ (fol hl hw hF) fun z1 t1=>?_
 refine Wp.seq _ (thr (ajE t1.le hl) t1.wf t1.fits) fun z2 t2=>?_
 have t12:=t1.trans t2
 exact Wp.seq _ (rmv (ajE t12.le hl) t12.wf t12.fits) fun z3 t3=> .some (t12.trans t3)
theorem FV{e:List Ty}{s:Sg}(Vw:∀n∈e,WF aa n){r:Ty×Int×Int}(hT:M.fS aC e s=some r)(h0:r.2.2=0):Wp (M.bB aC e) (Code e s):=by
 obtain⟨r',er,hr⟩:=Ib (s:=s) Vw;rw[hT]at er;obtain rfl:=ai4 er;obtain⟨st,w,ty,ID,hty⟩:=hr h0;have nR:0<e.length:=List.length_pos_iff.2 w.ne;have hle:=w.le;have f:=K9 w
 have UJ:M.iy aC e=some (0,ins (kH e st)):=by
  have eB:M.jz aC e=some ((pW e).2.1,(pW e).2.2):=by
   unfold M.jz;rw[od];rfl
  unfold M.iy;rw[eB,w.res];simp only[ai2];rw[if_neg (by simp),show ai3.wrap ((e.length:Int)-1)=((e.length-1:Nat):Int) by rw[aV (by omega) (by omega)];omega];unfold M.gZ;rw[wb w e.length (e.length-1) aC (by omega) (by omega) (by unfold aC;omega) [] 0 (by simp;omega)];rfl
 have hwc:∀n∈ins (kH e st),WF aa n:=fun n hn=>by
  obtain⟨j,hj,rfl⟩:=List.mem_iff_getElem.1 hn;obtain⟨kD,_⟩:=f.step j hj;have ahj:=f.le;obtain⟨x,hx,hxn⟩:=akD.1 (ajc hj)
  rcases Lc w e.length (e.length-1) 0 0 (by omega) x hx with h|h
  .rw[hxn]at h;generalize(ins (kH e st))[j]=n at*;obtain⟨(op:Int),(m:Int)⟩:=n;dsimp only[ae,Row.den]at*
   have hm:0<=m/\m<=128:=by
    rcases kD with⟨h1,t,h2,h3,h4,h5⟩|⟨h1,h2,h3,t,h4,h5,h6,h7⟩|⟨h1,h2,h3,h4,h5,h6⟩
    .dsimp only[ae,Row.den]at*;omega
    .dsimp only[ae,Row.den]at*;omega
    .dsimp only[ae,Row.den]at*;omega
   refine⟨⟨?_,?_⟩,⟨?_,?_⟩⟩
   .show(-9223372036854775808:Int)<=op;omega
   .show op<=(9223372036854775807:Int);omega
   .show(-9223372036854775808:Int)<=m;omega
   .show m<=(9223372036854775807:Int);omega
  .rw[hxn]at h;exact Vw _ h
 have abD:∃F,P.Q.Fits (ins (kH e st)) F:=by
  obtain⟨v,ev,hv⟩:=P.Q.tS (ins (kH e st));obtain⟨v',ev',di⟩:=Ia f;rw[ev]at ev';obtain rfl:=ai4 ev';exact hv di
 unfold M.bB;rw[if_neg (by rw[decide_eq_true_eq];omega),UJ,ai2];dsimp only
 refine Wp.seq _ (Ci (by have:=f.le;omega) hwc abD) fun y hy=> .some ?_
 obtain⟨F',f'⟩:=hy.fits;exact⟨f'.pos,f'.le,hy.wf,f'.verify⟩
end L.P.V
end Go.Proofs.YtilaieogabgamaaGreatDoor
end
section
namespace Go.Proofs.YtilaieogabgamaaGreatDoor
open Go Go.RowKit
set_option maxRecDepth 100000
set_option linter.unusedSimpArgs false
namespace L
abbrev Ty:Type:=aa.den
abbrev dC(l:List Nat):List Int:=l.map (fun n:Nat=>(n:Int))
def ar(op:Int):Int:=
 if(1<=op/\op<=9)\/(35<=op/\op<=39)then 0 else if op=10\/op=25\/(31<=op/\op<=34)then 1 else if(11<=op/\op<=24)\/(27<=op/\op<=30)then 2 else if op=26 then 3 else-1
theorem lg(op:Int):ar op<=3:=by unfold ar;omega
def lQ(a:Int)(i:Nat)(sk:List Nat):Nat:=if a=0 then i else sk.getD (sk.length-a.toNat) 0
def jq:List Ty->Nat->List Nat->List Nat->(Nat×Int)⊕(List Nat×List Nat)
 |[],_,st,sk=> .inr (st,sk)
 |n::e,i,st,sk=>
  if ar n.1<0 then .inl (i,2)else if(sk.length:Int)<ar n.1 then .inl (i,5)else
  if 12<sk.length-(ar n.1).toNat+1 then .inl (i,16)else jq e (i+1) (st++[lQ (ar n.1) i sk]) (sk.take (sk.length-(ar n.1).toNat)++[lQ (ar n.1) i sk])
def pW(e:List Ty):Int×Int×List Int:=
 if 48<e.length then(0,4,[])else if e.length=0 then(0,5,[])else match jq e 0 [] []with
  | .inl (i,c)=>(i,c,[])
  | .inr (st,sk)=>if 1<sk.length then(e.length,4,[])else(0,0,dC st)
def jI(t:Ty)(n:Nat):Prop:=(1<=(t.1:Int)/\(t.1:Int)<=5/\(t.2:Int)=0)\/((t.1:Int)=6/\0<=(t.2:Int)/\(t.2:Int)<n)
instance(t:Ty)(n:Nat):Decidable (jI t n):=by unfold jI;infer_instance
def VR(r:Ty):Prop:=0<=(r.1:Int)/\(r.1:Int)<=r.2/\(r.2:Int)<=109573
instance(r:Ty):Decidable (VR r):=by unfold VR;infer_instance
theorem zP(a b:Ty):nh aa a b=decide (a=b):=by
 unfold nh;exact decide_eq_decide.2 Iff.rfl
end L
end Go.Proofs.YtilaieogabgamaaGreatDoor
end
section
open _root_.Classical renaming propDecidable->akh
open _root_.Go.IntKind renaming i64->ai3
open _root_.List renaming getElem?_eq_getElem->ai5,getElem_mem->ajc,getElem_of_mem->aji,length_take->ajl
open _root_.Nat renaming lt_succ_iff_lt_or_eq->ajY
namespace Go.Proofs.YtilaieogabgamaaGreatDoor
open Go Go.RowKit
set_option maxRecDepth 100000
set_option linter.unusedSimpArgs false
namespace L
abbrev En:Type:=bq.den
abbrev wM:Type:=ax.den
abbrev Rw:Type:=dy.den
abbrev Fd:Type:=aJ.den
abbrev Lw:Type:=cn.den
abbrev iQ:Type:=az.den
abbrev lj:Type:=aN.den
theorem Cj(c:Int):M.mN aC c=some (decide (97<=c/\c<=122)):=by
 apply Wp.eq;unfold M.mN;simp only[W_,implies_true,forall_const,reduceCtorEq];omega
theorem Ln(c:Int):M.oS aC c=some (decide (48<=c/\c<=57)):=by
 apply Wp.eq;unfold M.oS;simp only[W_,implies_true,forall_const,reduceCtorEq];omega
theorem NJ(c:Int):M.qF aC c=some (decide ((97<=c/\c<=122)\/(48<=c/\c<=57)\/c=95)):=by
 apply Wp.eq;unfold M.qF;simp only[Cj,Ln,W_,implies_true,forall_const,reduceCtorEq];omega
noncomputable def lk(s:ByteArray):Bool:=(M.jo aC s).getD false
def eT{β:Type}(l:List (ByteArray×β))(nm:ByteArray):Prop:=∃x∈l,x.1=nm
noncomputable instance{β:Type}(l:List (ByteArray×β))(nm:ByteArray):Decidable (eT l nm):=akh _
noncomputable instance(m:ByteArray)(l:List ByteArray):Decidable (m∈l):=akh _
theorem NK{β:Type}{l:List (ByteArray×β)}{nm:ByteArray}:eT l nm↔∃k,∃h:k<l.length,l[k].1=nm:=by
 unfold eT;constructor
 .rintro⟨x,hx,h⟩
  obtain⟨k,hk,rfl⟩:=aji hx;exact⟨k,hk,h⟩
 .rintro⟨k,hk,h⟩
  exact⟨_,ajc hk,h⟩
theorem yq{β:Type}{l:List (ByteArray×β)}{nm:ByteArray}{m:Nat}:eT (l.take m) nm↔∃k,∃h:k<l.length,k<m/\l[k].1=nm:=by
 rw[NK];constructor
 .rintro⟨k,hk,h⟩
  rw[ajl]at hk;rw[List.getElem_take]at h;exact⟨k,by omega,by omega,h⟩
 .rintro⟨k,hk,hm,h⟩
  exact⟨k,by rw[ajl];omega,by rw[List.getElem_take];exact h⟩
theorem cv{p:Nat->Prop}{k:Nat}(h:∀j,j<k->p j)(hk:p k):∀j,j<k+1->p j:=fun j hj=>by
 rcases ajY.1 hj with h1|rfl
 .exact h j h1
 .exact hk
open Classical in
theorem bG(t:Ty)(E:List En):M.fa aC t E=some (decide (jI t E.length)):=by
 obtain⟨(k:Int),(e:Int)⟩:=t;apply Wp.eq;unfold M.fa;simp only[W_,implies_true,forall_const,reduceCtorEq];simp only[jI];dsimp only[ae,Row.den]at*;omega
def Ht(t:Ty)(E:List En):Int×Int:=
 if¬jI t E.length then(0,-1)else if(t.1:Int)=1 then(0,1)else if(t.1:Int)=2 then(-1000000000000,1000000000000)else if(t.1:Int)=3 then(-1000000000000000,1000000000000000)else if(t.1:Int)=4 then(-1000000000,1000000000)else if(t.1:Int)=5 then(0,109572)
 else(0,ai3.wrap ((((E[(t.2:Int).toNat]?).map fun e=>(e.2.length:Int)).getD 0)-1))
theorem Rb(t:Ty)(E:List En):M.oa aC t E=some (Ht t E):=by
 obtain⟨(k:Int),(e:Int)⟩:=t;apply Wp.eq;unfold M.oa Ht;simp only[bG,W_,implies_true,forall_const,reduceCtorEq];by_cases hv:jI (k,e) E.length
 .simp only[hv,not_true_eq_false,if_false,false_implies,true_implies,true_and];refine⟨fun h=>by rw[if_pos h],fun h1=>⟨fun h=>by rw[if_neg h1,if_pos h],fun h2=>⟨fun h=>by rw[if_neg h1,if_neg h2,if_pos h],fun h3=>⟨fun h=>by rw[if_neg h1,if_neg h2,if_neg h3,if_pos h],fun h4=>⟨fun h=>by rw[if_neg h1,if_neg h2,if_neg h3,if_neg h4,if_pos h],fun h5=>?_⟩⟩⟩⟩⟩;simp only[jI]at hv;dsimp only[ae,Row.den]at*
  have hi:e.toNat<E.length:=by omega
  refine dB.2 ⟨by omega,?_⟩;rw[if_neg h1,if_neg h2,if_neg h3,if_neg h4,if_neg h5,ai5 hi];rfl
 .simp only[hv,not_false_eq_true,if_true,true_implies,false_implies,and_true]
def CQ(n:Int)(t:Ty)(E:List En):Prop:=(Ht t E).1<=n/\n<=(Ht t E).2
instance(n:Int)(t:Ty)(E:List En):Decidable (CQ n t E):=by unfold CQ;infer_instance
def nK(x:Rw)(t:wM)(E:List En):Prop:=¬VR x.1\/(x.1.1:Int)=x.1.2\/(x.2.2.1:Int)<=x.2.1\/¬CQ x.2.1 t.2.1 E\/¬CQ (ai3.wrap ((x.2.2.1:Int)-1)) t.2.1 E\/¬CQ x.2.2.2 t.2.2.1 E
instance(x:Rw)(t:wM)(E:List En):Decidable (nK x t E):=by unfold nK;infer_instance
def mP(a b:Rw):Prop:=VR a.1/\VR b.1/\((a.1.1:Int)<a.1.2/\(a.1.1:Int)<b.1.2/\(b.1.1:Int)<a.1.2/\(b.1.1:Int)<b.1.2)/\(a.2.1:Int)<a.2.2.1/\(a.2.1:Int)<b.2.2.1/\(b.2.1:Int)<a.2.2.1/\(b.2.1:Int)<b.2.2.1
instance(a b:Rw):Decidable (mP a b):=by simp only[mP];dsimp only[ae,Row.den]at*;infer_instance
open Classical in
noncomputable def qK(t:wM)(E:List En)(k:Nat):Option (Int×Int):=match t.2.2.2[k]? with
 |none=>none
 |some x=>if nK x t E then some ((k:Int),3)else if∃y∈t.2.2.2.take k,mP y x then some ((k:Int),11)else none
noncomputable def nf(t:wM)(E:List En):Int×Int:=
 if 64<t.2.2.2.length then(64,4)else if¬(jI t.2.1 E.length/\jI t.2.2.1 E.length)then(-1,8)else(b9 (qK t E) t.2.2.2.length).getD (0,0)
end L
end Go.Proofs.YtilaieogabgamaaGreatDoor
end
section
open _root_.Int renaming tdiv->ajo,tdiv_eq_ediv_of_nonneg->aj1,tmod->ajL
open _root_.Go.IntKind renaming i64->ai3
open _root_.List renaming getElem?_eq_getElem->ai5
namespace Go.Proofs.YtilaieogabgamaaGreatDoor
open Go Go.RowKit
set_option maxRecDepth 100000
set_option linter.unusedSimpArgs false
namespace L
abbrev nL:Type:=aP.den
theorem aw(op:Int):M.mX aC op=some (decide ((1<=op/\op<=8)\/(14<=op/\op<=16)\/op=33\/op=34\/(36<=op/\op<=39))):=by
 apply Wp.eq;unfold M.mX;simp only[W_,implies_true,forall_const,reduceCtorEq];omega
theorem ay(k:Int):M.kh aC k=some (decide (k=2\/k=3\/k=4)):=by
 apply Wp.eq;unfold M.kh;simp only[W_,implies_true,forall_const,reduceCtorEq];omega
theorem av(k:Int):M.gu aC k=some (decide (k=2\/k=3\/k=4\/k=5)):=by
 apply Wp.eq;unfold M.gu;simp only[ay,W_,implies_true,forall_const,reduceCtorEq];omega
theorem aU(k:Int):M.cX aC k=some ((k,(0:Int)):Ty):=rfl
def Ck(op m:Int)(s:nL):Prop:=(1<=op/\op<=5->CQ m (op,(0:Int)) s.1)/\(14<=op/\op<=16->0<=m/\m<=5)/\(op=34->0<=m/\ajL m 8<=5)/\(op=6->0<=m)
instance(op m:Int)(s:nL):Decidable (Ck op m s):=by unfold Ck;infer_instance
theorem wk(n:Ty)(s:nL):M.iA aC n s=some (decide (Ck n.1 n.2 s)):=by
 obtain⟨(op:Int),(m:Int)⟩:=n;apply Wp.eq;unfold M.iA;simp only[aU,Rb,W_,implies_true,forall_const,reduceCtorEq];unfold Ck CQ;dsimp only[ae,Row.den]at*;generalize Ht (op,(0:Int)) s.1=b;omega
def NL(op m:Int)(s:nL):Prop:=
 (op=6->ai3.wrap (ajo m 16)<(s.1.length:Int)/\ajL m 16<(((s.1[(ai3.wrap (ajo m 16)).toNat]?).map fun e=>(e.2.length:Int)).getD 0))/\
 (op=7->0<=m/\m<(s.2.2.1.length:Int))/\(op=8->0<=m/\m<(s.2.2.2.1.length:Int))/\(op=33->0<=m/\m<(s.2.1.length:Int))/\(op=34->ai3.wrap (ajo m 8)<(s.2.1.length:Int))/\
 (35<=op/\op<=39->s.2.2.2.2.2=true)/\(36<=op/\op<=39->0<=m/\m<(s.2.2.2.2.1.length:Int))
instance(op m:Int)(s:nL):Decidable (NL op m s):=by unfold NL;infer_instance
theorem FW{m k:Int}(h0:0<=m)(h1:m<=9223372036854775807)(hk:0<k):0<=ai3.wrap (ajo m k):=by
 have h2:0<=ajo m k:=Int.tdiv_nonneg h0 (by omega)
 have h3:ajo m k<=m:=by rw[aj1 h0];exact Int.ediv_le_self _ h0
 rw[aV (by omega) (by omega)];exact h2
theorem Rc(n:Ty)(s:nL)(hm:(n.2:Int)<=9223372036854775807)(hr:Ck n.1 n.2 s):M.ba aC n s=some (decide (NL n.1 n.2 s)):=by
 obtain⟨(op:Int),(m:Int)⟩:=n;apply Wp.eq;unfold M.ba;simp only[W_,implies_true,forall_const,reduceCtorEq];unfold NL;unfold Ck at hr;dsimp only[ae,Row.den]at*;refine⟨fun h6=>⟨fun h=>?_,fun h=>?_⟩,fun h6=>?_⟩
 .have h0:=FW (k:=16) (hr.2.2.2 h6) hm (by omega);refine dB.2 ⟨⟨h0,h⟩,?_⟩;rw[ai5 (show(ai3.wrap (ajo m 16)).toNat<s.1.length by omega)];exact⟨fun g=>⟨fun _=>⟨h,g⟩,by omega,by omega,by omega,by omega,fun _=>by omega,by omega⟩,fun g=>(g.1 h6).2⟩
 .exact fun g=>h (g.1 h6).1
 simp only[h6,W_,implies_true,forall_const,reduceCtorEq]
 cases h5:s.2.2.2.2.2<;>simp only[imp_false,W_,implies_true,forall_const,reduceCtorEq]<;>omega
theorem Lo{op m:Int}{s:nL}(hf:NL op m s):Wp (M.bO aC (op,m) s) fun _=>True:=by
 unfold M.bO;simp only[aU,av,bG,W_,implies_true,forall_const,reduceCtorEq];unfold NL at hf;dsimp only[ae,Row.den]at*
 refine fun h6=>⟨fun h7=>?_,fun h7=>⟨fun h8=>?_,fun h8=>fun h9 h35=>?_⟩⟩
 .exact dB.2 ⟨hf.2.1 h7,trivial⟩
 .exact dB.2 ⟨hf.2.2.1 h8,trivial⟩
 .by_cases h:36<=op/\op<=39
  .have:Wp (idx s.2.2.2.2.1 m) fun _=>True:=dB.2 ⟨hf.2.2.2.2.2.2 h,trivial⟩
   simp only[this,W_,implies_true,forall_const,reduceCtorEq]
  .simp only[show¬op=36 by omega,show¬op=37 by omega,show¬op=38 by omega,show¬op=39 by omega,W_,implies_true,forall_const,reduceCtorEq]
theorem Em{op m:Int}{a:Ty}{s:nL}(hm:m<=9223372036854775807)(h1:ar op=1)(hr:Ck op m s)(hf:NL op m s):Wp (M.cf aC (op,m) a s) fun _=>True:=by
 have iK:op=10\/op=25\/(31<=op/\op<=34):=by
  clear hr hf;unfold ar at h1;omega
 unfold M.cf;simp only[aU,ay,bG,W_,implies_true,forall_const,reduceCtorEq];unfold NL at hf;unfold Ck at hr;dsimp only[ae,Row.den]at*
 have key:¬op=31->¬op=32->¬op=10->¬op=25->(op=33->Wp (idx s.2.1 m) fun _=>True)/\(¬op=33->Wp (idx s.2.1 (ai3.wrap (m.tdiv 8))) fun _=>True):=by
  refine fun VI h32 UC h25=>⟨fun L4=>dB.2 ⟨hf.2.2.2.1 L4,trivial⟩,fun L4=>?_⟩
  have tR:op=34:=by clear hr hf;omega
  exact dB.2 ⟨⟨FW (hr.2.2.1 tR).1 hm (by omega),hf.2.2.2.2.1 tR⟩,trivial⟩
 exact fun UC h25=>⟨fun VI g=>absurd VI g,fun VI h32=>key VI h32 UC h25⟩
theorem Eo(op a b:Int):Wp (M.kj aC op a b) fun _=>True:=by
 unfold M.kj;simp only[aU,W_,implies_true,forall_const,reduceCtorEq]
theorem Ep(op:Int)(a b:Ty):Wp (M.gh aC op a b) fun _=>True:=by
 obtain⟨r,e,_⟩:=Eo op a.1 b.1;unfold M.gh
 repeat' first|exact Wp.some trivial|exact⟨_,ay _,trivial⟩|exact⟨_,av _,trivial⟩|exact⟨_,aU _,trivial⟩|exact⟨_,e,trivial⟩|refine Wp.seq (fun _=>True) ?_ fun _ _=>?_|refine Wp.dec (fun _=>?_) fun _=>?_|refine Wp.ite (fun _=>?_) fun _=>?_
noncomputable def FX(n:Ty)(l:List Ty)(s:nL):Ty×Int:=(M.aB aC n l s).getD (((0:Int),(0:Int)),(0:Int))
theorem Lp{n:Ty}{l:List Ty}{s:nL}(hw:WF aa n)(hl:(l.length:Int)=ar n.1):M.aB aC n l s=some (FX n l s):=by
 refine(Wp.getD (Q:=fun _=>True) ?_ _).1;have hm:(n.2:Int)<=9223372036854775807:=hw.2.2;have h3:=lg n.1
 have key:Wp (M.iA aC n s) fun x=>x=true->Wp (M.ba aC n s) fun x=>x=true->((l.length:Int)=0->Wp (M.bO aC n s) fun _=>True)/\(¬(l.length:Int)=0->((l.length:Int)=1->Wp (idx l 0) fun x=>Wp (M.cf aC n x s) fun _=>True)/\
  (¬(l.length:Int)=1->((l.length:Int)=2->Wp (idx l 0) fun x=>Wp (idx l 1) fun x_1=>Wp (M.gh aC n.1 x x_1) fun _=>True)/\(¬(l.length:Int)=2->Wp (idx l 1) fun _=>Wp (idx l 0) fun x=>(x.1:Int)=1->Wp (idx l 1) fun _=>Wp (idx l 2) fun _=>True))):=by
  rw[wk]
  refine .some fun hr=>?_
  have hr:Ck n.1 n.2 s:=of_decide_eq_true hr;rw[Rc n s hm hr]
  refine .some fun hf=>?_
  have hf:NL n.1 n.2 s:=of_decide_eq_true hf;exact⟨fun _=>Lo hf,fun h0=>⟨fun h1=>dB.2 ⟨by omega,Em hm (by omega) hr hf⟩,fun h1=>⟨fun h2=>dB.2 ⟨by omega,dB.2 ⟨by omega,Ep ..⟩⟩,fun h2=>dB.2 ⟨by omega,dB.2 ⟨by omega,fun _=>dB.2 ⟨by omega,dB.2 ⟨by omega,trivial⟩⟩⟩⟩⟩⟩⟩
 unfold M.aB;simp only[aw,W_,implies_true,forall_const,reduceCtorEq];exact⟨fun _ _=>key,fun _=>key⟩
noncomputable def mQ(s:nL):List Ty->Nat->List Ty->(Nat×Int)⊕List Ty
 |[],_,kC=> .inr kC
 |n::e,i,kC=>
  if(FX n (kC.drop (kC.length-(ar n.1).toNat)) s).2≠0 then .inl (i,(FX n (kC.drop (kC.length-(ar n.1).toNat)) s).2)
  else mQ s e (i+1) (kC.take (kC.length-(ar n.1).toNat)++[(FX n (kC.drop (kC.length-(ar n.1).toNat)) s).1])
noncomputable def CR(e:List Ty)(s:nL):Ty×Int×Int:=
 if(pW e).2.1≠0 then(((0:Int),(0:Int)),(pW e).1,(pW e).2.1)else match mQ s e 0 []with
  | .inl (i,c)=>(((0:Int),(0:Int)),(i:Int),c)
  | .inr kC=>(kC.headD ((0:Int),(0:Int)),0,0)
theorem NM{e:List Ty}(h:(pW e).2.1=0):e.length<=48/\e≠[]/\∃st sk,jq e 0 [] []= .inr (st,sk):=by
 unfold pW at h;split at h
 .cases h
 split at h
 .cases h
 rename_i h1 h2;refine⟨by omega,fun e=>h2 (by rw[e];rfl),?_⟩;split at h
 .rename_i c hc;exfalso
  have:∀(e:List Ty)(i:Nat)(st sk:List Nat)(j:Nat),jq e i st sk≠ .inl (j,0):=by
   intro e
   induction e with
   |nil=>intro i st sk j h;cases h
   |cons n e ih=>
    intro i st sk j h;rw[jq]at h;split at h
    .cases h
    split at h
    .cases h
    split at h
    .cases h
    exact ih _ _ _ _ h
  have hc0:c=0:=h;subst hc0;exact this _ _ _ _ _ hc
 .rename_i st sk hs;exact⟨st,sk,hs⟩
end L
end Go.Proofs.YtilaieogabgamaaGreatDoor
end
section
open _root_.List renaming length_cons->ajk,mem_cons->ajq,pairwise_cons->akn
namespace Go.Proofs.YtilaieogabgamaaGreatDoor
open Go Go.RowKit
set_option maxRecDepth 100000
set_option linter.unusedSimpArgs false
namespace L
def ins(n:Int):List Int->List Int
 |[]=>[n]
 |x::l=>if x<n then x::ins n l else if x=n then x::l else n::x::l
theorem Lq(n x:Int)(l:List Int):ins n (x::l)=if x<n then x::ins n l else if x=n then x::l else n::x::l:=rfl
theorem mR{n y:Int}:∀{l:List Int},y∈ins n l↔y=n\/y∈l
 |[]=>by simp[ins]
 |x::l=>by
  unfold ins;split
  .rw[ajq,mR,ajq];exact⟨fun h=>by rcases h with h|h|h<;>simp[h],fun h=>by rcases h with h|h|h<;>simp[h]⟩
  split
  .rename_i h;subst h;simp
  .simp
def og(p:Int->Bool)(e:List Ty):List Int:=e.foldl (fun l n=>if p n.1=true then ins n.2 l else l) []
def tU(op:Int):Bool:=decide (op=8)
def tV(n:Nat)(l:List Int):Prop:=l.Pairwise (· < ·)/\∀x∈l,0<=x/\x<(n:Int)
theorem tV.nil{n:Nat}:tV n []:=⟨.nil,fun _ h=>by cases h⟩
theorem Re{l:List Int}:∀{a b:Int},l.Pairwise (· < ·)->(∀x∈l,a<=x/\x<b)->(l.length:Int)<=max 0 (b-a):=by
 induction l with
 |nil=>intro a b _ _;simp;omega
 |cons x l ih=>
  intro a b hp hb;obtain⟨h1,h2⟩:=akn.1 hp;have hx:=hb x (List.mem_cons_self ..)
  have:=ih (a:=x+1) (b:=b) h2 fun y hy=>⟨h1 y hy,(hb y (List.mem_cons_of_mem _ hy)).2⟩
  simp only[ajk];omega
theorem tV.len{n:Nat}{l:List Int}(h:tV n l):l.length<=n:=by
 have:=Re h.1 h.2;omega
theorem Er{n:Int}:∀{l:List Int},l.Pairwise (· < ·)->(ins n l).Pairwise (· < ·)
 |[],_=>List.pairwise_singleton ..
 |x::l,h=>by
  obtain⟨h1,h2⟩:=akn.1 h;rw[Lq];split
  .exact akn.2 ⟨fun y hy=>by rcases mR.1 hy with rfl|hy;assumption;exact h1 y hy,Er h2⟩
  split
  .exact h
  .refine akn.2 ⟨fun y hy=>?_,h⟩
   rcases ajq.1 hy with rfl|hy
   .omega
   .have:=h1 y hy;omega
theorem tV.ins{n:Nat}{x:Int}{l:List Int}(h:tV n l)(hx:0<=x/\x<(n:Int)):tV n (ins x l):=
 ⟨Er h.1,fun y hy=>by rcases mR.1 hy with rfl|hy;exact hx;exact h.2 y hy⟩
def mS(n:Nat)(out l:List Int):List Int:=l.foldl (fun o x=>if 0<=x/\x<(n:Int)then ins x o else o) out
theorem tV.mS{n:Nat}:∀{l out:List Int},tV n out->tV n (mS n out l)
 |[],_,h=>h
 |x::l,out,h=>by
  show tV n (L.mS n (if 0<=x/\x<(n:Int)then L.ins x out else out) l)
  refine tV.mS ?_;split
  .exact h.ins ‹_›
  .exact h
def ll(s:iQ)(d:Int):List Int:=
 if 0<=d/\d<(s.2.2.2.1.length:Int)then s.2.2.2.2.foldl (fun out r=>if(r.2.1:Int)=d then mS s.2.2.2.1.length (mS s.2.2.2.1.length out (og tU r.2.2.2.2.2.1)) (og tU r.2.2.2.2.2.2.1)else out) []else[]
theorem mn(s:iQ)(d:Int):tV s.2.2.2.1.length (ll s d):=by
 unfold ll;split
 .suffices∀(rs:List lj)(out:List Int),tV s.2.2.2.1.length out->tV s.2.2.2.1.length (rs.foldl (fun out r=>if(r.2.1:Int)=d then mS s.2.2.2.1.length (mS s.2.2.2.1.length out (og tU r.2.2.2.2.2.1)) (og tU r.2.2.2.2.2.2.1)else out) out)from this _ _ .nil
  intro rs
  induction rs with
  |nil=>intro out h;exact h
  |cons r rs ih=>
   intro out h;rw[List.foldl_cons];refine ih _ ?_;split
   .exact h.mS.mS
   .exact h
 .exact .nil
def stepT(s:iQ)(out:List Int):List Int:=out.foldl (fun o x=>(ll s x).foldl (fun o y=>ins y o) o) out
def jE(s:iQ):Nat->List Int->List Int
 |0,out=>out
 |n+1,out=>stepT s (jE s n out)
def IQ(s:iQ)(d:Int):List Int:=jE s s.2.2.2.1.length (ll s d)
theorem tV.Lr{n:Nat}:∀{l out:List Int},(∀x∈l,0<=x/\x<(n:Int))->tV n out->tV n (l.foldl (fun o y=>L.ins y o) out)
 |[],_,_,h=>h
 |x::l,out,hx,h=>tV.Lr (l:=l) (out:=L.ins x out) (fun y hy=>hx y (List.mem_cons_of_mem _ hy)) (h.ins (hx x (List.mem_cons_self ..)))
theorem pP(s:iQ){out:List Int}(h:tV s.2.2.2.1.length out):tV s.2.2.2.1.length (stepT s out):=by
 unfold stepT
 suffices∀(l o:List Int),tV s.2.2.2.1.length o->tV s.2.2.2.1.length (l.foldl (fun o x=>(ll s x).foldl (fun o y=>ins y o) o) o)from this _ _ h
 intro l
 induction l with
 |nil=>intro o h;exact h
 |cons x l ih=>intro o h;exact ih _ (h.Lr (mn s x).2)
end L
end Go.Proofs.YtilaieogabgamaaGreatDoor
end
section
open _root_.Go.IntKind renaming i64->ai3
open _root_.List renaming getElem_mem->ajc,getElem_of_mem->aji
namespace Go.Proofs.YtilaieogabgamaaGreatDoor
open Go Go.RowKit
set_option maxRecDepth 100000
set_option linter.unusedSimpArgs false
namespace L
def mo(s:iQ):Prop:=s.1.size<=80/\s.2.2.1.length<=14/\s.2.2.2.1.length<=14/\s.2.2.2.2.length<=60/\(∀f∈s.2.2.1,f.1.size<=80)/\(∀f∈s.2.2.2.1,f.1.size<=80)/\∀r∈s.2.2.2.2,r.1.size<=80/\r.2.2.2.2.2.2.2.size<=80/\r.2.2.2.2.2.1.length<=50/\r.2.2.2.2.2.2.1.length<=50
def jt(l:Lw):Prop:=l.1.length<=9/\l.2.1.length<=9/\l.2.2.length<=5/\(∀e∈l.1,e.1.size<=80/\e.2.length<=20/\∀m∈e.2,m.size<=80)/\(∀t∈l.2.1,t.1.size<=80)/\∀s∈l.2.2,mo s
theorem qL{α:Type}{l:List α}{p:α->Prop}(h:∀j,j<l.length->∀h:j<l.length,p l[j]):∀x∈l,p x:=fun x hx=>by
 obtain⟨j,hj,rfl⟩:=aji hx;exact h j hj hj
theorem Ih(s:iQ)(hw:WF az s):Wp (M.iU aC s) fun r=>r=true->mo s:=by
 have w1:=hw.2.2.1.1;have w2:=hw.2.2.2.1.1;have w3:=hw.2.2.2.2.1;unfold maxLen at w1 w2 w3;unfold M.iU;simp only[W_,implies_true,forall_const,reduceCtorEq]
 refine fun h1 h2 h3 h4=>?_
 refine Wp.count (fun s=>s) s.2.2.1.length (fun k _=>∀j,j<k->∀h:j<s.2.2.1.length,(s.2.2.1[j].1:ByteArray).size<=80) w1 rfl (fun j hj=>by omega) fun k c hk hs hA=>?_
 obtain rfl:c=_:=hs;simp only[W_,implies_true,forall_const,reduceCtorEq,aY,aO];refine⟨fun al=>?_,fun hge=>?_⟩
 .have al:k<s.2.2.1.length:=by omega
  simp only[ag al,cu w1 al,W_,implies_true,forall_const,reduceCtorEq]
  exact fun h=>⟨al,cv hA fun _=>by omega⟩
 have hA:=fun j(hj:j<s.2.2.1.length)=>hA j (by omega)
 refine Wp.count (fun s=>s) s.2.2.2.1.length (fun k _=>∀j,j<k->∀h:j<s.2.2.2.1.length,(s.2.2.2.1[j].1:ByteArray).size<=80) w2 rfl (fun j hj=>by omega) fun k c hk hs hB=>?_
 obtain rfl:c=_:=hs;simp only[W_,implies_true,forall_const,reduceCtorEq,aY,aO];refine⟨fun al=>?_,fun hge=>?_⟩
 .have al:k<s.2.2.2.1.length:=by omega
  simp only[ag al,cu w2 al,W_,implies_true,forall_const,reduceCtorEq]
  exact fun h=>⟨al,cv hB fun _=>by omega⟩
 have hB:=fun j(hj:j<s.2.2.2.1.length)=>hB j (by omega)
 refine Wp.count (fun s=>s) s.2.2.2.2.length (fun k _=>∀j,j<k->∀h:j<s.2.2.2.2.length,(s.2.2.2.2[j].1:ByteArray).size<=80/\(s.2.2.2.2[j].2.2.2.2.2.2.2:ByteArray).size<=80/\s.2.2.2.2[j].2.2.2.2.2.1.length<=50/\s.2.2.2.2[j].2.2.2.2.2.2.1.length<=50) w3 rfl (fun j hj=>by omega) fun k c hk hs hC=>?_
 obtain rfl:c=_:=hs;simp only[W_,implies_true,forall_const,reduceCtorEq,aY,aO];refine⟨fun al=>?_,fun hge=>?_⟩
 .have al:k<s.2.2.2.2.length:=by omega
  simp only[ag al,cu w3 al,W_,implies_true,forall_const,reduceCtorEq]
  exact fun h1 h2 h3 h4=>⟨al,cv hC fun _=>⟨by omega,by omega,by omega,by omega⟩⟩
 exact⟨by omega,by omega,by omega,by omega,qL hA,qL hB,qL fun j hj=>hC j (by omega)⟩
theorem Ii(l:Lw)(hw:WF cn l):Wp (M.kV aC l) fun r=>r=true->jt l:=by
 have w1:=hw.1.1;have w2:=hw.2.1.1;have w3:=hw.2.2.1;unfold maxLen at w1 w2 w3;unfold M.kV;simp only[W_,implies_true,forall_const,reduceCtorEq]
 refine fun h1 h2 h3=>?_
 refine Wp.count (fun s=>s) l.1.length (fun k _=>∀j,j<k->∀h:j<l.1.length,(l.1[j].1:ByteArray).size<=80/\l.1[j].2.length<=20/\∀m∈l.1[j].2,ByteArray.size m<=80) w1 rfl (fun j hj=>by omega) fun k c hk hs hA=>?_
 obtain rfl:c=_:=hs;simp only[W_,implies_true,forall_const,reduceCtorEq,aY,aO];refine⟨fun al=>?_,fun hge=>?_⟩
 .have al:k<l.1.length:=by omega
  simp only[ag al,cu w1 al,W_,implies_true,forall_const,reduceCtorEq]
  refine fun g1 g2=>?_
  refine Wp.count (fun s=>s) l.1[k].2.length (fun i _=>∀j,j<i->∀h:j<l.1[k].2.length,ByteArray.size l.1[k].2[j]<=80) (by omega) rfl (fun j hj=>by omega) fun i c hi hs hB=>?_
  obtain rfl:c=_:=hs;simp only[W_,implies_true,forall_const,reduceCtorEq,aY,aO];refine⟨fun Ak=>?_,fun Ak=>⟨al,cv hA fun _=>⟨by omega,by omega,qL fun j hj=>hB j (by omega)⟩⟩⟩
  have Ak:i<l.1[k].2.length:=by omega
  simp only[ag Ak,cu (m:=l.1[k].2.length) (by omega) Ak,W_,implies_true,forall_const,reduceCtorEq]
  exact fun h=>⟨Ak,cv hB fun _=>by omega⟩
 have hA:=fun j(hj:j<l.1.length)=>hA j (by omega)
 refine Wp.count (fun s=>s.2) l.2.1.length (fun k _=>∀j,j<k->∀h:j<l.2.1.length,(l.2.1[j].1:ByteArray).size<=80) w2 rfl (fun j hj=>by omega) fun k c hk hs hB=>?_
 obtain⟨c1,c2⟩:=c;dsimp only at hs;subst hs;simp only[W_,implies_true,forall_const,reduceCtorEq,aY,aO];refine⟨fun al=>?_,fun hge=>?_⟩
 .have al:k<l.2.1.length:=by omega
  simp only[ag al,cu w2 al,W_,implies_true,forall_const,reduceCtorEq]
  exact fun h _=>⟨al,cv hB fun _=>by omega⟩
 have hB:=fun j(hj:j<l.2.1.length)=>hB j (by omega)
 refine Wp.count (fun s=>s.2) l.2.2.length (fun k _=>∀j,j<k->∀h:j<l.2.2.length,mo l.2.2[j]) w3 rfl (fun j hj=>by omega) fun k c hk hs hC=>?_
 obtain⟨c1,c2⟩:=c;dsimp only at hs;subst hs;simp only[W_,implies_true,forall_const,reduceCtorEq,aY,aO];refine⟨fun al=>?_,fun hge=>?_⟩
 .have al:k<l.2.2.length:=by omega
  simp only[ag al,cu w3 al,W_,implies_true,forall_const,reduceCtorEq]
  refine fun h=>(Ih _ (hw.2.2.2 _ (ajc al))).mono fun r hr oz=>⟨al,cv hC fun _=>hr oz⟩
 exact⟨by omega,by omega,by omega,qL hA,qL hB,qL fun j hj=>hC j (by omega)⟩
abbrev LE:Type:=aQ.den
def NN:LE:=((0:Int),((0:Int),((0:Int),(0:Int))))
def rT(sec:Int)(k:Int):Option (Int×Int)->LE
 |none=>NN
 |some (c,e)=>(c,(sec,(k,e)))
noncomputable def Ls(ms:List ByteArray)(i:Nat):Option (Int×Int):=match ms[i]? with
 |none=>none
 |some m=>if lk m=false then some (2,100+(i:Int))else if m∈ms.take i then some (7,100+(i:Int))else none
noncomputable def nM(l:Lw)(k:Nat):Option (Int×Int):=match l.1[k]? with
 |none=>none
 |some x=>if lk x.1=false then some (2,0)else if eT (l.1.take k) x.1 then some (7,0)else if x.2.length=0 then some (5,0)else if 16<x.2.length then some (4,116)else b9 (Ls x.2) x.2.length
theorem rU{k:Nat}{a:Int}(h:k<=100000)(ha:0<=a/\a<=1000):ai3.wrap (a+(k:Int))=a+(k:Int):=aV (by omega) (by omega)
end L
end Go.Proofs.YtilaieogabgamaaGreatDoor
end
section
open _root_.Classical renaming propDecidable->akh
open _root_.List renaming getElem?_eq_getElem->ai5,getElem_mem->ajc
open _root_.Nat renaming le_refl->ai8
namespace Go.Proofs.YtilaieogabgamaaGreatDoor
open Go Go.RowKit
set_option maxRecDepth 100000
set_option linter.unusedSimpArgs false
namespace L
noncomputable def oy(l:Lw)(k:Nat):Option (Int×Int):=match l.2.1[k]? with
 |none=>none
 |some x=>if lk x.1=false then some (2,0)else if eT l.1 x.1\/eT (l.2.1.take k) x.1 then some (7,0)else if(nf x l.1).2=0 then none else some ((nf x l.1).2,if 0<=(nf x l.1).1 then 100+(nf x l.1).1 else 0)
noncomputable def Lt(l:Lw)(x:iQ)(i:Nat):Option (Int×Int):=match x.2.2.1[i]? with
 |none=>none
 |some f=>if lk f.1=false then some (2,100+(i:Int))else if eT (x.2.2.1.take i) f.1 then some (7,100+(i:Int))else if¬jI f.2 l.1.length then some (8,100+(i:Int))else none
noncomputable def Lu(l:Lw)(x:iQ)(i:Nat):Option (Int×Int):=match x.2.2.2.1[i]? with
 |none=>none
 |some f=>if lk f.1=false then some (2,200+(i:Int))else if eT x.2.2.1 f.1\/eT (x.2.2.2.1.take i) f.1 then some (7,200+(i:Int))else if¬jI f.2 l.1.length then some (8,200+(i:Int))else none
noncomputable def Ij(l:Lw)(x:iQ):Option (Int×Int):=(b9 (Lt l x) x.2.2.1.length).or (b9 (Lu l x) x.2.2.2.1.length)
def plain(s:ByteArray):Prop:=(∀i,∀h:i<s.size,32<=(s[i].toNat:Int)/\(s[i].toNat:Int)<=126/\(s[i].toNat:Int)≠34)/\s.size<=64
noncomputable instance(s:ByteArray):Decidable (plain s):=akh _
theorem wm(f:List Fd)(hf:f.length<=100000):M.fM aC f=some (f.map (·.2)):=by
 apply Wp.eq;unfold M.fM
 refine Wp.fold (fun s=>s.1) (fun s=>s.2) f (fun(o:List Ty)x=>o++[x.2]) [] (fun k c=>c.length<=k) (by omega) rfl rfl (ai8 _) (fun k s al hs hI=>?_) fun s hs hc hI=>?_
 .obtain⟨i,o⟩:=s;dsimp only at hs hI;subst hs;simp only[D9 al,ag al,cu (m:=f.length) (by omega) al,W_,implies_true,forall_const,reduceCtorEq,HO];exact mZ.2 ⟨by simp;omega,rfl,by simp;omega⟩
 .obtain⟨i,o⟩:=s;dsimp only at hs hc;subst hs;simp only[eL,W_,implies_true,forall_const,reduceCtorEq,HP];rw[hc]
  have:∀(f:List Fd)(o:List Ty),f.foldl (fun(o:List Ty)x=>o++[x.2]) o=o++f.map (·.2):=by
   intro f
   induction f with
   |nil=>intro o;simp
   |cons x f ih=>intro o;rw[List.foldl_cons,ih];simp
  rw[this];rfl
def ed(l:Lw)(x:iQ):nL:=(l.1,(l.2.1,(x.2.2.1.map (·.2),(x.2.2.2.1.map (·.2),(match l.2.2[(x.2.1:Int).toNat]? with
 |some y=>if 0<=(x.2.1:Int)then y.2.2.2.1.map (·.2)else[]
 |none=>[],decide (0<=(x.2.1:Int)/\(x.2.1:Int)<(l.2.2.length:Int)))))))
theorem NO(l:Lw)(k:Nat)(hk:k<l.2.2.length)(hs:∀s∈l.2.2,s.2.2.1.length<=100000/\s.2.2.2.1.length<=100000):M.lv aC l (k:Int)=some ((ed l l.2.2[k]).1,(ed l l.2.2[k]).2.1,(ed l l.2.2[k]).2.2.2.2.2,(ed l l.2.2[k]).2.2.1,(ed l l.2.2[k]).2.2.2.1,(ed l l.2.2[k]).2.2.2.2.1):=by
 apply Wp.eq;unfold M.lv;have h1:=hs _ (ajc hk);simp only[show¬(k:Int)<0 by omega,show¬(l.2.2.length:Int)<=(k:Int) by omega,ag hk,wm _ h1.1,wm _ h1.2,W_,implies_true,forall_const,reduceCtorEq];unfold ed;generalize l.2.2[k]=x at*;obtain⟨x1,(x2:Int),x3,x4,x5⟩:=x;dsimp only[ae,Row.den]at*;refine⟨fun h=>⟨fun h'=>?_,fun h'=>?_⟩,fun h=>?_⟩
 .refine dB.2 ⟨by omega,?_⟩
  have hi:x2.toNat<l.2.2.length:=by omega
  simp only[wm _ (hs _ (ajc hi)).2,W_,implies_true,forall_const,reduceCtorEq,ai5 hi,h,h',if_true]
 .rw[List.getElem?_eq_none (by omega)];simp only[h',W_,implies_true,forall_const,reduceCtorEq]
 .simp only[h,W_,implies_true,forall_const,reduceCtorEq]
  split<;>rfl
end L
end Go.Proofs.YtilaieogabgamaaGreatDoor
end
section
open _root_.Classical renaming not_not->aj8,propDecidable->akh
open _root_.List renaming getElem?_eq_getElem->ai5
namespace Go.Proofs.YtilaieogabgamaaGreatDoor
open Go Go.RowKit
set_option maxRecDepth 100000
set_option linter.unusedSimpArgs false
namespace L
noncomputable def qM(e:List Ty)(s:nL)(want:Ty):Int:=if(CR e s).2.2≠0 then(CR e s).2.2 else if(CR e s).1≠want then 8 else 0
def zV(x:iQ)(k:Nat)(d:Int):Nat:=(x.2.2.2.2.take k).countP fun r=>decide ((r.2.1:Int)=d)
def o6(x:iQ)(k:Nat)(r:lj):Prop:=(r.2.2.1:Int)≠-1/\((r.2.2.1:Int)<0\/(k:Int)<=r.2.2.1\/∃y,x.2.2.2.2[(r.2.2.1:Int).toNat]? =some y/\(y.2.1:Int)≠r.2.1)
noncomputable instance(x:iQ)(k:Nat)(r:lj):Decidable (o6 x k r):=akh _
noncomputable def th(l:Lw)(x:iQ)(k:Nat)(r:lj):Int:=
 if lk r.1=false then 2 else if eT (x.2.2.2.2.take k) r.1 then 7 else if¬(0<=(r.2.1:Int)/\(r.2.1:Int)<(x.2.2.2.1.length:Int))then 6 else if o6 x k r then 9 else
 if(r.2.2.2.1:Int)<0\/9<(r.2.2.2.1:Int)\/¬VR r.2.2.2.2.1\/(r.2.2.2.2.1.1:Int)=r.2.2.2.2.1.2 then 3 else if 8<=zV x k r.2.1 then 4 else if¬plain r.2.2.2.2.2.2.2 then 2 else
 if 0<r.2.2.2.2.2.1.length/\qM r.2.2.2.2.2.1 (ed l x) ((1:Int),(0:Int))≠0 then qM r.2.2.2.2.2.1 (ed l x) ((1:Int),(0:Int))else
 match x.2.2.2.1[(r.2.1:Int).toNat]? with
 |some d=>qM r.2.2.2.2.2.2.1 (ed l x) d.2
 |none=>0
noncomputable def Cl(l:Lw)(x:iQ)(k:Nat):Option (Int×Int):=match x.2.2.2.2[k]? with
 |none=>none
 |some r=>if th l x k r≠0 then some (th l x k r,300+(k:Int))else none
noncomputable def Es(x:iQ)(d:Nat):Option (Int×Int):=if(d:Int)∈IQ x d then some (9,200+(d:Int))else none
def qN(l:Lw)(k:Nat)(x:iQ):Prop:=(x.2.1:Int)≠-1/\((x.2.1:Int)<0\/(k:Int)<=x.2.1\/∃y,l.2.2[(x.2.1:Int).toNat]? =some y/\(y.2.1:Int)≠-1)
noncomputable instance(l:Lw)(k:Nat)(x:iQ):Decidable (qN l k x):=akh _
noncomputable def qO(l:Lw)(k:Nat):Option (Int×Int):=match l.2.2[k]? with
 |none=>none
 |some x=>
  if lk x.1=false then some (2,0)else if eT l.1 x.1\/eT l.2.1 x.1\/eT (l.2.2.take k) x.1 then some (7,0)else if qN l k x then some (6,0)else
  if 12<x.2.2.1.length then some (4,112)else if 12<x.2.2.2.1.length then some (4,212)else((Ij l x).or (b9 (Cl l x) x.2.2.2.2.length)).or (b9 (Es x) x.2.2.2.1.length)
theorem Lv{l:Lw}{x:iQ}{e:Int×Int}(h:Ij l x=some e):e.1≠0:=by
 have key:∀(f:Nat->Option (Int×Int)),(∀i e,f i=some e->e.1≠0)->∀{m e},b9 f m=some e->e.1≠0:=fun f hf m e h=>by
  obtain⟨k,_,h,_⟩:=fj h;exact hf k e h
 unfold Ij at h
 rcases Option.or_eq_some_iff.1 h with h|⟨_,h⟩
 .refine key _ (fun i e h=>?_) h;unfold Lt at h
  repeat' split at h
  all_goals first|cases h|skip
  all_goals simp
 .refine key _ (fun i e h=>?_) h;unfold Lu at h
  repeat' split at h
  all_goals first|cases h|skip
  all_goals simp
theorem NP(x:iQ)(d:Int):tV x.2.2.2.1.length (IQ x d):=by
 have:∀m,tV x.2.2.2.1.length (jE x m (ll x d)):=fun m=>by
  induction m with
  |zero=>exact mn x d
  |succ m ih=>exact pP x ih
 exact this _
noncomputable def Et(l:Lw):LE:=
 if 8<l.1.length then((4:Int),((1:Int),((8:Int),(0:Int))))else match b9 (fun k=>(nM l k).map fun e=>(k,e)) l.1.length with
 |some (k,e)=>rT 1 (k:Int) (some e)
 |none=>if 8<l.2.1.length then((4:Int),((2:Int),((8:Int),(0:Int))))else match b9 (fun k=>(oy l k).map fun e=>(k,e)) l.2.1.length with
  |some (k,e)=>rT 2 (k:Int) (some e)
  |none=>if 4<l.2.2.length then((4:Int),((3:Int),((4:Int),(0:Int))))else match b9 (fun k=>(qO l k).map fun e=>(k,e)) l.2.2.length with
   |some (k,e)=>rT 3 (k:Int) (some e)
   |none=>NN
theorem qP{f:Nat->Option (Int×Int)}(hf:∀i e,f i=some e->e.1≠0){m:Nat}{e:Int×Int}(h:b9 f m=some e):e.1≠0:=by
 obtain⟨k,_,h,_⟩:=fj h;exact hf k e h
theorem tj{l:Lw}{k:Nat}{e:Int×Int}(h:nM l k=some e):e.1≠0:=by
 unfold nM at h
 repeat' split at h
 all_goals first|cases h|skip
 all_goals first|simp;done|skip
 refine qP (fun i e h=>?_) h;unfold Ls at h
 repeat' split at h
 all_goals first|cases h|skip
 all_goals simp
theorem Cm{l:Lw}{k:Nat}{e:Int×Int}(h:oy l k=some e):e.1≠0:=by
 unfold oy at h
 repeat' split at h
 all_goals first|cases h|skip
 all_goals first|simp;done|assumption
theorem Cn{l:Lw}{k:Nat}{e:Int×Int}(h:qO l k=some e):e.1≠0:=by
 unfold qO at h
 repeat' split at h
 all_goals first|cases h|skip
 all_goals first|simp;done|skip
 rcases Option.or_eq_some_iff.1 h with h|⟨_,h⟩
 .rcases Option.or_eq_some_iff.1 h with h|⟨_,h⟩
  .exact Lv h
  .refine qP (fun i e h=>?_) h;unfold Cl at h
   repeat' split at h
   all_goals first|cases h|skip
   assumption
 .refine qP (fun i e h=>?_) h;unfold Es at h
  repeat' split at h
  all_goals first|cases h|skip
  simp
theorem Rf{f:Nat->Option (Int×Int)}{k:Nat}{e:Int×Int}(h:f k=some e):(fun k=>(f k).map fun e=>(k,e)) k=some (k,e):=by simp[h]
theorem NQ{f:Nat->Option (Int×Int)}{k:Nat}(h:f k=none):(fun k=>(f k).map fun e=>(k,e)) k=none:=by simp[h]
def Valid(l:Lw):Prop:=(Et l).1=0
noncomputable instance(l:Lw):Decidable (Valid l):=akh _
theorem Valid.scopes{l:Lw}(h:Valid l):l.1.length<=8/\l.2.1.length<=8/\l.2.2.length<=4/\(∀k,k<l.1.length->nM l k=none)/\(∀k,k<l.2.1.length->oy l k=none)/\∀k,k<l.2.2.length->qO l k=none:=by
 unfold Valid Et at h;split at h
 .cases h
 split at h
 .rename_i k e hf;obtain⟨j,_,hj,_⟩:=fj hf;obtain⟨e',he',h2⟩:=Option.map_eq_some_iff.1 hj;cases h2;exact absurd h (tj he')
 rename_i hA;split at h
 .cases h
 split at h
 .rename_i k e hf;obtain⟨j,_,hj,_⟩:=fj hf;obtain⟨e',he',h2⟩:=Option.map_eq_some_iff.1 hj;cases h2;exact absurd h (Cm he')
 rename_i hB;split at h
 .cases h
 split at h
 .rename_i k e hf;obtain⟨j,_,hj,_⟩:=fj hf;obtain⟨e',he',h2⟩:=Option.map_eq_some_iff.1 hj;cases h2;exact absurd h (Cn he')
 rename_i hC;exact⟨by omega,by omega,by omega,fun k hk=>by simpa using bC.1 hA k hk,fun k hk=>by simpa using bC.1 hB k hk,fun k hk=>by simpa using bC.1 hC k hk⟩
theorem Valid.scope{l:Lw}(h:Valid l)(k:Nat)(hk:k<l.2.2.length):lk l.2.2[k].1=true/\¬eT (l.2.2.take k) l.2.2[k].1/\¬qN l k l.2.2[k]/\l.2.2[k].2.2.1.length<=12/\l.2.2[k].2.2.2.1.length<=12/\Ij l l.2.2[k]=none/\
 (∀i,∀hi:i<l.2.2[k].2.2.2.2.length,th l l.2.2[k] i l.2.2[k].2.2.2.2[i]=0)/\∀d:Nat,d<l.2.2[k].2.2.2.1.length->¬(d:Int)∈IQ l.2.2[k] d:=by
 have h:=h.scopes.2.2.2.2.2 k hk;unfold qO at h;rw[ai5 hk]at h;dsimp only at h;split at h
 .cases h
 split at h
 .cases h
 split at h
 .cases h
 split at h
 .cases h
 split at h
 .cases h
 rename_i h1 h2 h3 h4 h5;rw[Option.or_eq_none_iff,Option.or_eq_none_iff]at h;refine⟨by simpa using h1,fun g=>h2 (.inr (.inr g)),h3,by omega,by omega,h.1.1,fun i hi=>?_,fun d hd g=>?_⟩
 .have:=bC.1 h.1.2 i hi;unfold Cl at this;rw[ai5 hi]at this;dsimp only at this;split at this
  .cases this
  .exact aj8.1 ‹_›
 .have:=bC.1 h.2 d hd;unfold Es at this;rw[if_pos g]at this;cases this
end L
end Go.Proofs.YtilaieogabgamaaGreatDoor
end
section
open _root_.Go.IntKind renaming i64->ai3
open _root_.List renaming getElem?_eq_getElem->ai5,length_cons->ajk,mem_cons->ajq,take_length->aju
namespace Go.Proofs.YtilaieogabgamaaGreatDoor
open Go Go.RowKit
set_option maxRecDepth 100000
set_option linter.unusedSimpArgs false
namespace L
def eX{α:Type}(p:α->Bool)(l:List α):Int:=if l.findIdx p<l.length then((l.findIdx p:Nat):Int)else-1
theorem FY{α:Type}{p:α->Bool}{l:List α}{k:Nat}(hk:k<l.length)(hp:p l[k]=true)(hn:∀j,j<k->∀h:j<l.length,p l[j]=false):eX p l=(k:Int):=by
 have h1:l.findIdx p=k:=by
  rcases Nat.lt_trichotomy (l.findIdx p) k with h|h|h
  .have:=hn _ h (by omega);have h2:=List.findIdx_getElem (xs:=l) (p:=p) (w:=by omega);rw[this]at h2;cases h2
  .exact h
  .have:=List.not_of_lt_findIdx h;rw[hp]at this;cases this
 unfold eX;rw[if_pos (by omega),h1]
theorem yr{α:Type}{p:α->Bool}{l:List α}(hn:∀j,∀h:j<l.length,p l[j]=false):eX p l= -1:=by
 unfold eX;rw[if_neg fun h=>?_];have h2:=List.findIdx_getElem (xs:=l) (p:=p) (w:=h);rw[hn _ h]at h2;cases h2
theorem o7{α:Type}{p:α->Bool}{l:List α}:0<=eX p l↔∃x∈l,p x=true:=by
 unfold eX;rw[<-List.findIdx_lt_length]
 split<;>simp_all
theorem wo{α Y:Type}{l:List α}{y:Y}{p:α->Bool}{body:Int×Y->Option ((Int×Y)⊕(Int×Y))}(hl:l.length<=maxLen)
 (hb:∀k,∀h:k<l.length,body ((k:Int),y)=if p l[k]=true then some (.inr ((k:Int),y))else some (.inl (ai3.wrap ((k:Int)+1),y)))
 (he:body ((l.length:Int),y)=some (.inr ((-1:Int),y))):Loop body aC ((0:Int),y)=some (eX p l,y):=by
 apply Wp.eq
 refine Wp.count (fun s=>s.1) l.length (fun k s=>s.2=y/\∀j,j<k->∀h:j<l.length,p l[j]=false) hl rfl ⟨rfl,fun j hj=>by omega⟩ fun k c hk hs hJ=>?_
 obtain⟨c1,c2⟩:=c;obtain⟨h1,hJ⟩:=hJ;obtain rfl:c2=y:=h1;obtain rfl:c1=_:=hs
 rcases Nat.lt_or_ge k l.length with al|hge
 .rw[hb k al];simp only[W_,implies_true,forall_const,reduceCtorEq,aY,aO,cu hl al];exact⟨fun h=>by rw[FY al h hJ],fun h=>⟨al,cv hJ fun _=>by simpa using h⟩⟩
 .obtain rfl:k=l.length:=by omega
  rw[he];simp only[W_,implies_true,forall_const,reduceCtorEq,aO];rw[yr fun j h=>hJ j h h]
theorem FZ{α:Type}{l:List α}{p:α->Bool}{body:Int->Option (Int⊕Int)}(hl:l.length<=maxLen)
 (hb:∀k,∀h:k<l.length,body (k:Int)=if p l[k]=true then some (.inr (k:Int))else some (.inl (ai3.wrap ((k:Int)+1))))
 (he:body (l.length:Int)=some (.inr (-1:Int))):Loop body aC (0:Int)=some (eX p l):=by
 apply Wp.eq
 refine Wp.count (fun s=>s) l.length (fun k _=>∀j,j<k->∀h:j<l.length,p l[j]=false) hl rfl (fun j hj=>by omega) fun k c hk hs hJ=>?_
 obtain rfl:c=_:=hs
 rcases Nat.lt_or_ge k l.length with al|hge
 .rw[hb k al];simp only[W_,implies_true,forall_const,reduceCtorEq,aY,aO,cu hl al];exact⟨fun h=>by rw[FY al h hJ],fun h=>⟨al,cv hJ fun _=>by simpa using h⟩⟩
 .obtain rfl:k=l.length:=by omega
  rw[he];simp only[W_,implies_true,forall_const,reduceCtorEq,aO];rw[yr fun j h=>hJ j h h]
theorem o8{e:Row}{l:List e.den}{x:e.den}(h:x∈l):cB e x<=cB (.slice e) l:=by
 show cB e x<=(l.map (cB e)).sum+1
 induction l with
 |nil=>cases h
 |cons y l ih=>
  rw[List.map_cons,List.sum_cons]
  rcases ajq.1 h with rfl|h
  .omega
  .have:=ih h;omega
theorem iR{e:Row}(l:List e.den):l.length<=cB (.slice e) l:=by
 show l.length<=(l.map (cB e)).sum+1
 induction l with
 |nil=>simp
 |cons y l ih=>
  rw[List.map_cons,List.sum_cons,ajk];have:=Ap e y;omega
structure Eu(l:Lw):Prop where
 en:∀e∈l.1,e.2.length<=1048576
 tb:∀t∈l.2.1,t.2.2.2.length<=1048576
 ru:∀s∈l.2.2,∀r∈s.2.2.2.2,r.2.2.2.2.2.1.length<=1048576/\r.2.2.2.2.2.2.1.length<=1048576
 en':l.1.length<=1048576
 tb':l.2.1.length<=1048576
 sc':l.2.2.length<=1048576
 sc:∀s∈l.2.2,s.2.2.1.length<=1048576/\s.2.2.2.1.length<=1048576/\s.2.2.2.2.length<=1048576
theorem Eu.of{l:Lw}(h:cB cn l<=1048576):Eu l:=by
 have e1:cB cn l=cB (.slice bq) l.1+(cB (.slice ax) l.2.1+cB (.slice az) l.2.2):=rfl;rw[e1]at h;refine⟨fun e he=>?_,fun t ht=>?_,fun s hs r hr=>?_,?_,?_,?_,fun s hs=>?_⟩
 .have h1:=o8 he;have h2:=iR (e:= .str) e.2;have h3:cB bq e=cB .str e.1+cB (.slice .str) e.2:=rfl;omega
 .have h1:=o8 ht;have h2:=iR (e:=dy) t.2.2.2;have h3:cB ax t=cB .str t.1+(cB aa t.2.1+(cB aa t.2.2.1+cB (.slice dy) t.2.2.2)):=rfl;omega
 .have h1:=o8 hs;have h3:cB az s=cB .str s.1+(cB ae s.2.1+(cB (.slice aJ) s.2.2.1+(cB (.slice aJ) s.2.2.2.1+cB (.slice aN) s.2.2.2.2))):=rfl;have h4:=o8 hr;have h5:=iR (e:=aa) r.2.2.2.2.2.1;have h6:=iR (e:=aa) r.2.2.2.2.2.2.1;have h7:cB aN r=cB .str r.1+(cB ae r.2.1+(cB ae r.2.2.1+(cB ae r.2.2.2.1+(cB aa r.2.2.2.2.1+(cB (.slice aa) r.2.2.2.2.2.1+(cB (.slice aa) r.2.2.2.2.2.2.1+cB .str r.2.2.2.2.2.2.2)))))):=rfl;omega
 .have:=iR (e:=bq) l.1;omega
 .have:=iR (e:=ax) l.2.1;omega
 .have:=iR (e:=az) l.2.2;omega
 .have h1:=o8 hs;have h3:cB az s=cB .str s.1+(cB ae s.2.1+(cB (.slice aJ) s.2.2.1+(cB (.slice aJ) s.2.2.2.1+cB (.slice aN) s.2.2.2.2))):=rfl;have h5:=iR (e:=aJ) s.2.2.1;have h6:=iR (e:=aJ) s.2.2.2.1;have h7:=iR (e:=aN) s.2.2.2.2;omega
theorem F5{α β:Type}(l:List α)(F:α->β){body:Int×List β->Option ((Int×List β)⊕List β)}(hl:l.length<=4294967296)
 (hb:∀k,∀h:k<l.length,∀o:List β,o.length=k->body ((k:Int),o)=some (.inl (ai3.wrap ((k:Int)+1),o++[F l[k]])))
 (he:∀o:List β,body ((l.length:Int),o)=some (.inr o)):Loop body aC ((0:Int),[])=some (l.map F):=by
 have Lx:l.length<aC:=by unfold aC;omega
 refine zF (fun k=>((k:Int),(l.take k).map F)) l.length _ (by simp) (fun k hk=>?_) (by rw[he,aju]) Lx;rw[hb k hk _ (by simp;omega),cu (m:=l.length) (by omega) hk,List.take_add_one,ai5 hk,List.map_append];rfl
theorem Co{α β S X:Type}(l:List α)(F:α->β)(mk:Int->List β->S)(out:List β->X){body:S->Option (S⊕X)}(hl:l.length<=4294967296)
 (hb:∀k,∀h:k<l.length,∀o:List β,o.length=k->body (mk (k:Int) o)=some (.inl (mk (ai3.wrap ((k:Int)+1)) (o++[F l[k]]))))
 (he:∀o:List β,body (mk (l.length:Int) o)=some (.inr (out o))):Loop body aC (mk (0:Int) [])=some (out (l.map F)):=by
 have Lx:l.length<aC:=by unfold aC;omega
 refine zF (fun k=>mk (k:Int) ((l.take k).map F)) l.length _ (by simp) (fun k hk=>?_) (by rw[he,aju]) Lx;rw[hb k hk _ (by simp;omega),cu (m:=l.length) (by omega) hk,List.take_add_one,ai5 hk,List.map_append];rfl
theorem tl{α:Type}{x:α}:vB (some x) (some x)=some x:=by
 unfold vB;simp
theorem wj(r:Row)(x:r.den):nh r x x=true:=by unfold nh;simp
end L
end Go.Proofs.YtilaieogabgamaaGreatDoor
end
section
open _root_.Bool renaming eq_iff_iff->ake,false_eq_true->ajb
open _root_.Classical renaming not_not->aj8
open _root_.Go.Lib renaming indexByte->akp
open _root_.Go.IntKind renaming i64->ai3
open _root_.List renaming getElem?_eq_getElem->ai5,getElem_mem->ajc,getElem_of_mem->aji,length_take->ajl,mem_cons->ajq
open _root_.Nat renaming le_of_lt->akE,le_trans->ajE
open _root_.Option renaming bind_some->ai2,none_or->akc
namespace Go.Proofs.YtilaieogabgamaaGreatDoor
open Go Go.RowKit
set_option maxRecDepth 100000
set_option linter.unusedSimpArgs false
namespace L
noncomputable def um:List ByteArray:=(M.mh aC).getD []
theorem NR:M.mh aC=some um:=by kernel_rfl
theorem Ly:um.length<=100:=by unfold um;decide+kernel
def Wd(c:Int):Prop:=(97<=c/\c<=122)\/(48<=c/\c<=57)\/c=95
def IdS(s:ByteArray):Prop:=s.size<=16/\(∃h:0<s.size,97<=s[0].toNat/\s[0].toNat<=122)/\(∀k,∀h:k<s.size,Wd (s[k].toNat:Int))/\s∉um
theorem Lz(s:ByteArray):lk s=true↔IdS s:=by
 have key:Wp (M.jo aC s) fun r=>r=true↔IdS s:=by
  have hl:=Ly;unfold M.jo;simp only[Cj,NJ,NR,W_,implies_true,forall_const,reduceCtorEq];refine⟨fun h=>?_,fun h0=>⟨fun h=>?_,fun h16=>?_⟩⟩
  .exact iff_of_false id fun g=>by obtain⟨_,⟨g,_⟩,_⟩:=g;omega
  .exact iff_of_false id fun g=>by have:=g.1;omega
  refine rJ.2 ⟨by omega,?_⟩;have e0:((0:Int).toNat)=0:=rfl;simp only[e0];refine⟨fun h=>iff_of_false id fun g=>?_,fun rP=>?_⟩
  .obtain⟨_,⟨_,g⟩,_⟩:=g;exact h (by omega)
  refine Wp.count (fun s=>s) s.size (fun k _=>∀j,j<k->∀h:j<s.size,Wd (s[j].toNat:Int)) (by omega) rfl (fun j hj=>by omega) fun k c hk hs hJ=>?_
  obtain rfl:c=_:=hs;simp only[W_,implies_true,forall_const,reduceCtorEq,aY,aO];refine⟨fun al=>rJ.2 ⟨by omega,?_⟩,fun hge=>?_⟩
  .have al:k<s.size:=by omega
   have ek:((k:Int).toNat)=k:=by omega
   simp only[ek];exact⟨fun h=>iff_of_false id fun g=>h (g.2.2.1 k al),fun h=>⟨al,aK (by omega),cv hJ fun _=>h⟩⟩
  refine Wp.count (fun s=>s) um.length (fun k _=>∀j,j<k->∀h:j<um.length,um[j]≠s) (by omega) rfl (fun j hj=>by omega) fun i c hi hs hI=>?_
  obtain rfl:c=_:=hs;simp only[W_,implies_true,forall_const,reduceCtorEq,aY,aO];refine⟨fun al=>?_,fun ahm=>?_⟩
  .have al:i<um.length:=by omega
   simp only[ag al,cu (m:=um.length) (by omega) al,W_,implies_true,forall_const,reduceCtorEq];exact⟨fun h=>iff_of_false id fun g=>g.2.2.2 (h▸ajc al),fun h=>⟨al,cv hI fun _=>h⟩⟩
  .refine iff_of_true trivial ⟨by omega,⟨by omega,by omega⟩,fun j h=>hJ j (by omega) h,fun hm=>?_⟩;obtain⟨j,hj,e⟩:=aji hm;exact hI j (by omega) hj e
 obtain⟨r,hr,h⟩:=key;unfold lk;rw[hr];exact h
def tn(s:ByteArray):List ByteArray->Option Bool
 |[]=>some false
 |[w]=>some (decide (s=w))
 |w::l=>if decide (s=w)=true then some (decide (s=w))else tn s l
theorem yt(s:ByteArray):(l:List ByteArray)->tn s l=some (decide (s∈l))
 |[]=>by simp[tn]
 |[w]=>by simp[tn]
 |w::w'::l=>by
  unfold tn;rw[yt s (w'::l)];by_cases h:s=w
  .rw[if_pos (decide_eq_true h)];simp[h]
  .rw[if_neg (by simpa using h)];simp[h]
theorem Cp(s:ByteArray):M.jM aC s=some (decide (s∈um)):=by
 have:M.jM aC s=(tn s um).bind fun j=>if j=true then some true else some false:=by kernel_rfl
 rw[this,yt,ai2];by_cases h:s∈um
 .rw[if_pos (decide_eq_true h),decide_eq_true h]
 .rw[if_neg (by simpa using h),decide_eq_false h]
theorem yu(c:Int):M.iO aC c=some (decide (97<=c/\c<=122)):=by
 apply Wp.eq;unfold M.iO;simp only[W_,implies_true,forall_const,reduceCtorEq];omega
theorem Ik(c:Int):M.kW aC c=some (decide (48<=c/\c<=57)):=by
 apply Wp.eq;unfold M.kW;simp only[W_,implies_true,forall_const,reduceCtorEq];omega
theorem xo(s:ByteArray)(hs:s.size<=maxLen):Wp (M.ir aC s) fun n=>n=(s.size:Int)↔∀k,∀h:k<s.size,Wd (s[k].toNat:Int):=by
 unfold M.ir;simp only[yu,Ik]
 refine Wp.count (fun s=>s) s.size (fun k _=>∀j,j<k->∀h:j<s.size,Wd (s[j].toNat:Int)) hs rfl (fun j hj=>by omega) fun k c hk Am hJ=>?_
 obtain rfl:c=_:=Am
 rcases Nat.lt_or_ge k s.size with al|hge
 .have hb:kF s (k:Int)=some (s[k].toNat:Int):=by
   have:=(OH (x:=((s[k].toNat:Nat):Int))).1 (rJ (s:=s) (i:=(k:Int)).2 ⟨by omega,by simp⟩);exact this
  simp only[D9 al,hb,cu hs al,W_,implies_true,forall_const,reduceCtorEq,aY,aO];unfold Wd at*
  have ok:(97<=(s[k].toNat:Int)/\(s[k].toNat:Int)<=122)\/(48<=(s[k].toNat:Int)/\(s[k].toNat:Int)<=57)\/(s[k].toNat:Int)=95->k<s.size/\∀j,j<k+1->∀h:j<s.size,(97<=(s[j].toNat:Int)/\(s[j].toNat:Int)<=122)\/(48<=(s[j].toNat:Int)/\(s[j].toNat:Int)<=57)\/(s[j].toNat:Int)=95:=fun h=>⟨al,cv hJ fun _=>h⟩
  refine⟨fun h=>ok (.inl h),fun h1=>⟨fun h=>ok (.inr (.inl h)),fun h2=>⟨fun h=>ok (.inr (.inr h)),fun h3=>⟨fun e=>by omega,fun g=>?_⟩⟩⟩⟩
  rcases g k al with h|h|h
  .exact absurd h h1
  .exact absurd h h2
  .exact absurd h h3
 .obtain rfl:k=s.size:=by omega
  simp only[eL,W_,implies_true,forall_const,reduceCtorEq,aO]
  exact iff_of_true trivial fun j h=>hJ j h h
theorem tq(s:ByteArray)(hs:s.size<=maxLen):M.bS aC s=some (lk s):=by
 have key:Wp (M.bS aC s) fun r=>r=true↔IdS s:=by
  unfold M.bS;simp only[yu,Cp,W_,implies_true,forall_const,reduceCtorEq];refine⟨fun h=>?_,fun h=>?_⟩
  .have h0:0<s.size:=by
    rcases Nat.eq_zero_or_pos s.size with e|e
    .exact absurd (ByteArray.ext (by simpa using Array.size_eq_zero_iff.1 e)) h
    .exact e
   refine rJ.2 ⟨by omega,?_⟩;have e0:((0:Int).toNat)=0:=rfl;simp only[e0];refine⟨fun rP=>(xo s hs).mono fun n hn=>⟨fun e=>⟨fun h16=>?_,fun h16=>iff_of_false id fun g=>h16 (by have:=g.1;omega)⟩,fun e=>iff_of_false id fun g=>e (hn.2 g.2.2.1)⟩,fun rP=>iff_of_false id fun g=>?_⟩
   .exact⟨fun g=>⟨by omega,⟨h0,by omega⟩,hn.1 e,g⟩,fun g=>g.2.2.2⟩
   .obtain⟨_,⟨_,g⟩,_⟩:=g;exact rP (by omega)
  .refine iff_of_false id fun g=>?_
   obtain⟨_,⟨g,_⟩,_⟩:=g;subst h;cases g
 obtain⟨r,hr,h⟩:=key;rw[hr];exact congrArg some (ake.2 (h.trans (Lz s).symm))
theorem o9{β:Type}{l:List (ByteArray×β)}{nm:ByteArray}:0<=eX (fun x=>decide (x.1=nm)) l↔eT l nm:=by
 rw[o7];unfold eT;simp
theorem qQ(l:List En)(nm:ByteArray)(hl:l.length<=maxLen):M.gR aC l nm=some (decide (eT l nm)):=by
 have:M.bi aC l nm=some (eX (fun x=>decide (x.1=nm)) l,nm):=by
  unfold M.bi M.jN;exact wo hl (fun k h=>by simp only[ag h,ja h,ai2,if_true]) (by simp only[eL,decide_false,ajb,if_false])
 unfold M.gR M.bA;simp only[this,ai2];exact congrArg some (decide_eq_decide.2 o9)
theorem tW(l:List wM)(nm:ByteArray)(hl:l.length<=maxLen):M.iu aC l nm=some (decide (eT l nm)):=by
 have:M.be aC l nm=some (eX (fun x=>decide (x.1=nm)) l,nm):=by
  unfold M.be M.jh;exact wo hl (fun k h=>by simp only[ag h,ja h,ai2,if_true]) (by simp only[eL,decide_false,ajb,if_false])
 unfold M.iu M.bu;simp only[this,ai2];exact congrArg some (decide_eq_decide.2 o9)
theorem rV(l:List Fd)(f:Fd)(hl:l.length<=maxLen):M.aF aC l f=some (decide (eT l f.1),f):=by
 have:M.bf aC l f=some (eX (fun x=>decide (x.1=f.1)) l,f):=by
  unfold M.bf M.gU;exact wo hl (fun k h=>by simp only[ag h,ja h,ai2,if_true]) (by simp only[eL,decide_false,ajb,if_false])
 unfold M.aF;simp only[this,ai2];exact congrArg (fun b=>some (b,f)) (decide_eq_decide.2 o9)
theorem Cq(l:List lj)(f:lj)(hl:l.length<=maxLen):M.aZ aC l f=some (decide (eT l f.1),f):=by
 have:M.bj aC l f=some (eX (fun x=>decide (x.1=f.1)) l,f):=by
  unfold M.bj M.iI;exact wo hl (fun k h=>by simp only[ag h,ja h,ai2,if_true]) (by simp only[eL,decide_false,ajb,if_false])
 unfold M.aZ;simp only[this,ai2];exact congrArg (fun b=>some (b,f)) (decide_eq_decide.2 o9)
theorem zW(l:List iQ)(f:iQ)(hl:l.length<=maxLen):M.aG aC l f=some (decide (eT l f.1),f):=by
 have:M.bg aC l f=some (eX (fun x=>decide (x.1=f.1)) l,f):=by
  unfold M.bg M.gX;exact wo hl (fun k h=>by simp only[ag h,ja h,ai2,if_true]) (by simp only[eL,decide_false,ajb,if_false])
 unfold M.aG;simp only[this,ai2];exact congrArg (fun b=>some (b,f)) (decide_eq_decide.2 o9)
theorem Ev(l:List ByteArray)(m:ByteArray)(hl:l.length<=maxLen):M.cP aC l m=some (decide (m∈l)):=by
 have:M.db aC l m=some (eX (fun x=>decide (m=x)) l):=by
  unfold M.db;exact FZ hl (fun k h=>by simp only[ag h,ja h,ai2,if_true]) (by simp only[eL,decide_false,ajb,if_false])
 unfold M.cP;simp only[this,ai2];refine congrArg some (decide_eq_decide.2 ?_);rw[o7];simp
theorem Ew(l:List Int)(m:Int)(hl:l.length<=maxLen):M.dQ aC l m=some (decide (m∈l)):=by
 have:M.ff aC l m=some (eX (fun x=>decide (m=x)) l):=by
  unfold M.ff;exact FZ hl (fun k h=>by simp only[ag h,ja h,ai2,if_true]) (by simp only[eL,decide_false,ajb,if_false])
 unfold M.dQ;simp only[this,ai2];refine congrArg some (decide_eq_decide.2 ?_);rw[o7];simp
theorem lm{α:Type}{l:List α}{k:Nat}(h:k<=l.length):eR l (0:Int) (k:Int)=some (l.take k):=by
 apply Wp.eq;exact wp_cut.2 ⟨by omega,by simp⟩
theorem zX(l:Lw)(hw:WF cn l)(k:Nat)(hk:k<l.1.length):M.kX aC l (k:Int) l.1[k]=some ((nM l k).getD (0,0)):=by
 have hx:WF bq l.1[k]:=hw.1.2 _ (ajc hk);have w1:=hw.1.1;have hs:l.1[k].1.size<=maxLen:=hx.1;have hm:∀m∈l.1[k].2,ByteArray.size m<=maxLen:=hx.2.2;apply Wp.eq;unfold M.kX nM;rw[ai5 hk];simp only[tq _ hs,lm (akE hk),qQ (l.1.take k) _ (by rw[ajl];omega),W_,implies_true,forall_const,reduceCtorEq];generalize l.1[k]=x at*;refine⟨fun h=>by rw[if_pos h];rfl,fun h=>?_⟩;rw[if_neg (by simp[h])];refine⟨fun h=>by rw[if_pos h];rfl,fun h2=>?_⟩;rw[if_neg h2];refine⟨fun h=>by rw[if_pos (by omega)];rfl,fun h3=>?_⟩;rw[if_neg (by omega)];refine⟨fun h=>by rw[if_pos (by omega)];rfl,fun h4=>?_⟩;rw[if_neg (by omega)]
 refine Wp.count (fun s=>s) x.2.length (fun i _=>∀j,j<i->Ls x.2 j=none) (by omega) rfl (fun j hj=>by omega) fun i c hi hs hJ=>?_
 obtain rfl:c=_:=hs;simp only[W_,implies_true,forall_const,reduceCtorEq,aY,aO];refine⟨fun al=>?_,fun hge=>?_⟩
 .have al:i<x.2.length:=by omega
  have hf:Ls x.2 i=if lk x.2[i]=false then some (2,100+(i:Int))else if x.2[i]∈x.2.take i then some (7,100+(i:Int))else none:=by
   unfold Ls;rw[ai5 al]
  simp only[ag al,tq _ (hm _ (ajc al)),lm (akE al),Ev (x.2.take i) _ (by rw[ajl];unfold maxLen;omega),rU (k:=i) (a:=100) (by omega) (by omega),cu (m:=x.2.length) (by omega) al,W_,implies_true,forall_const,reduceCtorEq];refine⟨fun h=>?_,fun h=>⟨fun h2=>?_,fun h2=>⟨al,cv hJ ?_⟩⟩⟩
  .rw[ey (hf.trans (if_pos h)) hJ al];rfl
  .rw[ey (hf.trans ((if_neg (by simp[h])).trans (if_pos h2))) hJ al];rfl
  .rw[hf,if_neg (by simp[h]),if_neg h2]
 .rw[bC.2 fun j hj=>hJ j (by omega)];rfl
theorem xp(l:Lw)(hw:WF cn l):M.jO aC l=some (if 8<l.1.length then((4:Int),((1:Int),((8:Int),(0:Int))))else match b9 (fun k=>(nM l k).map fun e=>(k,e)) l.1.length with
 |some (k,e)=>rT 1 (k:Int) (some e)
 |none=>NN):=by
 have w1:=hw.1.1;unfold maxLen at w1;apply Wp.eq;unfold M.jO;simp only[W_,implies_true,forall_const,reduceCtorEq];refine⟨fun h=>by rw[if_pos (by omega)],fun h8=>?_⟩;rw[if_neg (by omega)]
 refine Wp.count (fun s=>s) l.1.length (fun i _=>∀j,j<i->(fun k=>(nM l k).map fun e=>(k,e)) j=none) w1 rfl (fun j hj=>by omega) fun i c hi hs hJ=>?_
 obtain rfl:c=_:=hs;simp only[W_,implies_true,forall_const,reduceCtorEq,aY,aO];refine⟨fun al=>?_,fun hge=>?_⟩
 .have al:i<l.1.length:=by omega
  simp only[ag al,zX l hw i al,cu w1 al,W_,implies_true,forall_const,reduceCtorEq];refine⟨fun h=>?_,fun h=>⟨al,cv hJ ?_⟩⟩
  .cases he:nM l i with
   |none=>rw[he]at h;exact absurd rfl h
   |some e=>rw[ey (Rf he) hJ al];rfl
  .cases he:nM l i with
   |none=>rfl
   |some e=>rw[he]at h;exact absurd h (tj he)
 .rw[bC.2 fun j hj=>hJ j (by omega)];rfl
theorem oh(t:Ty)(E:List En):M.bW aC t E=some (decide (jI t E.length)):=by
 obtain⟨(k:Int),(e:Int)⟩:=t;apply Wp.eq;unfold M.bW;simp only[W_,implies_true,forall_const,reduceCtorEq];simp only[jI];dsimp only[ae,Row.den]at*;omega
theorem F6(t:Ty)(E:List En):M.fe aC t E=some (Ht t E):=by
 obtain⟨(k:Int),(e:Int)⟩:=t;apply Wp.eq;unfold M.fe Ht;simp only[oh,W_,implies_true,forall_const,reduceCtorEq];by_cases hv:jI (k,e) E.length
 .simp only[hv,not_true_eq_false,if_false,false_implies,true_implies,true_and];refine⟨fun h=>by rw[if_pos h],fun h1=>⟨fun h=>by rw[if_neg h1,if_pos h],fun h2=>⟨fun h=>by rw[if_neg h1,if_neg h2,if_pos h],fun h3=>⟨fun h=>by rw[if_neg h1,if_neg h2,if_neg h3,if_pos h],fun h4=>⟨fun h=>by rw[if_neg h1,if_neg h2,if_neg h3,if_neg h4,if_pos h],fun h5=>?_⟩⟩⟩⟩⟩;simp only[jI]at hv;dsimp only[ae,Row.den]at*
  have hi:e.toNat<E.length:=by omega
  refine dB.2 ⟨by omega,?_⟩;rw[if_neg h1,if_neg h2,if_neg h3,if_neg h4,if_neg h5,ai5 hi];rfl
 .simp only[hv,not_false_eq_true,if_true,true_implies,false_implies,and_true]
theorem zY(r:Ty):M.dT aC r=some (decide (VR r)):=by
 obtain⟨(k:Int),(e:Int)⟩:=r;apply Wp.eq;unfold M.dT;simp only[W_,implies_true,forall_const,reduceCtorEq];simp only[VR];dsimp only[ae,Row.den]at*;omega
theorem Il(a b:Rw):M.jP aC a b=some (decide (mP a b)):=by
 obtain⟨⟨(a1:Int),(a2:Int)⟩,(a3:Int),(a4:Int),(a5:Int)⟩:=a;obtain⟨⟨(b1:Int),(b2:Int)⟩,(b3:Int),(b4:Int),(b5:Int)⟩:=b;apply Wp.eq;unfold M.jP M.iG M.dc;simp only[zY,W_,implies_true,forall_const,reduceCtorEq];simp only[mP];dsimp only[ae,Row.den]at*
 by_cases h1:VR (a1,a2)<;>by_cases h2:VR (b1,b2)<;>simp only[h1,h2,W_,implies_true,forall_const,reduceCtorEq]<;>omega
theorem LA(l:List Rw)(x:Rw)(hl:l.length<=maxLen):Wp (M.bK aC l x) fun r=>r.2.1=true↔∃y∈l,mP y x:=by
 unfold M.bK M.gS
 refine Wp.count (fun s=>s.1) l.length (fun k s=>s.2=x/\∀j,j<k->∀h:j<l.length,¬mP l[j] x) hl rfl ⟨rfl,fun j hj=>by omega⟩ fun k c hk hs hJ=>?_
 obtain⟨c1,c2⟩:=c;obtain⟨h1,hJ⟩:=hJ;obtain rfl:c2=x:=h1;obtain rfl:c1=_:=hs;simp only[Il,W_,implies_true,forall_const,reduceCtorEq,aY,aO];refine⟨fun al=>?_,fun hge=>?_⟩
 .have al:k<l.length:=by omega
  simp only[ag al,cu hl al,W_,implies_true,forall_const,reduceCtorEq];exact⟨fun h=>iff_of_true trivial ⟨_,ajc al,h⟩,fun h=>⟨al,cv hJ fun _=>h⟩⟩
 .refine iff_of_false id ?_
  rintro⟨y,hy,h⟩
  obtain⟨j,hj,rfl⟩:=aji hy;exact hJ j (by omega) hj h
theorem NS(t:wM)(E:List En):M.jQ aC t E=some (nf t E):=by
 apply Wp.eq;unfold M.jQ nf;simp only[oh,F6,zY,W_,implies_true,forall_const,reduceCtorEq];refine⟨fun h=>by rw[if_pos (by omega)],fun h64=>?_⟩;rw[if_neg (c:=64<t.2.2.2.length) (by omega)];refine⟨fun h1=>by rw[if_pos (fun g=>h1 g.1)],fun h1=>⟨fun h2=>by rw[if_pos (fun g=>h2 g.2)],fun h2=>?_⟩⟩;rw[if_neg (fun g=>g ⟨h1,h2⟩)]
 refine Wp.count (fun s=>s) t.2.2.2.length (fun k _=>∀j,j<k->qK t E j=none) (by omega) rfl (fun j hj=>by omega) fun k s hk hs hJ=>?_
 obtain rfl:s=_:=hs;simp only[W_,implies_true,forall_const,reduceCtorEq,aY,aO];refine⟨fun al=>?_,fun hge=>?_⟩
 .have al:k<t.2.2.2.length:=by omega
  have hf:qK t E k=if nK t.2.2.2[k] t E then some ((k:Int),3)else if∃y∈t.2.2.2.take k,mP y t.2.2.2[k]then some ((k:Int),11)else none:=by
   unfold qK;rw[ai5 al]
  have bad:nK t.2.2.2[k] t E->((k:Int),(3:Int))=(b9 (qK t E) t.2.2.2.length).getD (0,0):=fun hw=>by
   rw[ey (hf.trans (if_pos hw)) hJ al];rfl
  have we:¬nK t.2.2.2[k] t E->Wp (M.bK aC (t.2.2.2.take k) t.2.2.2[k]) fun y=>(y.2.1=true->((k:Int),(11:Int))=(b9 (qK t E) t.2.2.2.length).getD (0,0))/\(y.2.1=false->k<t.2.2.2.length/\∀j,j<k+1->qK t E j=none):=fun hw=>by
   rw[if_neg hw]at hf
   refine(LA _ _ (by rw[ajl];unfold maxLen;omega)).mono fun y hy=>⟨fun h=>?_,fun h=>⟨al,cv hJ ?_⟩⟩
   .rw[ey (hf.trans (if_pos (hy.1 h))) hJ al];rfl
   .rw[hf,if_neg fun g=>by rw[hy.2 g]at h;cases h]
  simp only[ag al,lm (akE al),cu (m:=t.2.2.2.length) (by omega) al,W_,implies_true,forall_const,reduceCtorEq];unfold nK at bad we;unfold CQ at bad we;generalize M.bK aC (t.2.2.2.take k) t.2.2.2[k]=fm at*;generalize t.2.2.2[k]=x at*;obtain⟨⟨(x1:Int),(x2:Int)⟩,(x3:Int),(x4:Int),(x5:Int)⟩:=x;dsimp only[ae,Row.den]at*;clear hf hJ;generalize Ht t.2.1 E=p at*;generalize Ht t.2.2.1 E=q at*;obtain⟨(p1:Int),(p2:Int)⟩:=p;obtain⟨(q1:Int),(q2:Int)⟩:=q;dsimp only at*
  refine⟨fun h=>bad (.inl h),fun h1=>⟨fun h=>bad (by omega),fun h2=>⟨fun h=>bad (by omega),fun h3=>⟨fun h=>bad (by omega),fun h4=>⟨fun h=>bad (by omega),fun h5=>⟨fun h=>bad (by omega),fun h6=>⟨fun h=>bad (by omega),fun h7=>⟨fun h=>bad (by omega),fun h8=>⟨fun h=>bad (by omega),fun h9=>we fun hw=>by
   rcases hw with g|g
   .exact g h1
   .omega⟩⟩⟩⟩⟩⟩⟩⟩⟩
 .rw[bC.2 fun j hj=>hJ j (by omega)];rfl
theorem LB{t:wM}{E:List En}:(nf t E).2≠0->((nf t E).1= -1\/(0<=(nf t E).1/\(nf t E).1<=64)):=by
 unfold nf;intro h;split
 .exact .inr (by simp)
 split
 .exact .inl rfl
 rename_i h1 h2
 cases hf:b9 (qK t E) t.2.2.2.length with
 |none=>rw[if_neg h1,if_neg h2,hf]at h;exact absurd rfl h
 |some e=>
  obtain⟨k,hk,he,_⟩:=fj hf;unfold qK at he;split at he
  .cases he
  split at he
  .cases he;exact .inr ⟨by simp,by simp;omega⟩
  split at he
  .cases he;exact .inr ⟨by simp,by simp;omega⟩
  .cases he
theorem wq(l:Lw)(hw:WF cn l):M.iV aC l=some (if 8<l.2.1.length then((4:Int),((2:Int),((8:Int),(0:Int))))else match b9 (fun k=>(oy l k).map fun e=>(k,e)) l.2.1.length with
 |some (k,e)=>rT 2 (k:Int) (some e)
 |none=>NN):=by
 have w1:=hw.2.1.1;have w0:=hw.1.1;have wt:∀t∈l.2.1,WF ax t:=hw.2.1.2;unfold maxLen at w1;apply Wp.eq;unfold M.iV;simp only[W_,implies_true,forall_const,reduceCtorEq];refine⟨fun h=>by rw[if_pos (by omega)],fun h8=>?_⟩;rw[if_neg (by omega)]
 refine Wp.count (fun s=>s) l.2.1.length (fun i _=>∀j,j<i->(fun k=>(oy l k).map fun e=>(k,e)) j=none) w1 rfl (fun j hj=>by omega) fun i c hi hs hJ=>?_
 obtain rfl:c=_:=hs;simp only[W_,implies_true,forall_const,reduceCtorEq,aY,aO];refine⟨fun al=>?_,fun hge=>?_⟩
 .have al:i<l.2.1.length:=by omega
  have kz:l.2.1[i].1.size<=maxLen:=(wt _ (ajc al)).1
  have hE:oy l i=if lk l.2.1[i].1=false then some (2,0)else if eT l.1 l.2.1[i].1\/eT (l.2.1.take i) l.2.1[i].1 then some (7,0)else if(nf l.2.1[i] l.1).2=0 then none else some ((nf l.2.1[i] l.1).2,if 0<=(nf l.2.1[i] l.1).1 then 100+(nf l.2.1[i] l.1).1 else 0):=by
   unfold oy;rw[ai5 al]
  simp only[ag al,NS,tq _ kz,lm (akE al),qQ _ _ w0,tW (l.2.1.take i) _ (by rw[ajl];unfold maxLen;omega),cu w1 al,W_,implies_true,forall_const,reduceCtorEq]
  have bad:∀e,oy l i=some e->rT 2 (i:Int) (some e)=(match b9 (fun k=>(oy l k).map fun e=>(k,e)) l.2.1.length with|some (k,e)=>rT 2 (k:Int) (some e)|none=>NN):=fun e he=>by
   rw[ey (Rf he) hJ al]
  have we:oy l i=none->i<l.2.1.length/\∀j,j<i+1->(fun k=>(oy l k).map fun e=>(k,e)) j=none:=fun h=>⟨al,cv hJ (NQ h)⟩
  have DY:=LB (t:=l.2.1[i]) (E:=l.1);generalize nf l.2.1[i] l.1=te at*;obtain⟨(r:Int),(c:Int)⟩:=te;dsimp only at*;refine⟨fun h=>?_,fun h=>⟨fun h2=>?_,fun h2=>⟨fun h3=>?_,fun h3=>⟨fun h4=>?_,fun h4=>?_⟩⟩⟩⟩
  .exact⟨fun _=>bad (2,0) (hE.trans (if_pos h)),fun g=>absurd g (by decide)⟩
  .rw[if_neg (c:=lk l.2.1[i].1=false) (by simp[h]),if_pos (Or.inl h2)]at hE;exact⟨fun _=>bad (7,0) hE,fun g=>absurd g (by decide)⟩
  .rw[if_neg (c:=lk l.2.1[i].1=false) (by simp[h]),if_pos (Or.inr h3)]at hE;exact⟨fun _=>bad (7,0) hE,fun g=>absurd g (by decide)⟩
  .rw[if_neg (c:=lk l.2.1[i].1=false) (by simp[h]),if_neg (fun g=>g.elim h2 h3),if_neg h4]at hE;have hr:=DY h4;refine⟨fun g=>⟨fun _=>?_,fun e=>absurd e h4⟩,fun g=>⟨fun _=>?_,fun e=>absurd e h4⟩⟩
   .rw[aV (by omega) (by omega)];exact bad (c,100+r) (hE.trans (by rw[if_pos (by omega)]))
   .exact bad (c,0) (hE.trans (by rw[if_neg (by omega)]))
  .rw[if_neg (c:=lk l.2.1[i].1=false) (by simp[h]),if_neg (fun g=>g.elim h2 h3),if_pos h4]at hE;exact we hE
 .rw[bC.2 fun j hj=>hJ j (by omega)];rfl
noncomputable def pb(l:Lw)(f:Fd)(a b:List Fd):Int:=if lk f.1=false then 2 else if eT a f.1\/eT b f.1 then 7 else if¬jI f.2 l.1.length then 8 else 0
theorem qj(l:Lw)(f:Fd)(a b:List Fd)(hf:f.1.size<=maxLen)(ha:a.length<=maxLen)(hb:b.length<=maxLen):M.gV aC l f a b=some (pb l f a b):=by
 apply Wp.eq;unfold M.gV;simp only[tq _ hf,rV _ _ ha,rV _ _ hb,oh,W_,implies_true,forall_const,reduceCtorEq];unfold pb;refine⟨fun h=>by rw[if_pos h],fun h=>?_⟩;rw[if_neg (c:=lk f.1=false) (by simp[h])];refine⟨fun h1=>by rw[if_pos (.inl h1)],fun h1=>⟨fun h2=>by rw[if_pos (.inr h2)],fun h2=>?_⟩⟩;rw[if_neg (fun g=>g.elim h1 h2)];exact⟨fun h3=>by rw[if_pos h3],fun h3=>by rw[if_neg (fun g=>g h3)]⟩
theorem zZ(l:List UInt8)(c:UInt8):0<=akp l c↔c∈l:=by
 induction l with
 |nil=>simp[akp]
 |cons b l ih=>
  have hg:=Go.Lib.indexByte_ge l c;unfold akp;by_cases h:b=c
  .subst h;simp
  .have h':c≠b:=fun e=>h e.symm
   simp only[beq_iff_eq,h,if_false,ajq,h',false_or,<-ih]
   split<;>omega
theorem wu(s:ByteArray)(_:s.size<=maxLen):M.iW aC s=some (decide (plain s)):=by
 have hc:M.strings_Contains aC s (⟨#[34]⟩:ByteArray)=some (decide (0<=akp s.data.toList 34)):=rfl
 have cc:0<=akp s.data.toList 34↔∃i,∃h:i<s.size,(s[i].toNat:Int)=34:=by
  rw[zZ];constructor
  .intro h;obtain⟨i,hi,e⟩:=aji h;refine⟨i,by simpa using hi,?_⟩
   have:s[i]'(by simpa using hi)=34:=by
    have e:s.data[i]'(by simpa using hi)=34:=by simpa using e
    exact e
   rw[this];rfl
  .rintro⟨i,hi,e⟩
   have e2:s[i]=34:=by
    apply UInt8.toNat_inj.1
    show s[i].toNat=34
    omega
   have:(34:UInt8)=s.data.toList[i]'(by simpa using hi):=by rw[<-e2];simp;rfl
   rw[this];exact ajc _
 apply Wp.eq;unfold M.iW;simp only[hc,W_,implies_true,forall_const,reduceCtorEq];refine⟨fun h=>?_,fun h64=>⟨fun h=>?_,fun tR=>?_⟩⟩
 .exact fun(g:plain s)=>by have:=g.2;omega
 .obtain⟨i,hi,e⟩:=cc.1 h
  exact fun(g:plain s)=>(g.1 i hi).2.2 e
 refine Wp.count (fun s=>s) s.size (fun i _=>∀j,j<i->∀h:j<s.size,32<=(s[j].toNat:Int)/\(s[j].toNat:Int)<=126) (by omega) rfl (fun j hj=>by omega) fun i c hi hs hJ=>?_
 obtain rfl:c=_:=hs
 rcases Nat.lt_or_ge i s.size with al|hge
 .have hb:kF s (i:Int)=some (s[i].toNat:Int):=by
   have:=(OH (x:=((s[i].toNat:Nat):Int))).1 (rJ (s:=s) (i:=(i:Int)).2 ⟨by omega,by simp⟩);exact this
  simp only[D9 al,hb,cu (m:=s.size) (by omega) al,W_,implies_true,forall_const,reduceCtorEq,aY,aO];refine⟨fun h=>?_,fun h=>⟨fun h2=>?_,fun h2=>⟨al,cv hJ fun _=>by omega⟩⟩⟩
  .exact fun(g:plain s)=>by have:=g.1 i al;omega
  .exact fun(g:plain s)=>by have:=g.1 i al;omega
 .obtain rfl:i=s.size:=by omega
  simp only[eL,W_,implies_true,forall_const,reduceCtorEq,aO];refine(⟨fun i hi=>?_,by omega⟩:plain s);have:=hJ i hi hi;exact⟨this.1,this.2,fun e=>tR (cc.2 ⟨i,hi,e⟩)⟩
def wc(sg:nL):Prop:=∀e:List Ty,(∀n∈e,WF aa n)->M.fS aC e sg=some (CR e sg)
theorem lN{sg:nL}(hT:wc sg){e:List Ty}(want:Ty)(hw:∀n∈e,WF aa n):M.fq aC e sg want=some (qM e sg want):=by
 apply Wp.eq;unfold M.fq;simp only[hT e hw,zP,W_,implies_true,forall_const,reduceCtorEq];unfold qM;refine⟨fun h=>by rw[if_pos h],fun h=>?_⟩;rw[if_neg (fun g=>g h)];exact⟨fun h=>by rw[if_pos h],fun h=>by rw[if_neg (fun g=>g h)]⟩
theorem z6(l:Lw)(x:iQ)(hw:WF az x)(mr:mo x)(hT:wc (ed l x))(k:Nat)(hk:k<x.2.2.2.2.length):M.iP aC x (k:Int) (ed l x)=some (th l x k x.2.2.2.2[k]):=by
 have L9:=hw.2.2.2.2.2 _ (ajc hk);have QW:=mr.2.2.2.2.2.2 _ (ajc hk)
 obtain⟨r,hr⟩:∃r,r=x.2.2.2.2[k]:=⟨_,rfl⟩
 have UK:=mr.2.2.2.1
 have NU:Wp (Loop (S:=Int×Int) (X:=Int) (fun s4=>
  (if(decide (s4.2<((x.2.2.2.2.take k).length:Int)))=true then
  ((idx (x.2.2.2.2.take k) s4.2).bind fun x6=>
  (if(decide ((x6.2.1:Int)=r.2.1))=true then
  some (ai3.wrap (s4.1+(1:Int)))
  else
  some s4.1):Option (Int)).bind fun j5=>
  some (Sum.inl (j5,ai3.wrap (s4.2+(1:Int))))
  else
  some (Sum.inr s4.1))) aC ((0:Int),(0:Int))) fun n=>n=(zV x k r.2.1:Int):=by
  have Nx:(x.2.2.2.2.take k).length=k:=by rw[ajl];omega
  refine Wp.count (fun s=>s.2) k (fun j s=>s.1=(((x.2.2.2.2.take j).countP fun r'=>decide ((r'.2.1:Int)=r.2.1):Nat):Int)) (by omega) rfl rfl fun j s hj hs VJ=>?_
  obtain⟨sb,c⟩:=s;dsimp only at hs VJ;subst hs;rw[Nx];have xh:(x.2.2.2.2.take j).countP (fun r'=>decide ((r'.2.1:Int)=r.2.1))<=60:=ajE List.countP_le_length (by rw[ajl];omega);simp only[W_,implies_true,forall_const,reduceCtorEq,aY,aO];refine⟨fun UG=>?_,fun UG=>?_⟩
  .have Ai:j<x.2.2.2.2.length:=by omega
   have VG:j<(x.2.2.2.2.take k).length:=by omega
   simp only[ag VG,List.getElem_take,cu (m:=k) (by omega) (show j<k by omega),W_,implies_true,forall_const,reduceCtorEq]
   have RR:(x.2.2.2.2.take (j+1)).countP (fun r'=>decide ((r'.2.1:Int)=r.2.1))=(x.2.2.2.2.take j).countP (fun r'=>decide ((r'.2.1:Int)=r.2.1))+if(x.2.2.2.2[j].2.1:Int)=r.2.1 then 1 else 0:=by
    rw[<-List.take_append_getElem Ai,List.countP_append];simp[List.countP_cons]
   refine⟨fun h'=>⟨by omega,?_⟩,fun h'=>⟨by omega,?_⟩⟩
   .rw[RR,if_pos h',VJ,aV (by omega) (by omega)];rfl
   .rw[RR,if_neg h',VJ];rfl
  .obtain rfl:j=k:=by omega
   exact VJ
 apply Wp.eq;unfold M.iP;rw[<-hr];have kz:r.1.size<=maxLen:=(hr▸L9).1
 have abG:r.2.2.2.2.2.2.2.size<=maxLen:=by
  have:=(hr▸QW).2.1;unfold maxLen;omega
 have xh:zV x k r.2.1<=60:=ajE List.countP_le_length (by rw[ajl];omega);have hg:∀n∈r.2.2.2.2.2.1,WF aa n:=(hr▸L9).2.2.2.2.2.1.2;have hv:∀n∈r.2.2.2.2.2.2.1,WF aa n:=(hr▸L9).2.2.2.2.2.2.1.2;have Rg:o6 x k r↔(r.2.2.1:Int)≠-1/\((r.2.2.1:Int)<0\/(k:Int)<=r.2.2.1\/∃y,x.2.2.2.2[(r.2.2.1:Int).toNat]? =some y/\(y.2.1:Int)≠r.2.1):=Iff.rfl;simp only[ag hk,<-hr,lm (akE hk),Cq (x.2.2.2.2.take k) _ (by rw[ajl];unfold maxLen;omega),tq _ kz,wu _ abG,W_,implies_true,forall_const,reduceCtorEq];simp only[decide_eq_true_eq]at NU
 refine NU.mono fun n hn=>?_
 subst hn;clear NU L9 QW hr;unfold th;refine⟨fun h=>by rw[if_pos h],fun h1=>?_⟩;rw[if_neg (c:=lk r.1=false) (by simp[h1])];refine⟨fun h=>by rw[if_pos h],fun h2=>?_⟩;rw[if_neg (c:=eT (x.2.2.2.2.take k) r.1) h2];generalize zV x k r.2.1=q at*;obtain⟨nm,(d:Int),(p:Int),(pr:Int),v,g,val,src⟩:=r;obtain⟨(v1:Int),(v2:Int)⟩:=v;dsimp only[ae,Row.den]at*;refine⟨fun h=>by rw[if_pos (c:=¬(0<=d/\d<(x.2.2.2.1.length:Int))) (by omega)],fun h3=>⟨fun h=>by rw[if_pos (c:=¬(0<=d/\d<(x.2.2.2.1.length:Int))) (by omega)],fun h4=>?_⟩⟩;rw[if_neg (c:=¬(0<=d/\d<(x.2.2.2.1.length:Int))) (by omega)]
 have hd:d.toNat<x.2.2.2.1.length:=by omega
 have VK:¬VR ((v1,v2):Ty)\/v1=v2↔v1<0\/v2<=v1\/109573<v2:=by
  simp only[VR];dsimp only[ae,Row.den];omega
 refine⟨fun hp=>⟨fun h=>by rw[if_pos (Rg.2 ⟨hp, .inl h⟩)],fun h5=>⟨fun h=>by rw[if_pos (Rg.2 ⟨hp, .inr (.inl h)⟩)],fun h6=>dB.2 ⟨⟨by omega,by omega⟩,fun h7=>by rw[if_pos (Rg.2 ⟨hp, .inr (.inr ⟨_,ai5 (by omega),h7⟩)⟩)],fun h7=>?_⟩⟩⟩,fun hp=>?_⟩
 .have Of:¬o6 x k (nm,d,p,pr,(v1,v2),g,val,src):=fun h=>by
   obtain⟨_,g1|g1|⟨y,g1,g2⟩⟩:=Rg.1 h
   .omega
   .omega
   .rw[ai5 (by omega)]at g1;cases g1;exact g2 h7
  clear Rg;rw[if_neg Of]
  have last:Wp (idx x.2.2.2.1 d) fun x_3=>Wp (M.fq aC val (ed l x) x_3.2) fun x_4=>x_4=match x.2.2.2.1[d.toNat]? with
   |some d=>qM val (ed l x) d.2
   |none=>0:=by
   refine dB.2 ⟨by omega,?_⟩;rw[lN hT _ hv,ai5 hd];exact .some rfl
  by_cases g1:pr<0\/9<pr\/¬VR ((v1,v2):Ty)\/v1=v2
  .rw[if_pos g1];refine⟨fun _=>rfl,fun a1=>⟨fun _=>rfl,fun a2=>⟨fun _=>rfl,fun a3=>⟨fun _=>rfl,fun a4=>⟨fun _=>rfl,fun a5=>?_⟩⟩⟩⟩⟩;rw[VK]at g1;omega
  rw[if_neg g1]
  have Sl:¬(pr<0\/9<pr\/v1<0\/v2<=v1\/109573<v2):=by rw[<-VK];exact g1
  refine⟨fun h=>by omega,fun a1=>⟨fun h=>by omega,fun a2=>⟨fun h=>by omega,fun a3=>⟨fun h=>by omega,fun a4=>⟨fun h=>by omega,fun a5=>?_⟩⟩⟩⟩⟩;refine⟨fun h=>by rw[if_pos (by omega)],fun h8=>?_⟩;rw[if_neg (by omega)];refine⟨fun h=>by rw[if_pos h],fun h9=>?_⟩;rw[if_neg (fun h=>h h9)];refine⟨fun h=>?_,fun h=>?_⟩
  .rw[lN hT _ hg];refine .some ⟨fun h'=>by rw[if_pos ⟨by omega,h'⟩],fun h'=>?_⟩;rw[if_neg (fun g=>g.2 h')];exact last
  .rw[if_neg (fun g=>h (by omega))];exact last
 .have Of:¬o6 x k (nm,d,p,pr,(v1,v2),g,val,src):=fun h=>(Rg.1 h).1 hp
  clear Rg;rw[if_neg Of]
  have last:Wp (idx x.2.2.2.1 d) fun x_3=>Wp (M.fq aC val (ed l x) x_3.2) fun x_4=>x_4=match x.2.2.2.1[d.toNat]? with
   |some d=>qM val (ed l x) d.2
   |none=>0:=by
   refine dB.2 ⟨by omega,?_⟩;rw[lN hT _ hv,ai5 hd];exact .some rfl
  by_cases g1:pr<0\/9<pr\/¬VR ((v1,v2):Ty)\/v1=v2
  .rw[if_pos g1];refine⟨fun _=>rfl,fun a1=>⟨fun _=>rfl,fun a2=>⟨fun _=>rfl,fun a3=>⟨fun _=>rfl,fun a4=>⟨fun _=>rfl,fun a5=>?_⟩⟩⟩⟩⟩;rw[VK]at g1;omega
  rw[if_neg g1]
  have Sl:¬(pr<0\/9<pr\/v1<0\/v2<=v1\/109573<v2):=by rw[<-VK];exact g1
  refine⟨fun h=>by omega,fun a1=>⟨fun h=>by omega,fun a2=>⟨fun h=>by omega,fun a3=>⟨fun h=>by omega,fun a4=>⟨fun h=>by omega,fun a5=>?_⟩⟩⟩⟩⟩;refine⟨fun h=>by rw[if_pos (by omega)],fun h8=>?_⟩;rw[if_neg (by omega)];refine⟨fun h=>by rw[if_pos h],fun h9=>?_⟩;rw[if_neg (fun h=>h h9)];refine⟨fun h=>?_,fun h=>?_⟩
  .rw[lN hT _ hg];refine .some ⟨fun h'=>by rw[if_pos ⟨by omega,h'⟩],fun h'=>?_⟩;rw[if_neg (fun g=>g.2 h')];exact last
  .rw[if_neg (fun g=>h (by omega))];exact last
def Im(x:iQ):Prop:=∀d:Nat,d<x.2.2.2.1.length->∃tr,M.gm aC x (d:Int)=some tr/\tr.length<=1000/\((d:Int)∈tr↔(d:Int)∈IQ x d)
theorem Io(l:Lw)(k:Nat)(hk:k<l.2.2.length)(hs:∀s∈l.2.2,s.2.2.1.length<=100000/\s.2.2.2.1.length<=100000):M.iH aC l (k:Int)=some ((ed l l.2.2[k]).1,(ed l l.2.2[k]).2.1,(ed l l.2.2[k]).2.2.2.2.2,(ed l l.2.2[k]).2.2.1,(ed l l.2.2[k]).2.2.2.1,(ed l l.2.2[k]).2.2.2.2.1):=by
 rw[<-NO l k hk hs];unfold M.lv;rw[if_neg (by simp),ai2,if_neg (by simp;omega)];rfl
theorem Rh(l:Lw)(x:iQ)(i:Nat)(h:i<x.2.2.1.length):Lt l x i=if pb l x.2.2.1[i] (x.2.2.1.take i) []≠0 then some (pb l x.2.2.1[i] (x.2.2.1.take i) [],100+(i:Int))else none:=by
 have hn:∀nm,¬eT ([]:List Fd) nm:=fun nm ⟨y,hy,_⟩=>by cases hy
 unfold Lt pb;rw[ai5 h];simp only[hn,or_false];by_cases h1:lk x.2.2.1[i].1=false
 .simp[h1]
 by_cases h2:eT (x.2.2.1.take i) x.2.2.1[i].1
 .simp[h1,h2]
 by_cases h3:jI x.2.2.1[i].2 l.1.length
 .simp[h1,h2,h3]
 .simp[h1,h2,h3]
theorem Ri(l:Lw)(x:iQ)(i:Nat)(h:i<x.2.2.2.1.length):Lu l x i=if pb l x.2.2.2.1[i] x.2.2.1 (x.2.2.2.1.take i)≠0 then some (pb l x.2.2.2.1[i] x.2.2.1 (x.2.2.2.1.take i),200+(i:Int))else none:=by
 unfold Lu pb;rw[ai5 h];simp only;by_cases h1:lk x.2.2.2.1[i].1=false
 .simp[h1]
 by_cases h2:eT x.2.2.1 x.2.2.2.1[i].1\/eT (x.2.2.2.1.take i) x.2.2.2.1[i].1
 .simp[h1,h2]
 by_cases h3:jI x.2.2.2.1[i].2 l.1.length
 .simp[h1,h2,h3]
 .simp[h1,h2,h3]
theorem xq(l:Lw)(hw:WF cn l)(mr:jt l)(k:Nat)(hk:k<l.2.2.length)(hT:wc (ed l l.2.2[k]))(hC:Im l.2.2[k]):M.jS aC l (k:Int)=some ((qO l k).getD (0,0)):=by
 have wV:=mr.2.2.2.2.2 _ (ajc hk);have Lf:=hw.2.2.2 _ (ajc hk)
 have UL:=Io l k hk fun s hs=>⟨by have:=(mr.2.2.2.2.2 s hs).2.1;omega,by have:=(mr.2.2.2.2.2 s hs).2.2.1;omega⟩
 have hE:qO l k=if lk l.2.2[k].1=false then some (2,0)else if eT l.1 l.2.2[k].1\/eT l.2.1 l.2.2[k].1\/eT (l.2.2.take k) l.2.2[k].1 then some (7,0)else if qN l k l.2.2[k]then some (6,0)else
  if 12<l.2.2[k].2.2.1.length then some (4,112)else if 12<l.2.2[k].2.2.2.1.length then some (4,212)else((Ij l l.2.2[k]).or (b9 (Cl l l.2.2[k]) l.2.2[k].2.2.2.2.length)).or (b9 (Es l.2.2[k]) l.2.2[k].2.2.2.1.length):=by
  unfold qO;rw[ai5 hk]
 have h5:=mr.2.2.1
 obtain⟨x,hx⟩:∃x,x=l.2.2[k]:=⟨_,rfl⟩
 simp only[<-hx]at wV Lf UL hE hT hC;have Nv:=wV.2.2.1;have UK:=wV.2.2.2.1;have abJ:=wV.2.1;have kz:x.1.size<=maxLen:=Lf.1
 have Nx:(l.2.2.take k).length=k:=by rw[ajl];omega
 have cc:∀f∈x.2.2.1,(f.1:ByteArray).size<=maxLen:=fun f hf=>by have:=wV.2.2.2.2.1 f hf;unfold maxLen;omega
 have hdf:∀f∈x.2.2.2.1,(f.1:ByteArray).size<=maxLen:=fun f hf=>by have:=wV.2.2.2.2.2.1 f hf;unfold maxLen;omega
 apply Wp.eq;unfold M.jS;rw[ag hk,ai2,lm (akE hk),ai2,<-hx]
 have LC:(((M.gR aC l.1 x.1).bind fun y4=>
  (if y4=true then
  some (true,x)
  else
  (M.iu aC l.2.1 x.1).bind fun y5=>
  (if y5=true then
  some (true,x)
  else
  (M.aG aC (l.2.2.take k) x).bind fun y6=>
  some (y6.1,y6.2))):Option (Bool×az.den)))=some (decide (eT l.1 x.1\/eT l.2.1 x.1\/eT (l.2.2.take k) x.1),x):=by
  apply Wp.eq;simp only[qQ _ _ hw.1.1,tW _ _ hw.2.1.1,zW (l.2.2.take k) _ (by rw[Nx];unfold maxLen;omega),W_,implies_true,forall_const,reduceCtorEq];exact⟨fun h=>by rw[decide_eq_true (Or.inl h)],fun h1=>⟨fun h=>by rw[decide_eq_true (Or.inr (Or.inl h))],fun h2=>congrArg (fun b=>(b,x)) (decide_eq_decide.2 ⟨fun h=> .inr (.inr h),fun h=>(h.resolve_left h1).resolve_left h2⟩)⟩⟩
 rw[LC,ai2,tq _ kz,ai2,hE];by_cases h1:lk x.1=false
 .rw[if_pos (by simp[h1]),if_pos h1];exact .some rfl
 rw[if_neg (by simpa using h1),if_neg h1];by_cases h2:eT l.1 x.1\/eT l.2.1 x.1\/eT (l.2.2.take k) x.1
 .rw[if_pos (decide_eq_true h2),if_pos h2];exact .some rfl
 rw[if_neg (by simpa using h2),if_neg h2];have Rj:qN l k x↔(x.2.1:Int)≠-1/\((x.2.1:Int)<0\/(k:Int)<=x.2.1\/∃y,l.2.2[(x.2.1:Int).toNat]? =some y/\(y.2.1:Int)≠-1):=Iff.rfl
 have UM:((if(!decide ((x.2.1:Int)=(-1:Int)))=true then
  (if(decide ((x.2.1:Int)<(0:Int)))=true then
  some true
  else
  (if(decide ((k:Int)<=x.2.1))=true then
  some true
  else
  (idx (l.2.2.take k) x.2.1).bind fun x9=>
  some (!decide ((x9.2.1:Int)=(-1:Int)))))
  else
  some false):Option (Bool))=some (decide (qN l k x)):=by
  apply Wp.eq;simp only[W_,implies_true,forall_const,reduceCtorEq]
  obtain⟨(m:Int),hm⟩:∃m:Int,m=x.2.1:=⟨_,rfl⟩
  simp only[<-hm]at Rj⊢;refine⟨fun hp=>⟨fun h=>(Rj.2 ⟨hp, .inl h⟩),fun h3=>⟨fun h=>(Rj.2 ⟨hp, .inr (.inl h)⟩),fun h4=>dB.2 ⟨by dsimp only[ae,Row.den]at*;omega,?_⟩⟩⟩,fun hp h=>(Rj.1 h).1 hp⟩
  have hmn:m.toNat<k:=by dsimp only[ae,Row.den]at*;omega
  rw[List.getElem_take];have oi:l.2.2[m.toNat]? =some (l.2.2[m.toNat]'(by omega)):=ai5 (by omega);rw[<-decide_not];refine decide_eq_decide.2 ⟨fun h g=>?_,fun h=>aj8.1 fun h'=>h (Rj.2 ⟨hp, .inr (.inr ⟨_,oi,h'⟩)⟩)⟩;obtain⟨_,g1|g1|⟨y,g1,g2⟩⟩:=Rj.1 g
  .exact absurd g1 h3
  .exact absurd g1 h4
  .rw[oi]at g1;cases g1;exact g2 h
 rw[UM,ai2];by_cases h3:qN l k x
 .rw[if_pos (decide_eq_true h3),if_pos h3];exact .some rfl
 rw[if_neg (by simpa using h3),if_neg h3];clear LC UM Rj hE;dsimp only;by_cases h4:12<x.2.2.1.length
 .rw[if_pos (decide_eq_true (by omega)),if_pos h4];exact .some rfl
 rw[if_neg (by rw[decide_eq_true_eq];omega),if_neg h4];by_cases h5:12<x.2.2.2.1.length
 .rw[if_pos (decide_eq_true (by omega)),if_pos h5];exact .some rfl
 rw[if_neg (by rw[decide_eq_true_eq];omega),if_neg h5,UL];unfold Ij;simp only[W_,implies_true,forall_const,reduceCtorEq]
 refine Wp.count (fun s=>s) x.2.2.1.length (fun i _=>∀j,j<i->Lt l x j=none) (by omega) rfl (fun j hj=>by omega) fun i c hi hs hJ=>?_
 obtain rfl:c=_:=hs;simp only[W_,implies_true,forall_const,reduceCtorEq,aY,aO];refine⟨fun al=>?_,fun hge=>?_⟩
 .have al:i<x.2.2.1.length:=by omega
  have hf:=Rh l x i al;simp only[ag al,lm (akE al),qj l _ (x.2.2.1.take i) [] (cc _ (ajc al)) (by rw[ajl];unfold maxLen;omega) (by simp),rU (k:=i) (a:=100) (by omega) (by omega),cu (m:=x.2.2.1.length) (by omega) al,W_,implies_true,forall_const,reduceCtorEq];refine⟨fun h=>?_,fun h=>⟨al,cv hJ (by rw[hf,if_neg (fun g=>g h)])⟩⟩;rw[ey (hf.trans (if_pos h)) hJ al];rfl
 rw[bC.2 fun j(hj:j<x.2.2.1.length)=>hJ j (by omega),akc];clear hJ
 refine Wp.count (fun s=>s) x.2.2.2.1.length (fun i _=>∀j,j<i->Lu l x j=none) (by omega) rfl (fun j hj=>by omega) fun i c hi hs hJ=>?_
 obtain rfl:c=_:=hs;simp only[W_,implies_true,forall_const,reduceCtorEq,aY,aO];refine⟨fun al=>?_,fun hge=>?_⟩
 .have al:i<x.2.2.2.1.length:=by omega
  have hf:=Ri l x i al;simp only[ag al,lm (akE al),qj l _ x.2.2.1 (x.2.2.2.1.take i) (hdf _ (ajc al)) (by unfold maxLen;omega) (by rw[ajl];unfold maxLen;omega),rU (k:=i) (a:=200) (by omega) (by omega),cu (m:=x.2.2.2.1.length) (by omega) al,W_,implies_true,forall_const,reduceCtorEq];refine⟨fun h=>?_,fun h=>⟨al,cv hJ (by rw[hf,if_neg (fun g=>g h)])⟩⟩;rw[ey (hf.trans (if_pos h)) hJ al];rfl
 rw[bC.2 fun j(hj:j<x.2.2.2.1.length)=>hJ j (by omega),akc];clear hJ
 refine Wp.count (fun s=>s) x.2.2.2.2.length (fun i _=>∀j,j<i->Cl l x j=none) (by omega) rfl (fun j hj=>by omega) fun i c hi hs hJ=>?_
 obtain rfl:c=_:=hs;simp only[W_,implies_true,forall_const,reduceCtorEq,aY,aO];refine⟨fun al=>?_,fun hge=>?_⟩
 .have al:i<x.2.2.2.2.length:=by omega
  have hf:Cl l x i=if th l x i x.2.2.2.2[i]≠0 then some (th l x i x.2.2.2.2[i],300+(i:Int))else none:=by
   unfold Cl;rw[ai5 al]
  have hr:M.iP aC x (i:Int) ((ed l x).1,((ed l x).2.1,((ed l x).2.2.1,((ed l x).2.2.2.1,((ed l x).2.2.2.2.1,(ed l x).2.2.2.2.2)))))=_:=z6 l x Lf wV hT i al;simp only[hr,rU (k:=i) (a:=300) (by omega) (by omega),cu (m:=x.2.2.2.2.length) (by omega) al,W_,implies_true,forall_const,reduceCtorEq];refine⟨fun h=>?_,fun h=>⟨al,cv hJ (by rw[hf,if_neg (fun g=>g h)])⟩⟩;rw[ey (hf.trans (if_pos h)) hJ al];rfl
 rw[bC.2 fun j(hj:j<x.2.2.2.2.length)=>hJ j (by omega),akc];clear hJ
 refine Wp.count (fun s=>s) x.2.2.2.1.length (fun i _=>∀j,j<i->Es x j=none) (by omega) rfl (fun j hj=>by omega) fun i c hi hs hJ=>?_
 obtain rfl:c=_:=hs;simp only[W_,implies_true,forall_const,reduceCtorEq,aY,aO];refine⟨fun al=>?_,fun hge=>?_⟩
 .have al:i<x.2.2.2.1.length:=by omega
  obtain⟨tr,e1,e2,e3⟩:=hC i al
  have hf:Es x i=if(i:Int)∈IQ x i then some (9,200+(i:Int))else none:=rfl
  simp only[e1,Ew tr _ (by unfold maxLen;omega),rU (k:=i) (a:=200) (by omega) (by omega),cu (m:=x.2.2.2.1.length) (by omega) al,W_,implies_true,forall_const,reduceCtorEq];refine⟨fun h=>?_,fun h=>⟨al,cv hJ (by rw[hf,if_neg (fun g=>h (e3.2 g))])⟩⟩;rw[ey (hf.trans (if_pos (e3.1 h))) hJ al];rfl
 .rw[bC.2 fun j(hj:j<x.2.2.2.1.length)=>hJ j (by omega)];rfl
theorem wy(l:Lw)(hw:WF cn l)(mr:jt l)(hT:∀x∈l.2.2,wc (ed l x))(hC:∀x∈l.2.2,Im x):M.iX aC l=some (if 4<l.2.2.length then((4:Int),((3:Int),((4:Int),(0:Int))))else match b9 (fun k=>(qO l k).map fun e=>(k,e)) l.2.2.length with
 |some (k,e)=>rT 3 (k:Int) (some e)
 |none=>NN):=by
 have w1:=hw.2.2.1;unfold maxLen at w1;apply Wp.eq;unfold M.iX;simp only[W_,implies_true,forall_const,reduceCtorEq];refine⟨fun h=>by rw[if_pos (by omega)],fun h8=>?_⟩;rw[if_neg (by omega)]
 refine Wp.count (fun s=>s) l.2.2.length (fun i _=>∀j,j<i->(fun k=>(qO l k).map fun e=>(k,e)) j=none) w1 rfl (fun j hj=>by omega) fun i c hi hs hJ=>?_
 obtain rfl:c=_:=hs;simp only[W_,implies_true,forall_const,reduceCtorEq,aY,aO];refine⟨fun al=>?_,fun hge=>?_⟩
 .have al:i<l.2.2.length:=by omega
  simp only[xq l hw mr i al (hT _ (ajc al)) (hC _ (ajc al)),cu w1 al,W_,implies_true,forall_const,reduceCtorEq];refine⟨fun h=>?_,fun h=>⟨al,cv hJ ?_⟩⟩
  .cases he:qO l i with
   |none=>rw[he]at h;exact absurd rfl h
   |some e=>rw[ey (Rf he) hJ al];rfl
  .cases he:qO l i with
   |none=>rfl
   |some e=>rw[he]at h;exact absurd h (Cn he)
 .rw[bC.2 fun j hj=>hJ j (by omega)];rfl
theorem Cr(l:Lw)(hw:WF cn l)(mr:jt l)(hT:∀x∈l.2.2,wc (ed l x))(hC:∀x∈l.2.2,Im x):M.ix aC l=some (Et l):=by
 have bad:∀(f:Nat->Option (Int×Int))(m:Nat)(sec:Int)(k:Nat)(e:Int×Int),(∀i e,f i=some e->e.1≠0)->b9 (fun k=>(f k).map fun e=>(k,e)) m=some (k,e)->(!decide ((rT sec (k:Int) (some e)).1=0))=true:=fun f m sec k e hf he=>by
  obtain⟨j,_,hj,_⟩:=fj he;obtain⟨e',he',h2⟩:=Option.map_eq_some_iff.1 hj;cases h2;have:e.1≠0:=hf _ _ he'
  show(!decide (e.1=0))=true
  simp[this]
 unfold M.ix Et;rw[xp l hw,ai2];by_cases h1:8<l.1.length
 .rw[if_pos h1,if_pos h1];rfl
 rw[if_neg h1,if_neg h1]
 cases hA:b9 (fun k=>(nM l k).map fun e=>(k,e)) l.1.length with
 |some p=>
  obtain⟨k,e⟩:=p;dsimp only;rw[if_pos (bad _ _ _ _ _ (fun i e=>tj) hA)]
 |none=>
  dsimp only;rw[if_neg (by simp[NN]),wq l hw,ai2];by_cases h2:8<l.2.1.length
  .rw[if_pos h2,if_pos h2];rfl
  rw[if_neg h2,if_neg h2]
  cases hB:b9 (fun k=>(oy l k).map fun e=>(k,e)) l.2.1.length with
  |some p=>
   obtain⟨k,e⟩:=p;dsimp only;rw[if_pos (bad _ _ _ _ _ (fun i e=>Cm) hB)]
  |none=>
   dsimp only
   rw[if_neg (by simp[NN]),wy l hw mr hT hC,ai2]<;>rfl
end L
end Go.Proofs.YtilaieogabgamaaGreatDoor
end
