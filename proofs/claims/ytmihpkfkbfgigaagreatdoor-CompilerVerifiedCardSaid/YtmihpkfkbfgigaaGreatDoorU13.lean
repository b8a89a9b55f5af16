/- Joined texts: RX CA RY RZ CC. -/
import Derived.Test.YtmihpkfkbfgigaaGreatDoorU12
import Derived.Test.YtmihpkfkbfgigaaGreatDoorU8
import Derived.Test.YtmihpkfkbfgigaaGreatDoorU11
section
open _root_.Bool renaming false_eq_true->ajp
open _root_.Int renaming eq_ofNat_of_zero_le->ajC,toNat_natCast->ajr
open _root_.Go.IntKind renaming i64->ajj
open _root_.List renaming append_assoc->ajH,append_nil->akd,getD->ajN,getElem?_append_left->ajQ,getElem?_eq_getElem->ajl,getElem?_eq_some_iff->ajn,getElem?_map->akj,getElem_append_left->ajv,getElem_append_right->ajA,getElem_mem->ajs,getElem_of_mem->ajG,length_append->ajm,length_cons->ajy,length_eq_zero_iff->akn,length_map->ajM,length_take->ajB,mem_map->akT,mem_singleton->ajz,replicate->ajq,replicate_succ->ako,set_append_right->aj4,take_length->ajD
open _root_.Nat renaming le_refl->ajo
open _root_.Option renaming bind_some->aji,getD_some->ajW
namespace Go.Proofs.YtmihpkfkbfgigaaGreatDoor
open Go Go.RowKit
set_option maxRecDepth 100000
set_option linter.unusedSimpArgs false
namespace L
def yA(r:Ty)(d:Int):Prop:=VR r/\(r.1:Int)<=d/\d<(r.2:Int)
instance(r:Ty)(d:Int):Decidable (yA r d):=by unfold yA;infer_instance
theorem LZ(r:Ty)(d:Int):M.bG aE r d=some (decide (yA r d)):=by
 obtain⟨(r1:Int),(r2:Int)⟩:=r;apply Wp.eq;unfold M.bG;simp only[EA,W_,implies_true,forall_const,reduceCtorEq];unfold yA;dsimp only[ae,Row.den]
 by_cases h:VR ((r1,r2):Ty)<;>simp only[h,W_,implies_true,forall_const,reduceCtorEq]
 omega
def tA:Ty:=((0:Int),(109573:Int))
def kJ(rows:List Rw)(d:Int):List Rw:=(rows.filter fun x=>decide (yA x.1 d)).map fun x=>(tA,x.2)
theorem L0{α β:Type}(l:List α)(p:α->Bool)(F:α->β){body:Int×List β->Option ((Int×List β)⊕List β)}(hl:l.length<=4294967295)
 (hb:∀k,∀h:k<l.length,∀o:List β,o.length<=k->body ((k:Int),o)=some (.inl (ajj.wrap ((k:Int)+1),if p l[k]=true then o++[F l[k]]else o)))
 (he:∀o:List β,body ((l.length:Int),o)=some (.inr o)):Loop body aE ((0:Int),[])=some ((l.filter p).map F):=by
 have LN:l.length<aE:=by unfold aE;omega
 refine zI (fun k=>((k:Int),((l.take k).filter p).map F)) l.length _ (by simp) (fun k hk=>?_) (by rw[he,ajD]) LN
 have hle:(((l.take k).filter p).map F).length<=k:=by
  rw[ajM];exact Nat.le_trans (List.length_filter_le _ _) (by simp;omega)
 rw[hb k hk _ hle,de (m:=l.length) (by omega) hk,List.take_add_one,ajl hk];rw[List.filter_append,List.map_append];by_cases h:p l[k]=true
 .rw[if_pos h]
  have:([l[k]]:List α).filter p=[l[k]]:=by simp[h]
  show some (Sum.inl (_,_))=some (Sum.inl (_,_++(List.filter p [l[k]]).map F))
  rw[this];rfl
 .rw[if_neg h]
  have:([l[k]]:List α).filter p=[]:=by simp[h]
  show some (Sum.inl (_,_))=some (Sum.inl (_,_++(List.filter p [l[k]]).map F))
  rw[this,List.map_nil,akd]
theorem EK(t:xm)(d:Int)(hl:t.2.2.2.length<=1048576):M.fx aE t d=some (t.1,t.2.1,t.2.2.1,kJ t.2.2.2 d):=by
 unfold M.fx
 have:=L0 t.2.2.2 (fun x=>decide (yA x.1 d)) (fun x:Rw=>((tA,x.2):Rw)) (body:=fun s2=>(if(decide (s2.1<(t.2.2.2.length:Int)))=true then((idx t.2.2.2 s2.1).bind fun x4=>(M.bG aE x4.1 d).bind fun y5=>(if y5=true then(M.di aE).bind fun y6=>(bZ s2.2 ([(y6,x4.2)]:List dJ.den)).bind fun l7=>some l7 else some s2.2):Option (List dJ.den)).bind fun j3=>some (Sum.inl (ajj.wrap (s2.1+(1:Int)),j3))else some (Sum.inr s2.2))) (by omega)
  (fun k hk o ho=>by
    have ea:M.di aE=some tA:=rfl;simp only[jn hk,ah hk,LZ,ea,aji,if_true,bL (show o.length+[((tA,t.2.2.2[k].2):Rw)].length<=4294967296 by simp;omega)];by_cases h:yA t.2.2.2[k].1 d
    .simp only[decide_eq_true h,if_true,aji]
    .simp only[decide_eq_false h,ajp,if_false,aji])
  (fun o=>by simp only[eX,decide_false,ajp,if_false])
 rw[this];rfl
theorem Gj:VR tA:=by decide
theorem L1{x y:Rw}{d:Int}(hx:yA x.1 d)(hy:yA y.1 d)(h:mZ ((tA,x.2):Rw) ((tA,y.2):Rw)):mZ x y:=by
 obtain⟨⟨(x1:Int),(x2:Int)⟩,(x3:Int),(x4:Int),(x5:Int)⟩:=x;obtain⟨⟨(y1:Int),(y2:Int)⟩,(y3:Int),(y4:Int),(y5:Int)⟩:=y;unfold mZ at h⊢;unfold yA at hx hy;dsimp only[ae,Row.den]at*;exact⟨hx.1,hy.1,by omega,h.2.2.2⟩
theorem L2{x:Rw}{t:xm}{E:List En}{rows:List Rw}(h:¬nO x t E):¬nO ((tA,x.2):Rw) ((t.1,(t.2.1,(t.2.2.1,rows))):xm) E:=by
 intro g;apply h;unfold nO at g⊢
 rcases g with g|g|g
 .exact absurd Gj g
 .exact absurd (show(0:Int)=109573 from g) (by decide)
 .exact .inr (.inr g)
theorem tB{α:Type}{p:α->Bool}:∀{l:List α}{k:Nat}(h:k<(l.filter p).length),∃j,∃hj:j<l.length,(l.filter p)[k]=l[j]/\p l[j]=true/\∀i,∀hi:i<(l.filter p).length,i<k->∃m,∃hm:m<l.length,m<j/\(l.filter p)[i]=l[m]/\p l[m]=true
 |[],k,h=>absurd h (by simp)
 |a::l,k,h=>by
  by_cases ha:p a=true
  .have e:(a::l).filter p=a::l.filter p:=List.filter_cons_of_pos ha
   cases k with
   |zero=>exact⟨0,by simp,by simp[e],ha,fun i _ hi=>by omega⟩
   |succ k=>
    have hk:k<(l.filter p).length:=by rw[e]at h;simpa using h
    obtain⟨j,hj,h1,h2,h3⟩:=tB (l:=l) hk;refine⟨j+1,by simpa using hj,by simpa[e]using h1,h2,fun i hi MN=>?_⟩
    cases i with
    |zero=>exact⟨0,by simp,by omega,by simp[e],ha⟩
    |succ i=>
     obtain⟨m,hm,h4,h5,h6⟩:=h3 i (by rw[e]at hi;simpa using hi) (by omega);exact⟨m+1,by simpa using hm,by omega,by simpa[e]using h5,h6⟩
  .have e:(a::l).filter p=l.filter p:=List.filter_cons_of_neg ha
   have hk:k<(l.filter p).length:=by rw[e]at h;exact h
   obtain⟨j,hj,h1,h2,h3⟩:=tB (l:=l) hk;refine⟨j+1,by simpa using hj,by simpa[e]using h1,h2,fun i hi MN=>?_⟩;obtain⟨m,hm,h4,h5,h6⟩:=h3 i (by rw[e]at hi;exact hi) MN;exact⟨m+1,by simpa using hm,by omega,by simpa[e]using h5,h6⟩
theorem yB{rows:List Rw}{d:Int}{k:Nat}(h:k<(kJ rows d).length)(h':k<(rows.filter fun x=>decide (yA x.1 d)).length):(kJ rows d)[k]=((tA,(rows.filter fun x=>decide (yA x.1 d))[k].2):Rw):=List.getElem_map ..
theorem Rp{t:xm}{E:List En}(d:Int)(h:(ni t E).2=0):(ni ((t.1,(t.2.1,(t.2.2.1,kJ t.2.2.2 d))):xm) E).2=0:=by
 obtain⟨h1,h2,h3⟩:=Ad.1 h;refine Ad.2 ⟨?_,h2,fun k hk=>?_⟩
 .show(kJ t.2.2.2 d).length<=64
  unfold kJ;rw[ajM];exact Nat.le_trans (List.length_filter_le _ _) h1
 .have dO:k<(t.2.2.2.filter fun x=>decide (yA x.1 d)).length:=by
   have:k<(kJ t.2.2.2 d).length:=hk;unfold kJ at this
   rwa [ajM]at this
  obtain⟨j,hj,e,hp,Vf⟩:=tB dO;have oi:(kJ t.2.2.2 d)[k]'hk=((tA,t.2.2.2[j].2):Rw):=(yB hk dO).trans (by rw[e])
  show¬nO ((kJ t.2.2.2 d)[k]'hk) _ E/\¬∃y∈(kJ t.2.2.2 d).take k,mZ y ((kJ t.2.2.2 d)[k]'hk)
  rw[oi];refine⟨L2 (h3 j hj).1,?_⟩
  rintro⟨y,hy,hc⟩
  obtain⟨i,hi,rfl⟩:=List.mem_take_iff_getElem.1 hy
  have gj:i<(t.2.2.2.filter fun x=>decide (yA x.1 d)).length:=by omega
  obtain⟨m,hm,hmj,e2,Px⟩:=Vf i gj (by omega);have abO:(kJ t.2.2.2 d)[i]'(by omega)=((tA,t.2.2.2[m].2):Rw):=(yB _ gj).trans (by rw[e2]);rw[abO]at hc;exact(h3 j hj).2 ⟨_,List.mem_take_iff_getElem.2 ⟨m,by omega,rfl⟩,L1 (of_decide_eq_true Px) (of_decide_eq_true hp) hc⟩
def dp(d:Int)(c:List Int×List Int×List Int)(r:me):List Int×List Int×List Int:=
 if yA r.2.2.2.2.1 d then(c.1++[(c.2.1.length:Int)],c.2.1++[(c.1.length:Int)],c.2.2++[if 0<=(r.2.2.1:Int)/\(r.2.2.1:Int)<(c.1.length:Int)then c.1.getD (r.2.2.1:Int).toNat (-1)else-1])
 else(c.1++[if 0<=(r.2.2.1:Int)/\(r.2.2.1:Int)<(c.1.length:Int)then c.1.getD (r.2.2.1:Int).toNat (-1)else-1],c.2.1,c.2.2)
def gC(d:Int)(rules:List me):List Int×List Int×List Int:=rules.foldl (dp d) ([],[],[])
theorem mH(d:Int)(rules:List me):(gC d rules).1.length=rules.length/\(gC d rules).2.1.length<=rules.length/\(gC d rules).2.2.length=(gC d rules).2.1.length:=by
 unfold gC
 suffices∀(rules:List me)(c:List Int×List Int×List Int),c.2.2.length=c.2.1.length->(rules.foldl (dp d) c).1.length=c.1.length+rules.length/\(rules.foldl (dp d) c).2.1.length<=c.2.1.length+rules.length/\(rules.foldl (dp d) c).2.2.length=(rules.foldl (dp d) c).2.1.length by simpa using this rules ([],[],[]) rfl
 intro rules
 induction rules with
 |nil=>intro c h;exact⟨rfl,ajo _,h⟩
 |cons r rules ih=>
  intro c h;rw[List.foldl_cons,ajy]
  have h1:(dp d c r).1.length=c.1.length+1:=by unfold dp;split<;>simp
  have h2:(dp d c r).2.1.length<=c.2.1.length+1:=by unfold dp;split<;>simp
  have h3:(dp d c r).2.2.length=(dp d c r).2.1.length:=by unfold dp;split<;>simp[h]
  obtain⟨g1,g2,g3⟩:=ih _ h3;exact⟨by omega,by omega,g3⟩
theorem wM(l:List Int)(m:Nat)(v:Int):aQ (l++ajq (m+1) (0:Int)) (l.length:Int) v=(l++[v])++ajq m (0:Int):=by
 unfold aQ;rw[ajr,aj4 _ _ (ajo _),Nat.sub_self,ako,List.set_cons_zero];simp
theorem L3(l:List Int)(m:Nat)(u v:Int):aQ ((l++[u])++ajq m (0:Int)) (l.length:Int) v=(l++[v])++ajq m (0:Int):=by
 unfold aQ;rw[ajr,ajH,aj4 _ _ (ajo _),Nat.sub_self];simp
theorem Ae(rules:List me)(d:Int)(hl:rules.length<=100000):M.eD aE rules d=some (d,(gC d rules).2.1,(gC d rules).2.2):=by
 apply Wp.eq;unfold M.eD;rw[wp_bind];refine vY.2 ⟨by omega,?_⟩;rw[ajr]
 refine Wp.count (fun s=>s.1) rules.length (fun k s=>s.2=(d,(gC d (rules.take k)).1++ajq (rules.length-k) 0,(gC d (rules.take k)).2.1,(gC d (rules.take k)).2.2)) (by omega) rfl (by simp[gC]) fun k s hk hs hJ=>?_
 obtain⟨i,s2⟩:=s;dsimp only at hs hJ;subst hs hJ;simp only[W_,implies_true,forall_const,reduceCtorEq,aY,aP];refine⟨fun ao=>?_,fun hge=>?_⟩
 .have ao:k<rules.length:=by omega
  obtain⟨l1,l2,l3⟩:=mH d (rules.take k)
  have NM:(rules.take k).length=k:=by rw[ajB];omega
  rw[NM]at l1 l2
  have eM:gC d (rules.take (k+1))=dp d (gC d (rules.take k)) rules[k]:=by
   unfold gC;rw[List.take_add_one,ajl ao,List.foldl_append];rfl
  obtain⟨m,hm⟩:∃m,rules.length-k=m+1:=⟨rules.length-k-1,by omega⟩
  have Ak:rules.length-(k+1)=m:=by omega
  rw[eM,hm,Ak];generalize gC d (rules.take k)=c at*;obtain⟨near,li,pa⟩:=c;dsimp only at l1 l2 l3⊢;subst l1;rw[ah ao];refine .some ?_;generalize rules[near.length]=r at*
  have hc:M.dm aE r d=some (decide (yA r.2.2.2.2.1 d),d):=by
   unfold M.dm;rw[LZ,aji]
  have hw:ajj.wrap ((near.length:Int)+1)=((near.length+1:Nat):Int):=de (m:=rules.length) (by omega) ao
  have tail:∀a:Int,a=(if 0<=(r.2.2.1:Int)/\(r.2.2.1:Int)<(near.length:Int)then near.getD (r.2.2.1:Int).toNat (-1)else-1)->
   Wp (idx (near++ajq (m+1) (0:Int)) (near.length:Int)) fun _=>Wp (M.dm aE r d) fun x=>(x.1=true->Wp (idx (aQ (near++ajq (m+1) (0:Int)) (near.length:Int) a) (near.length:Int)) fun _=>Wp (bZ li [(near.length:Int)]) fun x4=>Wp (bZ pa [a]) fun x5=>near.length<rules.length/\ajj.wrap ((near.length:Int)+1)=((near.length+1:Nat):Int)/\(x.2,aQ (aQ (near++ajq (m+1) (0:Int)) (near.length:Int) a) (near.length:Int) (li.length:Int),x4,x5)=(d,(dp d (near,li,pa) r).1++ajq m 0,(dp d (near,li,pa) r).2.1,(dp d (near,li,pa) r).2.2))/\
    (x.1=false->near.length<rules.length/\ajj.wrap ((near.length:Int)+1)=((near.length+1:Nat):Int)/\(x.2,aQ (near++ajq (m+1) (0:Int)) (near.length:Int) a,li,pa)=(d,(dp d (near,li,pa) r).1++ajq m 0,(dp d (near,li,pa) r).2.1,(dp d (near,li,pa) r).2.2)):=by
   intro a ha;refine dX.2 ⟨by simp;omega,?_⟩;rw[hc];refine .some ⟨fun h=>?_,fun h=>?_⟩
   .have h:yA r.2.2.2.2.1 d:=of_decide_eq_true h;refine dX.2 ⟨by rw[wM];simp;omega,nf.2 ⟨by simp;omega,nf.2 ⟨by simp;omega,ao,hw,?_⟩⟩⟩;rw[wM,L3];unfold dp;rw[if_pos h,ha]
   .have h:¬yA r.2.2.2.2.1 d:=of_decide_eq_false h;refine⟨ao,hw,?_⟩;rw[wM];unfold dp;rw[if_neg h,ha]
  obtain⟨(p:Int),hp⟩:∃p:Int,p=r.2.2.1:=⟨_,rfl⟩
  simp only[<-hp]at tail⊢;refine⟨fun h0=>⟨fun h1=>?_,fun h1=>tail _ (by rw[if_neg fun g=>h1 g.2])⟩,fun h0=>tail _ (by rw[if_neg fun g=>h0 g.1])⟩;obtain⟨c,rfl⟩:=ajC h0;have yf:c<near.length:=Int.ofNat_lt.1 h1;refine dX.2 ⟨by simp;omega,tail _ ?_⟩;rw[if_pos ⟨h0,h1⟩];simp only[ajr];rw[ajv yf];simp[ajN,yf]
 .obtain rfl:k=rules.length:=by omega
  rw[ajD]
theorem IE(d:Int)(rules:List me)(r:me):gC d (rules++[r])=dp d (gC d rules) r:=by
 unfold gC;rw[List.foldl_append];rfl
def RZ(rules:List me)(li:List Int)(b:Nat)(df:Int)(a:Int):Prop:=a= -1\/∃j:Nat,a=(j:Int)/\j<b/\∃i,∃h:i<rules.length,li[j]? =some (i:Int)/\(rules[i].2.1:Int)=df
structure Gk(d:Int)(rules:List me)(c:List Int×List Int×List Int):Prop where
 near:c.1.length=rules.length
 same:c.2.2.length=c.2.1.length
 nr:∀i,∀h:i<rules.length,∀h':i<c.1.length,RZ rules c.2.1 c.2.1.length rules[i].2.1 c.1[i]
 li:∀j,∀h:j<c.2.1.length,∃i,∃hi:i<rules.length,c.2.1[j]=(i:Int)/\yA rules[i].2.2.2.2.1 d/\∀h':j<c.2.2.length,RZ rules c.2.1 j rules[i].2.1 c.2.2[j]
 inc:c.2.1.Pairwise (· < ·)
theorem RZ.more{rules:List me}{li:List Int}{b b':Nat}{df a:Int}(r:me)(l':List Int)(hb:b<=b')(h:RZ rules li b df a):RZ (rules++[r]) (li++l') b' df a:=by
 rcases h with h|⟨j,h1,h2,i,hi,h3,h4⟩
 .exact .inl h
 .refine .inr ⟨j,h1,by omega,i,by simp;omega,?_,?_⟩
  .rw[ajQ (ajn.1 h3).1];exact h3
  .rw[ajv hi];exact h4
theorem lD.init{rules:List me}{r:me}(h:lD (rules++[r])):lD rules:=fun i hi=>by
 have:=h i (by simp;omega);rw[ajv hi]at this
 rcases this with g|⟨p,hp,g1,g2⟩
 .exact .inl g
 .refine .inr ⟨p,hp,g1,?_⟩;rw[ajv (show p<rules.length by omega)]at g2;exact g2
theorem Gk.snoc{d:Int}{rules:List me}{r:me}{c:List Int×List Int×List Int}(h:Gk d rules c)(hp:lD (rules++[r])):Gk d (rules++[r]) (dp d c r):=by
 obtain⟨near,li,pa⟩:=c;obtain⟨h1,h2,h3,h4,h5⟩:=h;dsimp only at h1 h2 h3 h4 h5
 have last:(rules++[r])[rules.length]'(by simp)=r:=by simp
 have Rq:RZ rules li li.length r.2.1 (if 0<=(r.2.2.1:Int)/\(r.2.2.1:Int)<(near.length:Int)then near.getD (r.2.2.1:Int).toNat (-1)else-1):=by
  have:=hp rules.length (by simp);rw[last]at this
  rcases this with g|⟨p,qy,g1,g2⟩
  .rw[if_neg (fun q=>by rw[g]at q;exact absurd q.1 (by decide))];exact .inl rfl
  .have tD:near.length=rules.length:=h1;rw[g1,if_pos ⟨Int.natCast_nonneg p,Int.ofNat_lt.2 (by omega)⟩,ajr];rw[ajv qy]at g2
   have hpn:p<near.length:=by omega
   have:=h3 p qy hpn;rw[g2]at this;simpa[ajN,hpn]using this
 have ao:∀x∈li,x<(rules.length:Int):=fun x hx=>by
  obtain⟨j,hj,rfl⟩:=ajG hx;obtain⟨i,hi,e,_⟩:=h4 j hj;omega
 unfold dp;dsimp only;generalize(if 0<=(r.2.2.1:Int)/\(r.2.2.1:Int)<(near.length:Int)then near.getD (r.2.2.1:Int).toNat (-1)else-1)=a at Rq⊢;by_cases cn:yA r.2.2.2.2.1 d
 .rw[if_pos cn];refine⟨by simp[h1],by simp[h2],fun i hi gj=>?_,fun j hj=>?_,?_⟩
  .dsimp only at gj⊢;by_cases e:i<rules.length
   .rw[ajv e,ajv (show i<near.length by omega)];exact(h3 i e (by omega)).more r [_] (by simp)
   .obtain rfl:i=rules.length:=by simp at hi;omega
    rw[last]
    have:(near++[(li.length:Int)])[rules.length]'gj=(li.length:Int):=by
     rw[ajA (by omega)];simp
    rw[this];exact .inr ⟨li.length,rfl,by simp,rules.length,by simp,by simp[h1],by rw[last]⟩
  .dsimp only at hj⊢;by_cases e:j<li.length
   .obtain⟨i,hi,g1,g2,g3⟩:=h4 j e;refine⟨i,by simp;omega,by rw[ajv e];exact g1,by rw[ajv hi];exact g2,fun h'=>?_⟩;rw[ajv hi,ajv (show j<pa.length by omega)];exact(g3 (by omega)).more r [_] (ajo _)
   .obtain rfl:j=li.length:=by simp at hj;omega
    refine⟨rules.length,by simp,by rw[ajA (by omega)];simp[h1],by rw[last];exact cn,fun h'=>?_⟩;rw[last]
    have:(pa++[a])[li.length]? =some a:=by rw[<-h2];simp
    have:=(ajn.1 this).2;rw[this];exact Rq.more r [_] (ajo _)
  .exact List.pairwise_append.2 ⟨h5,List.pairwise_singleton ..,fun x hx y hy=>by
    rw[ajz.1 hy];have:=ao x hx;have tD:near.length=rules.length:=h1
    show x<(near.length:Int)
    omega⟩
 .rw[if_neg cn];refine⟨by simp[h1],h2,fun i hi gj=>?_,fun j hj=>?_,h5⟩
  .dsimp only at gj⊢;by_cases e:i<rules.length
   .rw[ajv e,ajv (show i<near.length by omega)];have:=(h3 i e (by omega)).more r [] (ajo _)
    rwa [akd]at this
   .obtain rfl:i=rules.length:=by simp at hi;omega
    rw[last]
    have:(near++[a])[rules.length]? =some a:=by rw[<-h1];simp
    have:=(ajn.1 this).2;rw[this];have:=Rq.more r [] (ajo _)
    rwa [akd]at this
  .dsimp only at hj⊢;obtain⟨i,hi,g1,g2,g3⟩:=h4 j hj;refine⟨i,by simp;omega,g1,by rw[ajv hi];exact g2,fun h'=>?_⟩;rw[ajv hi];have:=(g3 h').more r [] (ajo _)
   rwa [akd]at this
theorem rZ(d:Int):∀(n:Nat)(rules:List me),rules.length=n->lD rules->Gk d rules (gC d rules)
 |0,rules,hn,_=>by
  obtain rfl:=akn.1 hn;exact⟨rfl,rfl,fun i h=>absurd h (by simp),fun j h=>absurd h (by simp[gC]), .nil⟩
 |n+1,rules,hn,hp=>by
  obtain⟨rs,r,rfl⟩:∃rs r,rules=rs++[r]:=by
   have bP:rules≠[]:=fun e=>by rw[e]at hn;cases hn
   exact⟨rules.dropLast,rules.getLast bP,(List.dropLast_concat_getLast bP).symm⟩
  rw[IE];exact(rZ d n rs (by simpa using hn) hp.init).snoc hp
theorem r6(l:List Ty)(h:l.length<=1048576):M.ak aE l=some l:=by
 unfold M.ak;rw[bL (by simp;omega),List.nil_append,aji];split
 .rename_i h0;obtain rfl:=akn.1 (beq_true h0);exact tt
 .rfl
theorem qs(l:List Fd)(h:l.length<=1048576):M.aX aE l=some l:=by
 unfold M.aX;rw[bL (by simp;omega),List.nil_append,aji];split
 .rename_i h0;obtain rfl:=akn.1 (beq_true h0);exact tt
 .rfl
def CJ(r:me)(p:Int):me:=(r.1,(r.2.1,(p,(r.2.2.2.1,(tA,(r.2.2.2.2.2.1,(r.2.2.2.2.2.2.1,r.2.2.2.2.2.2.2)))))))
def yC(rules:List me)(p:Int×Int):me:=CJ (rules[p.1.toNat]?.getD (⟨#[]⟩,((0:Int),((0:Int),((0:Int),(((0:Int),(0:Int)),([],([],⟨#[]⟩)))))))) p.2
def b9(rules:List me)(d:Int):List me:=((gC d rules).2.1.zip (gC d rules).2.2).map (yC rules)
theorem EL(x:jq)(d:Int)(hs:mG x)(hp:lD x.2.2.2.2):M.fy aE x d=some (x.1,x.2.1,x.2.2.1,x.2.2.2.1,b9 x.2.2.2.2 d):=by
 have Va:=hs.2.2.2.1;have K6:=hs.2.1;have abK:=hs.2.2.1;have hru:=hs.2.2.2.2.2.2;unfold M.fy;rw[Ae _ _ (by omega),aji,qs _ (by omega),qs _ (by omega)];have nn:=rZ d _ x.2.2.2.2 rfl hp;have hlen:=mH d x.2.2.2.2;unfold b9;generalize gC d x.2.2.2.2=c at*;obtain⟨near,li,pa⟩:=c;have nv:pa.length=li.length:=nn.same;have hli:=nn.li;dsimp only at hlen hli⊢
 have hz:(li.zip pa).length=li.length:=by rw[List.length_zip];omega
 have:=Gf (li.zip pa) (yC x.2.2.2.2) (body:=fun s3=>(if(decide (s3.1<(li.length:Int)))=true then(idx li s3.1).bind fun x4=>(idx x.2.2.2.2 x4).bind fun x5=>(idx pa s3.1).bind fun x6=>(M.di aE).bind fun y7=>(M.ak aE x5.2.2.2.2.2.1).bind fun y8=>(M.ak aE x5.2.2.2.2.2.2.1).bind fun y9=>(bZ s3.2 ([(x5.1,(x5.2.1,(x6,(x5.2.2.2.1,(y7,(y8,(y9,x5.2.2.2.2.2.2.2)))))))]:List aZ.den)).bind fun xk=>some (Sum.inl (ajj.wrap (s3.1+(1:Int)),xk))else some (Sum.inr s3.2))) (by omega)
  (fun k hk o ho=>by
    have IW:k<li.length:=by omega
    have V9:k<pa.length:=by omega
    obtain⟨i,hi,e1,_⟩:=hli k IW;have ea:M.di aE=some tA:=rfl;have hri:=hru _ (ajs hi);simp only[jn IW,ah IW,e1,ah hi,ah V9,ea,r6 _ (show x.2.2.2.2[i].2.2.2.2.2.1.length<=1048576 by omega),r6 _ (show x.2.2.2.2[i].2.2.2.2.2.2.1.length<=1048576 by omega),aji,if_true];rw[bL (by simp;omega),aji,List.getElem_zip,e1];unfold yC CJ
    simp only[ajr,ajl hi,ajW])
  (fun o=>by rw[hz];simp only[eX,decide_false,ajp,if_false])
 rw[this];rfl
def kK(t:xm)(d:Int):xm:=(t.1,(t.2.1,(t.2.2.1,kJ t.2.2.2 d)))
def fL(x:jq)(d:Int):jq:=(x.1,(x.2.1,(x.2.2.1,(x.2.2.2.1,b9 x.2.2.2.2 d))))
theorem CK(l:Lw)(d:Int)(hm:Oa l)(nv:lK l)(hp:∀x∈l.2.2,lD x.2.2.2.2):M.gA aE l d=some (l.1,l.2.1.map (kK · d),l.2.2.map (fL · d)):=by
 have h1:=hm.en';have h2:=hm.tb';have h3:=hm.sc';unfold M.gA
 have e1:Loop (S:=Int×List bp.den) (X:=List bp.den) (fun s2=>(if(decide (s2.1<(l.1.length:Int)))=true then(idx l.1 s2.1).bind fun x3=>(M.b7 aE x3.2).bind fun y4=>(bZ s2.2 ([(x3.1,y4)]:List bp.den)).bind fun l5=>some (Sum.inl (ajj.wrap (s2.1+(1:Int)),l5))else some (Sum.inr s2.2))) aE ((0:Int),([]:List bp.den))=some l.1:=by
  have:=Gf (l:=l.1) (F:=fun x:En=>x) (body:=fun s2=>(if(decide (s2.1<(l.1.length:Int)))=true then(idx l.1 s2.1).bind fun x3=>(M.b7 aE x3.2).bind fun y4=>(bZ s2.2 ([(x3.1,y4)]:List bp.den)).bind fun l5=>some (Sum.inl (ajj.wrap (s2.1+(1:Int)),l5))else some (Sum.inr s2.2))) (by omega)
   (fun k hk o ho=>by simp only[jn hk,ah hk,CI _ (hm.en _ (ajs hk)),aji,if_true,bL (show o.length+[l.1[k]].length<=4294967296 by simp;omega)])
   (fun o=>by simp only[eX,decide_false,ajp,if_false])
  rw[List.map_id']at this;exact this
 rw[e1,aji]
 have e2:=CC l.2.1 (kK · d) (fun i o=>((i,l.1,o):Int×(List bp.den)×List ay.den)) (fun o=>(l.1,o)) (body:=fun s7=>(if(decide (s7.1<(l.2.1.length:Int)))=true then(idx l.2.1 s7.1).bind fun x8=>(M.fx aE x8 d).bind fun y9=>(bZ s7.2.2 ([(y9.1,(y9.2.1,(y9.2.2.1,y9.2.2.2)))]:List ay.den)).bind fun xk=>some (Sum.inl (ajj.wrap (s7.1+(1:Int)),s7.2.1,xk))else some (Sum.inr (s7.2.1,s7.2.2)))) (by omega)
  (fun k hk o ho=>by
    simp only[jn hk,ah hk,EK _ d (hm.tb _ (ajs hk)),aji,if_true];rw[bL (by simp;omega),aji]
    rfl)
  (fun o=>by simp only[eX,decide_false,ajp,if_false])
 rw[e2,aji]
 have e3:=CC l.2.2 (fL · d) (fun i o=>((i,l.1,l.2.1.map (kK · d),o):Int×(List bp.den)×(List ay.den)×List aB.den)) (fun o=>(l.1,l.2.1.map (kK · d),o)) (body:=fun vU=>(if(decide (vU.1<(l.2.2.length:Int)))=true then(idx l.2.2 vU.1).bind fun oX=>(M.fy aE oX d).bind fun qk=>(bZ vU.2.2.2 ([(qk.1,(qk.2.1,(qk.2.2.1,(qk.2.2.2.1,qk.2.2.2.2))))]:List aB.den)).bind fun Um=>some (Sum.inl (ajj.wrap (vU.1+(1:Int)),vU.2.1,vU.2.2.1,Um))else some (Sum.inr (vU.2.1,vU.2.2.1,vU.2.2.2)))) (by omega)
  (fun k hk o ho=>by
    have hx:=ajs hk;simp only[jn hk,ah hk,EL _ d (nv.2.2.2.2.2 _ hx) (hp _ hx),aji,if_true];rw[bL (by simp;omega),aji]
    rfl)
  (fun o=>by simp only[eX,decide_false,ajp,if_false])
 rw[e3];rfl
noncomputable def jd(l:Lw)(d:Int):Lw:=(l.1,(l.2.1.map (kK · d),l.2.2.map (fL · d)))
theorem wN{β γ:Type}{l:List (ByteArray×β)}{f:ByteArray×β->ByteArray×γ}(hf:∀x,(f x).1=x.1)(nm:ByteArray):fc (l.map f) nm↔fc l nm:=by
 unfold fc;constructor
 .rintro⟨y,hy,e⟩
  obtain⟨x,hx,rfl⟩:=akT.1 hy;exact⟨x,hx,by rw[<-hf];exact e⟩
 .rintro⟨x,hx,e⟩
  exact⟨f x,akT.2 ⟨x,hx,rfl⟩,by rw[hf];exact e⟩
theorem Og(l:Lw)(d:Int)(k:Nat)(hk:k<l.2.1.length)(h:oA l k=none):oA (jd l d) k=none:=by
 have dO:k<(l.2.1.map (kK · d)).length:=by simpa using hk
 have e:(l.2.1.map (kK · d))[k]=kK l.2.1[k] d:=List.getElem_map ..;unfold oA at h⊢;rw[ajl hk]at h;rw[show(jd l d).2.1=l.2.1.map (kK · d)from rfl,ajl dO,e];dsimp only at h⊢;rw[<-List.map_take];split at h
 .cases h
 split at h
 .cases h
 split at h
 case isFalse=>cases h
 rename_i h1 h2 h3;have n1:(kK l.2.1[k] d).1=l.2.1[k].1:=rfl;rw[if_neg (by rw[n1];exact h1),if_neg,if_pos (show(ni (kK l.2.1[k] d) (jd l d).1).2=0 from Rp d h3)];rw[n1]
 rintro(g|g)
 .exact h2 (.inl g)
 .exact h2 (.inr ((wN (f:=fun x:xm=>kK x d) (fun _=>rfl) _).1 g))
theorem Oh{α β:Type}(l:List α)(f:α->β)(i:Int):idx (l.map f) i=(idx l i).map f:=by
 rw[LX,LX];split
 .rw[akj]
 .rfl
theorem IF(n:Ty)(l:List Ty)(s:nP)(f:xm->xm)(hf:∀t,(f t).2.1=t.2.1/\(f t).2.2.1=t.2.2.1):M.aF aE n l ((s.1,(s.2.1.map f,s.2.2)):nP)=M.aF aE n l s:=by
 have e1:M.iN aE n ((s.1,(s.2.1.map f,s.2.2)):nP)=M.iN aE n s:=rfl
 have e2:M.bc aE n ((s.1,(s.2.1.map f,s.2.2)):nP)=M.bc aE n s:=by
  unfold M.bc;simp only[ajM]
 have e3:M.bS aE n ((s.1,(s.2.1.map f,s.2.2)):nP)=M.bS aE n s:=rfl
 have e4:∀a,M.cf aE n a ((s.1,(s.2.1.map f,s.2.2)):nP)=M.cf aE n a s:=fun a=>by
  unfold M.cf;simp only[Oh,Option.bind_map,Function.comp_def,fun t=>(hf t).1,fun t=>(hf t).2]
 unfold M.aF;simp only[e1,e2,e3,e4]
theorem Rr(e:List Ty)(s:nP)(f:xm->xm)(hf:∀t,(f t).2.1=t.2.1/\(f t).2.2.1=t.2.2.1):C2 e ((s.1,(s.2.1.map f,s.2.2)):nP)=C2 e s:=by
 have h:∀n l,Gc n l ((s.1,(s.2.1.map f,s.2.2)):nP)=Gc n l s:=fun n l=>by
  unfold Gc;rw[IF n l s f hf]
 have hr:∀(e:List Ty)(i:Nat)(gB:List Ty),m5 ((s.1,(s.2.1.map f,s.2.2)):nP) e i gB=m5 s e i gB:=by
  intro e
  induction e with
  |nil=>intro i gB;rfl
  |cons n e ih=>
   intro i gB;rw[m5,m5,h,ih]
 unfold C2;rw[hr]
structure Kept(rules:List me)(d:Int)(j:Nat)(y:me)(i:Nat):Prop where
 lt:i<rules.length
 at_:(gC d rules).2.1[j]? =some (i:Int)
 rul:∃p,y=CJ (rules[i]'lt) p/\(p= -1\/∃q:Nat,p=(q:Int)/\q<j/\∃i',∃h:i'<rules.length,(gC d rules).2.1[q]? =some (i':Int)/\(rules[i'].2.1:Int)=(rules[i]'lt).2.1)
theorem jS(rules:List me)(d:Int):(b9 rules d).length=(gC d rules).2.1.length:=by
 have:=(mH d rules).2.2;unfold b9;rw[ajM,List.length_zip];omega
theorem lb{rules:List me}(d:Int)(hp:lD rules){j:Nat}(h:j<(b9 rules d).length):∃i,Kept rules d j (b9 rules d)[j] i:=by
 have nn:=rZ d _ rules rfl hp;have hl:=jS rules d
 have hj:j<(gC d rules).2.1.length:=by omega
 have IR:j<(gC d rules).2.2.length:=by have:=nn.same;omega
 obtain⟨i,hi,e,_,ha⟩:=nn.li j hj
 have ez:(b9 rules d)[j]=yC rules ((gC d rules).2.1[j],(gC d rules).2.2[j]):=by
  have hz:j<((gC d rules).2.1.zip (gC d rules).2.2).length:=by rw[List.length_zip];omega
  show(((gC d rules).2.1.zip (gC d rules).2.2).map (yC rules))[j]'(by simpa using hz)=_
  rw[List.getElem_map,List.getElem_zip]
 have er:(b9 rules d)[j]=CJ rules[i] ((gC d rules).2.2[j]):=by
  rw[ez,e];unfold yC;simp only[ajr,ajl hi,ajW]
 exact⟨i,hi,by rw[ajl hj,e],_,er,ha IR⟩
theorem Kept.Pn{rules:List me}{d:Int}(hp:lD rules){j j' i i':Nat}{y y':me}(h:Kept rules d j y i)(h':Kept rules d j' y' i')(hj:j'<j):i'<i:=by
 have nn:=(rZ d _ rules rfl hp).inc;obtain⟨h1,e1⟩:=ajn.1 h.at_;obtain⟨h2,e2⟩:=ajn.1 h'.at_;have:=List.pairwise_iff_getElem.1 nn j' j h2 h1 hj;rw[e1,e2]at this;omega
theorem Kept.eqs{rules:List me}{d:Int}{j i:Nat}{y:me}(h:Kept rules d j y i):y.1=(rules[i]'h.lt).1/\(y.2.1:Int)=(rules[i]'h.lt).2.1:=by
 obtain⟨p,e,_⟩:=h.rul;have e1:y.1=(CJ (rules[i]'h.lt) p).1:=congrArg (fun r:me=>r.1) e;have e2:(y.2.1:Int)=(CJ (rules[i]'h.lt) p).2.1:=congrArg (fun r:me=>(r.2.1:Int)) e;exact⟨e1,e2⟩
theorem qU{α:Type}(l:List α)(q:α->Bool):∀n,n<=l.length->(l.take n).countP q=(((List.range n).filter fun a=>((l[a]?).map q).getD false).map fun a:Nat=>(a:Int)).length
 |0,_=>by simp
 |n+1,h=>by
  have hl:n<l.length:=by omega
  rw[List.range_succ,List.filter_append,List.map_append,ajm,<-qU l q n (by omega),List.take_add_one,List.countP_append,ajl hl]
  congr 1
  simp only[Option.toList_some,List.countP_cons,List.countP_nil,ajM];by_cases hq:q l[n]=true
  .rw[if_pos hq,List.filter_cons_of_pos (by rw[ajl hl];exact hq)];rfl
  .rw[if_neg hq,List.filter_cons_of_neg (by rw[ajl hl];exact hq)];rfl
theorem Oi{x:jq}{d:Int}(hp:lD x.2.2.2.2){j i:Nat}(h:j<(b9 x.2.2.2.2 d).length)(hk:Kept x.2.2.2.2 d j (b9 x.2.2.2.2 d)[j] i)(df:Int):zZ (fL x d) j df<=zZ x i df:=by
 unfold zZ
 show((b9 x.2.2.2.2 d).take j).countP _<=_
 rw[qU _ _ j (by omega),qU _ _ i (by have:=hk.lt;omega)];have abP:=(rZ d _ x.2.2.2.2 rfl hp).inc;generalize hL:(List.range j).filter (fun a=>(((b9 x.2.2.2.2 d)[a]?).map fun r:me=>decide ((r.2.1:Int)=df)).getD false)=L
 have hLp:L.Pairwise (· < ·):=by rw[<-hL];exact List.pairwise_lt_range.filter _
 have IY:∀a∈L,a<j/\∃h:a<(b9 x.2.2.2.2 d).length,((b9 x.2.2.2.2 d)[a].2.1:Int)=df:=fun a ha=>by
  rw[<-hL]at ha;obtain⟨h1,h2⟩:=List.mem_filter.1 ha;have hj:=List.mem_range.1 h1
  have hl:a<(b9 x.2.2.2.2 d).length:=by omega
  rw[ajl hl]at h2;exact⟨hj,hl,of_decide_eq_true h2⟩
 have hlen:=jS x.2.2.2.2 d;rw[show(L.map fun a:Nat=>(a:Int)).length=(L.map fun a=>(gC d x.2.2.2.2).2.1.getD a 0).length by simp]
 refine pU ?_ fun y hy=>?_
 .refine List.pairwise_map.2 (hLp.imp_of_mem fun{a b}ha hb vg=>?_);obtain⟨_,h1,_⟩:=IY a ha;obtain⟨_,h2,_⟩:=IY b hb;have:=List.pairwise_iff_getElem.1 abP a b (by omega) (by omega) vg;simp only[List.getD_eq_getElem?_getD,ajl (show a<(gC d x.2.2.2.2).2.1.length by omega),ajl (show b<(gC d x.2.2.2.2).2.1.length by omega),ajW];omega
 .obtain⟨a,ha,rfl⟩:=akT.1 hy;obtain⟨haj,Aj,hdf⟩:=IY a ha;obtain⟨i',dO⟩:=lb d hp Aj;have ao:=hk.Pn hp dO haj;have Am:=dO.lt;rw[List.getD_eq_getElem?_getD,dO.at_,ajW];refine akT.2 ⟨i',List.mem_filter.2 ⟨List.mem_range.2 ao,?_⟩,rfl⟩;rw[ajl Am];exact decide_eq_true (dO.eqs.2.symm.trans hdf)
theorem Oj(l:Lw)(x:jq)(d:Int):eB (jd l d) (fL x d)=((eB l x).1,((eB l x).2.1.map (kK · d),(eB l x).2.2)):=by
 unfold eB jd fL;dsimp only;rw[ajM,akj]
 cases l.2.2[(x.2.1:Int).toNat]? with
 |none=>rfl
 |some y=>rfl
theorem Gl(l:Lw)(x:jq)(d:Int)(e:List Ty)(t:Ty):qP e (eB (jd l d) (fL x d)) t=qP e (eB l x) t:=by
 unfold qP;rw[Oj,Rr e (eB l x) (kK · d) fun _=>⟨rfl,rfl⟩]
theorem Ol{l:Lw}{x:jq}(d:Int)(h:∀i,∀hi:i<x.2.2.2.2.length,tn l x i x.2.2.2.2[i]=0)(j:Nat)(hj:j<(b9 x.2.2.2.2 d).length):tn (jd l d) (fL x d) j (b9 x.2.2.2.2 d)[j]=0:=by
 have hp:=EJ h;obtain⟨i,hk⟩:=lb d hp hj;have Am:=hk.lt;obtain⟨h1,h2,h3,h4,h5,h6,h7,h8,h9⟩:=uN.1 (h i Am);have abQ:=Oi hp hj hk x.2.2.2.2[i].2.1;obtain⟨p,e,OD⟩:=hk.rul
 have abR:∀j' i':Nat,∀h':j'<(b9 x.2.2.2.2 d).length,j'<j->Kept x.2.2.2.2 d j' (b9 x.2.2.2.2 d)[j'] i'->i'<i:=fun j' i' _ Q8 dO=>hk.Pn hp dO Q8
 rw[e];refine uN.2 ⟨h1,fun g=>h2 ?_,h3,fun g=>?_,fun g=>?_,Nat.lt_of_le_of_lt abQ h6,h7,fun g=>?_,?_⟩
 .obtain⟨j',IR,Q8,e'⟩:=yv.1 g;have Vg:j'<(b9 x.2.2.2.2 d).length:=IR;obtain⟨i',dO⟩:=lb d hp Vg;refine yv.2 ⟨i',dO.lt,abR j' i' Vg Q8 dO,?_⟩;rw[<-dO.eqs.1];exact e'
 .obtain⟨g1,g2⟩:=g;have g1:p≠-1:=g1;have g2:p<0\/(j:Int)<=p\/∃y,(b9 x.2.2.2.2 d)[p.toNat]? =some y/\(y.2.1:Int)≠x.2.2.2.2[i].2.1:=g2
  rcases OD with OD|⟨q,rfl,hqj,i',gj,e1,e2⟩
  .exact g1 OD
  .rcases g2 with g2|g2|⟨y,gy,g2⟩
   .omega
   .omega
   .rw[ajr]at gy;obtain⟨hq,rfl⟩:=ajn.1 gy;obtain⟨i2,xv⟩:=lb d hp hq;have e3:=xv.at_;rw[e1]at e3;have:i'=i2:=Int.ofNat_inj.1 (by simpa using e3);subst this;exact g2 (xv.eqs.2.trans e2)
 .exact absurd g (by
   rintro(g|g|g|g)
   .exact h5 (.inl g)
   .exact h5 (.inr (.inl g))
   .exact g Gj
   .exact absurd (show(0:Int)=109573 from g) (by decide))
 .rw[Gl];exact h8 g
 .simp only[Gl];exact h9
theorem EE.mono{D E:Int->Int->Prop}(h:∀a b,D a b->E a b){a b:Int}(r:EE D a b):EE E a b:=by
 induction r with
 |one g=>exact .one (h _ _ g)
 |step _ g ih=>exact .step ih (h _ _ g)
theorem Vh{x:jq}(d:Int)(hp:lD x.2.2.2.2)(a b:Int)(h:Dp (fL x d) a b):Dp x a b:=by
 obtain⟨h1,r,hr,h2,h3⟩:=(wL _ _ _).1 h;have hr:r∈b9 x.2.2.2.2 d:=hr;obtain⟨j,hj,rfl⟩:=ajG hr;obtain⟨i,hk⟩:=lb d hp hj;refine(wL _ _ _).2 ⟨h1,_,ajs hk.lt,hk.eqs.2.symm.trans h2,?_⟩;obtain⟨p,e,_⟩:=hk.rul;rw[e]at h3;exact h3
theorem tZ{f:Nat->Option (Int×Int)}{m:Nat}(h:∀k,k<m->f k=none):cc f m=none:=bE.2 h
theorem Om{l:Lw}(h:Valid l)(d:Int)(k:Nat)(hk:k<l.2.2.length):qR (jd l d) k=none:=by
 have lR:=h.scopes.2.2.2.2.2 k hk;obtain⟨v1,v2,v3,v4,v5,v6,v7,v8⟩:=h.scope k hk;have hp:=EJ v7
 have e:(jd l d).2.2[k]? =some (fL l.2.2[k] d):=by
  show(l.2.2.map (fL · d))[k]? =_
  rw[akj,ajl hk];rfl
 unfold qR at lR⊢;rw[ajl hk]at lR;rw[e];dsimp only at lR⊢;generalize l.2.2[k]=x at*;split at lR
 .cases lR
 rename_i h1;split at lR
 .cases lR
 rename_i h2;clear lR;have n1:(fL x d).1=x.1:=rfl;rw[n1,if_neg h1,if_neg,if_neg,if_neg (show¬12<(fL x d).2.2.1.length from by show¬12<x.2.2.1.length;omega),if_neg (show¬12<(fL x d).2.2.2.1.length from by show¬12<x.2.2.2.1.length;omega)]
 .rw[Option.or_eq_none_iff,Option.or_eq_none_iff];refine⟨⟨v6,tZ fun j hj=>?_⟩,tZ fun c hc=>?_⟩
  .have hj:j<(b9 x.2.2.2.2 d).length:=hj;unfold Cz;rw[show(fL x d).2.2.2.2=b9 x.2.2.2.2 d from rfl,ajl hj];dsimp only;rw[if_neg (fun g=>g (Ol d v7 j hj))]
  .unfold Ev;rw[if_neg];rw[uM]
   exact fun g=>v8 c hc ((uM _ _ _).2 (g.mono (Vh d hp)))
 .rintro⟨g1,g2⟩
  refine v3 ⟨g1,?_⟩
  rcases g2 with g2|g2|⟨y,gy,g2⟩
  .exact .inl g2
  .exact .inr (.inl g2)
  .have gy:(l.2.2.map (fL · d))[(x.2.1:Int).toNat]? =some y:=gy;rw[akj]at gy;obtain⟨z,hz,rfl⟩:=Option.map_eq_some_iff.1 gy;exact .inr (.inr ⟨z,hz,g2⟩)
 .intro g;apply h2
  rcases g with g|g|g
  .exact .inl g
  .exact .inr (.inl ((wN (f:=fun x:xm=>kK x d) (fun _=>rfl) _).1 g))
  .refine .inr (.inr ?_);have g:fc ((l.2.2.map (fL · d)).take k) x.1:=g;rw[<-List.map_take]at g;exact(wN (f:=fun x:jq=>fL x d) (fun _=>rfl) _).1 g
theorem Valid.on{l:Lw}(h:Valid l)(d:Int):Ew (jd l d)=N6:=by
 obtain⟨a1,a2,a3,a4,a5,a6⟩:=h.scopes;unfold Ew
 have e1:cc (fun k=>(nQ (jd l d) k).map fun e=>(k,e)) (jd l d).1.length=none:=bE.2 fun k hk=>N9 (show nQ (jd l d) k=none from a4 k hk)
 have e2:cc (fun k=>(oA (jd l d) k).map fun e=>(k,e)) (jd l d).2.1.length=none:=bE.2 fun k hk=>by
  have hk:k<(l.2.1.map (kK · d)).length:=hk
  have hk:k<l.2.1.length:=by simpa using hk
  exact N9 (Og l d k hk (a5 k hk))
 have e3:cc (fun k=>(qR (jd l d) k).map fun e=>(k,e)) (jd l d).2.2.length=none:=bE.2 fun k hk=>by
  have hk:k<(l.2.2.map (fL · d)).length:=hk
  have hk:k<l.2.2.length:=by simpa using hk
  exact N9 (Om h d k hk)
 rw[if_neg (show¬8<(jd l d).1.length from by show¬8<l.1.length;omega),e1];dsimp only;rw[if_neg (show¬8<(jd l d).2.1.length from by show¬8<(l.2.1.map (kK · d)).length;simp;omega),e2];dsimp only;rw[if_neg (show¬4<(jd l d).2.2.length from by show¬4<(l.2.2.map (fL · d)).length;simp;omega),e3]
theorem ua{rules:List me}(d:Int)(hp:lD rules){y:me}(h:y∈b9 rules d):∃r∈rules,∃p:Int,y=CJ r p/\-1<=p/\p<(rules.length:Int):=by
 obtain⟨j,hj,rfl⟩:=ajG h;obtain⟨i,hk⟩:=lb d hp hj;obtain⟨p,e,OD⟩:=hk.rul;refine⟨_,ajs hk.lt,p,e,?_⟩;have h1:=jS rules d;have h2:=(mH d rules).2.1
 rcases OD with rfl|⟨q,rfl,hq,_⟩<;>omega
theorem mG.on{x:jq}(h:mG x)(d:Int)(hp:lD x.2.2.2.2):mG (fL x d):=by
 obtain⟨h1,h2,h3,h4,h5,h6,h7⟩:=h;refine⟨h1,h2,h3,?_,h5,h6,fun r hr=>?_⟩
 .show(b9 x.2.2.2.2 d).length<=60
  have g1:=jS x.2.2.2.2 d;have g2:=(mH d x.2.2.2.2).2.1;omega
 .obtain⟨r',py,p,rfl,_⟩:=ua d hp hr;exact h7 r' py
theorem lK.on{l:Lw}(h:lK l)(d:Int)(hp:∀x∈l.2.2,lD x.2.2.2.2):lK (jd l d):=by
 obtain⟨h1,h2,h3,h4,h5,h6⟩:=h;refine⟨h1,?_,?_,h4,fun t ht=>?_,fun s hs=>?_⟩
 .show(l.2.1.map (kK · d)).length<=9
  rw[ajM];exact h2
 .show(l.2.2.map (fL · d)).length<=5
  rw[ajM];exact h3
 .obtain⟨t',EU,rfl⟩:=akT.1 ht;exact h5 t' EU
 .obtain⟨s',C4,rfl⟩:=akT.1 hs;exact(h6 s' C4).on d (hp s' C4)
end L
end Go.Proofs.YtmihpkfkbfgigaaGreatDoor
end
section
open _root_.List.cons renaming injEq->ake
open _root_.List renaming length_eq_one_iff->ak3,length_map->ajM,map_cons->akv,mem_singleton->ajz
open _root_.Option renaming bind_some->aji
namespace Go.Proofs.YtmihpkfkbfgigaaGreatDoor
open Go Go.RowKit
set_option maxRecDepth 100000
set_option linter.unusedSimpArgs false
namespace L
noncomputable def qt:List aB.den:=(M.lX aE ([((3:Int),(100:Int)),((3:Int),(200:Int)),((11:Int),(0:Int))]:List aa.den)).getD []
noncomputable def pt:Lw:=(([]:List bp.den),(([]:List ay.den),qt))
theorem On:M.lX aE ([((3:Int),(100:Int)),((3:Int),(200:Int)),((11:Int),(0:Int))]:List aa.den)=some qt:=by kernel_rfl
theorem EM:M.gA aE pt 0=some (pt.1,pt.2.1.map (kK · 0),pt.2.2.map (fL · 0)):=by
 have e1:(qt.map fun x=>decide (x.1.size<=80/\x.2.2.1.length=1/\x.2.2.2.1.length=1/\x.2.2.2.2.length=1))=[true]:=by kernel_rfl
 have e2:(qt.map fun x=>x.2.2.1.map fun f=>decide (f.1.size<=80))=[[true]]:=by kernel_rfl
 have e3:(qt.map fun x=>x.2.2.2.1.map fun f=>decide (f.1.size<=80))=[[true]]:=by kernel_rfl
 have e4:(qt.map fun x=>x.2.2.2.2.map fun r=>decide (r.1.size<=80/\r.2.2.2.2.2.2.2.size<=80/\r.2.2.2.2.2.1.length<=50/\r.2.2.2.2.2.2.1.length<=50/\(r.2.2.1:Int)= -1))=[[true]]:=by kernel_rfl
 obtain⟨x,hx⟩:∃x,qt=[x]:=by
  have:=congrArg List.length e1;rw[ajM]at this;exact ak3.1 this
 have hL:pt=(([]:List bp.den),(([]:List ay.den),[x])):=by unfold pt;rw[hx]
 rw[hx]at e1 e2 e3 e4;simp only[akv,List.map_nil,ake,and_true,decide_eq_true_eq]at e1 e2 e3 e4;obtain⟨a1,a2,a3,a4⟩:=e1;obtain⟨f,hf⟩:=ak3.1 a2;obtain⟨g,hg⟩:=ak3.1 a3;obtain⟨r,hr⟩:=ak3.1 a4;rw[hf]at e2;rw[hg]at e3;rw[hr]at e4;simp only[akv,List.map_nil,ake,and_true,decide_eq_true_eq]at e2 e3 e4;obtain⟨b1,b2,b3,b4,b5⟩:=e4
 have hp:∀y∈pt.2.2,lD y.2.2.2.2:=fun y hy=>by
  rw[hL]at hy;rw[ajz.1 hy];intro i hi;rw[hr]at hi
  have e:i=0:=by simp at hi;omega
  subst e
  left
  simp only[hr,List.getElem_cons_zero];exact b5
 refine CK pt 0 ?_ ?_ hp
 .rw[hL];refine⟨fun e he=>(by cases he),fun e he=>(by cases he),fun s hs r' py=>?_,by simp,by simp,by simp,fun s hs=>?_⟩
  .rw[ajz.1 hs,hr]at py;rw[ajz.1 py];exact⟨by omega,by omega⟩
  .rw[ajz.1 hs];exact⟨by omega,by omega,by omega⟩
 .rw[hL];refine⟨by simp,by simp,by simp,fun e he=>(by cases he),fun e he=>(by cases he),fun s hs=>?_⟩;rw[ajz.1 hs];refine⟨a1,by omega,by omega,by omega,fun y hy=>?_,fun y hy=>?_,fun y hy=>?_⟩
  .rw[hf]at hy;rw[ajz.1 hy];exact e2
  .rw[hg]at hy;rw[ajz.1 hy];exact e3
  .rw[hr]at hy;rw[ajz.1 hy];exact⟨b1,b2,b3,b4⟩
noncomputable def CL:List me×List Int×List (List Ty)×List (List Ty):=((fL (qt.headD (⟨#[]⟩,((0:Int),([],([],[]))))) 0).2.2.2.2,[0],[[]],[[((3:Int),(300:Int))]])
theorem wO:M.cA aE pt 0 0=some CL:=by
 unfold M.cA;rw[EM]
 show(_:Option (List me×List Int×List (List Ty)×List (List Ty)))=_
 kernel_rfl
theorem Af:M.eA aE pt 0 0=some (qt.headD (⟨#[]⟩,((0:Int),([],([],[])))),(CL.2.1,(CL.1,(CL.2.2.1,CL.2.2.2))),[0]):=by
 unfold M.eA;rw[wO]
 kernel_rfl
theorem Oo:M.jO aE=some true:=by
 unfold M.jO;rw[On,aji];have e:(([]:List bp.den),(([]:List ay.den),qt))=pt:=rfl;rw[e];unfold M.eI M.n9;rw[wO,Af]
 show(_:Option Bool)=_
 kernel_rfl
end L
end Go.Proofs.YtmihpkfkbfgigaaGreatDoor
end
section
open _root_.Int renaming le_refl->akA,tdiv->ajE,tdiv_eq_ediv_of_nonneg->aki,toNat_natCast->ajr
open _root_.Go.IntKind renaming i64->ajj
open _root_.List renaming getElem?_append_left->ajQ,getElem?_take->ajU,getElem_mem->ajs,getElem_of_mem->ajG,length_take->ajB,take_length->ajD
open _root_.Nat renaming le_refl->ajo,zero_le->ajI
open _root_.Option renaming bind_some->aji
namespace Go.Proofs.YtmihpkfkbfgigaaGreatDoor
open Go Go.RowKit
set_option maxRecDepth 100000
set_option linter.unusedSimpArgs false
namespace L
def jr(l:List Int)(i:Nat):Int:=l.getD i 0
def par(i:Nat):Nat:=(i-1)/2
def qV(l:List Int)(n:Nat):Prop:=∀k,0<k->k<n->jr l (par k)<=jr l k
def swp(l:List Int)(i j:Nat):List Int:=(l.set i (jr l j)).set j (jr l i)
theorem pu{l:List Int}{i:Nat}(h:i<l.length):jr l i=l[i]:=by unfold jr;simp[h]
theorem Gm(l:List Int)(i k:Nat)(v:Int)(h:i<l.length):jr (l.set i v) k=if k=i then v else jr l k:=by
 unfold jr;rw[List.getD_eq_getElem?_getD,List.getD_eq_getElem?_getD,List.getElem?_set];by_cases e:k=i
 .rw[if_pos e.symm,if_pos h,if_pos e];rfl
 .rw[if_neg (fun g=>e g.symm),if_neg e]
theorem pV(l:List Int)(i j:Nat):(swp l i j).length=l.length:=by unfold swp;simp
theorem nk(l:List Int)(i j k:Nat)(hi:i<l.length)(hj:j<l.length):jr (swp l i j) k=if k=j then jr l i else if k=i then jr l j else jr l k:=by
 unfold swp;rw[Gm _ _ _ _ (by simpa using hj),Gm _ _ _ _ hi]
theorem wP(l:List Int)(i j:Nat)(hi:i<l.length)(hj:j<l.length):(swp l i j).Perm l:=by
 rw[List.perm_iff_count];intro x;unfold swp;rw[List.count_set (by simpa using hj),List.count_set hi,pu hi,pu hj,List.getElem_set]
 have h1:(if(l[i]==x)=true then 1 else 0)<=l.count x:=by
  split
  .rename_i h;exact List.count_pos_iff.2 (by rw[beq_iff_eq]at h;rw[<-h];exact ajs hi)
  .exact ajI _
 by_cases e:i=j
 .subst e;simp only[if_true];omega
 .rw[if_neg e];omega
theorem swap_eq(l:List Int)(i j:Nat)(hi:i<l.length)(hj:j<l.length):M.cI aE (i:Int) (j:Int) l=some (swp l i j):=by
 unfold M.cI;simp only[ah hi,ah hj,aji];rw[ah (show j<(aQ l (i:Int) l[j]).length by unfold aQ;simpa using hj),aji];unfold swp aQ;rw[pu hi,pu hj,ajr,ajr]
theorem Ag(l:List Int)(i j:Nat)(hi:i<l.length)(hj:j<l.length):M.dw aE l (i:Int) (j:Int)=some (decide (jr l i<jr l j)):=by
 unfold M.dw;rw[ah hi,ah hj,pu hi,pu hj];rfl
def Rs(l:List Int)(j:Nat):Prop:=(∀k,0<k->k<l.length->k≠j->jr l (par k)<=jr l k)/\(0<j->∀k,0<k->k<l.length->par k=j->jr l (par j)<=jr l k)
theorem lc{k:Nat}(h:0<k):par k<k:=by unfold par;omega
theorem Rs.done{l:List Int}{i:Nat}(h:Rs l i)(hi:i=0\/jr l (par i)<=jr l i):qV l l.length:=fun k h0 hk=>by
 by_cases e:k=i
 .subst e
  rcases hi with hi|hi
  .omega
  .exact hi
 .exact h.1 k h0 hk e
theorem Rs.step{l:List Int}{i:Nat}(h:Rs l i)(h0:0<i)(hi:i<l.length)(ao:jr l i<jr l (par i)):Rs (swp l (par i) i) (par i):=by
 have hp:=lc h0
 have qy:par i<l.length:=by omega
 obtain⟨h1,h2⟩:=h;have h2:=h2 h0;refine⟨fun k k0 hk bP=>?_,fun p0 k k0 hk sM=>?_⟩
 .rw[pV]at hk;rw[nk _ _ _ _ qy hi,nk _ _ _ _ qy hi];have sM:=lc k0;by_cases e:k=i
  .subst e;rw[if_neg (by omega),if_pos rfl,if_pos rfl];omega
  .rw[if_neg e,if_neg bP];by_cases e2:par k=i
   .rw[if_pos e2];exact h2 k k0 hk e2
   .rw[if_neg e2];by_cases e3:par k=par i
    .rw[if_pos e3];have:=h1 k k0 hk e;rw[e3]at this;omega
    .rw[if_neg e3];exact h1 k k0 hk e
 .rw[pV]at hk;rw[nk _ _ _ _ qy hi,nk _ _ _ _ qy hi];have OD:=lc p0;have Xd:=h1 (par i) p0 qy (by omega);rw[if_neg (by omega),if_neg (by omega)];by_cases e:k=i
  .subst e;rw[if_pos rfl];exact Xd
  .have V9:k≠par i:=fun e2=>by
    rw[e2]at sM;omega
   rw[if_neg e,if_neg V9];have:=h1 k k0 hk e;rw[sM]at this;omega
theorem Rt{i:Nat}(h0:0<i)(hi:i<=1000000):ajj.wrap (ajE (ajj.wrap ((i:Int)-(1:Int))) (2:Int))=((par i:Nat):Int):=by
 rw[aM (n:=(i:Int)-1) (by omega) (by omega),aki (by omega)];unfold par;rw[aM (by omega) (by omega)];omega
theorem Vi(l:List Int)(j:Nat)(hj:j<l.length)(hl:l.length<=1000000)(hU:Rs l j):Wp (M.fu aE (j:Int) l) fun r=>r.Perm l/\qV r r.length:=by
 unfold M.fu
 refine Wp.loop (fun s=>∃i:Nat,s.1=(i:Int)/\i<s.2.length/\s.2.Perm l/\Rs s.2 i) (fun s=>s.1.toNat) ⟨j,rfl,hj, .refl l,hU⟩ (by show(j:Int).toNat<aE;unfold aE;omega) fun s hs=>?_
 obtain⟨c,q⟩:=s;obtain⟨i,hc,hi,hp,hu⟩:=hs;dsimp only at hc hi hp hu;subst hc;have hlen:=hp.length_eq;dsimp only;by_cases h0:i=0
 .subst h0
  have e:ajj.wrap (ajE (ajj.wrap (((0:Nat):Int)-(1:Int))) (2:Int))=((0:Nat):Int):=by decide
  rw[e,if_pos (decide_eq_true rfl),aji,if_pos rfl];exact .some ⟨hp,hu.done (.inl rfl)⟩
 .have qy:=lc (show 0<i by omega);rw[Rt (by omega) (by omega),if_neg (by rw[decide_eq_true_eq];omega),Ag _ _ _ hi (by omega),aji,aji];by_cases ao:jr q i<jr q (par i)
  .rw[if_neg (by simpa using ao),swap_eq _ _ _ (by omega) hi,aji];refine .some ⟨⟨par i,rfl,by show par i<(swp q (par i) i).length;rw[pV];omega,(wP q _ _ (by omega) hi).trans hp,hu.step (by omega) hi ao⟩,?_⟩
   show((par i:Nat):Int).toNat<((i:Nat):Int).toNat
   omega
  .rw[if_pos (by simpa using ao)];exact .some ⟨hp,hu.done (.inr (by omega))⟩
def Po(l:List Int)(i n:Nat):Prop:=(∀k,0<k->k<n->par k≠i->jr l (par k)<=jr l k)/\(0<i->∀k,0<k->k<n->par k=i->jr l (par i)<=jr l k)
theorem Po.done{l:List Int}{i n:Nat}(h:Po l i n)(hi:∀k,0<k->k<n->par k=i->jr l i<=jr l k):qV l n:=fun k h0 hk=>by
 by_cases e:par k=i
 .rw[e];exact hi k h0 hk e
 .exact h.1 k h0 hk e
theorem Po.step{l:List Int}{i j n:Nat}(h:Po l i n)(hj0:0<j)(hjn:j<n)(hn:n<=l.length)(Vj:par j=i)(ao:jr l j<jr l i)(EN:∀k,0<k->k<n->par k=i->jr l j<=jr l k):Po (swp l i j) j n:=by
 have hp:=lc hj0
 have Am:i<l.length:=by omega
 have Ai:j<l.length:=by omega
 obtain⟨h1,h2⟩:=h;refine⟨fun k k0 hk bP=>?_,fun _ k k0 hk sM=>?_⟩
 .rw[nk _ _ _ _ Am Ai,nk _ _ _ _ Am Ai,if_neg bP];by_cases e:k=j
  .subst e;rw[if_pos Vj,if_pos rfl];omega
  .rw[if_neg e];by_cases e2:k=i
   .subst e2;have sM:=lc k0;rw[if_neg (by omega),if_pos rfl];exact h2 k0 j hj0 hjn Vj
   .rw[if_neg e2];by_cases e3:par k=i
    .rw[if_pos e3];exact EN k k0 hk e3
    .rw[if_neg e3];exact h1 k k0 hk e3
 .have V9:=lc k0;rw[nk _ _ _ _ Am Ai,nk _ _ _ _ Am Ai,Vj,if_neg (by omega),if_pos rfl,if_neg (by omega),if_neg (by omega)];have:=h1 k k0 hk (by omega);rw[sM]at this;exact this
theorem Oq(l:List Int)(n:Nat)(hn:n<=l.length)(hl:l.length<=1000000)(hD:Po l 0 n):Wp (M.eC aE (0:Int) (n:Int) l) fun r=>r.2.Perm l/\qV r.2 n/\∀k,n<=k->jr r.2 k=jr l k:=by
 unfold M.eC;rw[wp_bind]
 refine(?_:Wp _ fun r=>r.2.Perm l/\qV r.2 n/\∀k,n<=k->jr r.2 k=jr l k).mono fun r hr=> .some hr
 refine Wp.loop (fun s=>∃i:Nat,s.1=(i:Int)/\i<=n/\s.2.Perm l/\Po s.2 i n/\∀k,n<=k->jr s.2 k=jr l k) (fun s=>n-s.1.toNat) ⟨0,rfl,ajI _, .refl l,hD,fun _ _=>rfl⟩ (by show n-_<aE;unfold aE;omega) fun s hs=>?_
 obtain⟨c,q⟩:=s;obtain⟨i,hc,hi,hp,hu,hk⟩:=hs;dsimp only at hc hi hp hu hk;subst hc;have hlen:=hp.length_eq;dsimp only
 have e1:ajj.wrap (ajj.wrap ((2:Int)*(i:Int))+(1:Int))=((2*i+1:Nat):Int):=by
  rw[aM (n:=(2:Int)*(i:Int)) (by omega) (by omega),aM (by omega) (by omega)];omega
 have e2:ajj.wrap (((2*i+1:Nat):Int)+(1:Int))=((2*i+2:Nat):Int):=by
  rw[aM (by omega) (by omega)];omega
 rw[e1,e2];by_cases h1:n<=2*i+1
 .rw[if_pos (by rw[decide_eq_true_eq];omega),aji,if_pos rfl];exact .some ⟨hp,hu.done fun k k0 zj sM=>by unfold par at sM;omega,hk⟩
 rw[if_neg (by rw[decide_eq_true_eq];omega),aji,if_neg (by rw[decide_eq_true_eq];omega)]
 have key:∀j:Nat,0<j->j<n->par j=i->(∀k,0<k->k<n->par k=i->jr q j<=jr q k)->Wp ((M.dw aE q (j:Int) (i:Int)).bind fun y7=>
  (if(!y7)=true then
  some (Sum.inr ((i:Int),q))
  else
  (M.cI aE (i:Int) (j:Int) q).bind fun y8=>
  some (Sum.inl ((j:Int),y8)))) (vX (fun s:Int×List Int=>∃i:Nat,s.1=(i:Int)/\i<=n/\s.2.Perm l/\Po s.2 i n/\∀k,n<=k->jr s.2 k=jr l k) (fun s=>n-s.1.toNat) ((i:Int),q) fun r:Int×List Int=>r.2.Perm l/\qV r.2 n/\∀k,n<=k->jr r.2 k=jr l k):=fun j j0 hj Vj EN=>by
  have:=lc j0;rw[Ag _ _ _ (by omega) (by omega),aji];by_cases ao:jr q j<jr q i
  .rw[if_neg (by simpa using ao),swap_eq _ _ _ (by omega) (by omega),aji];refine .some ⟨⟨j,rfl,by omega,(wP q _ _ (by omega) (by omega)).trans hp,hu.step j0 hj (by omega) Vj ao EN,fun k zj=>?_⟩,?_⟩
   .show jr (swp q i j) k=jr l k
    rw[nk _ _ _ _ (by omega) (by omega),if_neg (by omega),if_neg (by omega)];exact hk k zj
   .show n-((j:Nat):Int).toNat<n-((i:Nat):Int).toNat
    omega
  .rw[if_pos (by simpa using ao)];exact .some ⟨hp,hu.done fun k k0 zj sM=>by have:=EN k k0 zj sM;omega,hk⟩
 have kids:∀k,0<k->k<n->par k=i->k=2*i+1\/k=2*i+2:=fun k k0 _ sM=>by unfold par at sM;omega
 by_cases h2:2*i+2<n
 .rw[if_pos (by rw[decide_eq_true_eq];omega),Ag _ _ _ (by omega) (by omega),aji,aji];by_cases ao:jr q (2*i+2)<jr q (2*i+1)
  .rw[if_pos (by simpa using ao),aji]
   exact key _ (by omega) h2 (by unfold par;omega) fun k k0 zj sM=>by rcases kids k k0 zj sM with rfl|rfl<;>omega
  .rw[if_neg (by simpa using ao),aji]
   exact key _ (by omega) (by omega) (by unfold par;omega) fun k k0 zj sM=>by rcases kids k k0 zj sM with rfl|rfl<;>omega
 .rw[if_neg (by rw[decide_eq_true_eq];omega),aji,if_neg (by decide),aji]
  exact key _ (by omega) (by omega) (by unfold par;omega) fun k k0 zj sM=>by
   rcases kids k k0 zj sM with rfl|rfl
   .exact akA _
   .omega
theorem Gn(x:Int)(l:List Int)(hl:l.length<=999999)(hH:qV l l.length):Wp (M.cO aE x l) fun r=>r.Perm (x::l)/\qV r r.length:=by
 unfold M.cO M.ir M.dK;rw[bL (by simp;omega)];simp only[aji]
 have e:ajj.wrap (((l++[x]).length:Int)-(1:Int))=((l.length:Nat):Int):=by
  rw[aM (by simp) (by simp;omega)];simp
 rw[e,wp_bind]
 have GN:∀k,k<l.length->jr (l++[x]) k=jr l k:=fun k hk=>by unfold jr;simp[ajQ hk]
 refine(Vi (l++[x]) l.length (by simp) (by simp;omega) ⟨fun k k0 hk bP=>?_,fun h0 k k0 hk sM=>?_⟩).mono fun r hr=> .some ⟨hr.1.trans (List.perm_append_singleton x l),hr.2⟩
 .have dO:k<l.length:=by simp at hk;omega
  have:=lc k0;rw[GN _ dO,GN _ (by omega)];exact hH k k0 dO
 .have:=lc k0;simp at hk;omega
theorem qV.min{l:List Int}{n:Nat}(h:qV l n):∀k,k<n->jr l 0<=jr l k:=fun k=>by
 induction k using Nat.strongRecOn with
 |_ k ih=>
  intro hk;by_cases h0:k=0
  .subst h0;exact akA _
  .have hp:=lc (show 0<k by omega);have:=ih (par k) hp (by omega);have:=h k (by omega) hk;omega
theorem Ru(l:List Int)(h0:0<l.length)(hl:l.length<=1000000)(hH:qV l l.length):Wp (M.eY aE l) fun r=>l.Perm (r.1::r.2)/\qV r.2 r.2.length/\∀y∈r.2,r.1<=y:=by
 unfold M.eY M.dK
 obtain⟨n,hn⟩:∃n,l.length=n+1:=⟨l.length-1,by omega⟩
 have e:ajj.wrap ((l.length:Int)-(1:Int))=((n:Nat):Int):=by rw[aM (by omega) (by omega)];omega
 rw[aji,e];have sw:=swap_eq l 0 n (by omega) (by omega);rw[show((0:Nat):Int)=(0:Int)from rfl]at sw;rw[sw,aji,wp_bind]
 have hs:=fun k=>nk l 0 n k (by omega) (by omega)
 refine(Oq (swp l 0 n) n (by rw[pV];omega) (by rw[pV];omega) ⟨fun k k0 hk bP=>?_,fun h=>by omega⟩).mono fun r hr=>?_
 .have:=lc k0;rw[hs,hs,if_neg (by omega),if_neg bP,if_neg (by omega),if_neg (by omega)];exact hH k k0 (by omega)
 .obtain⟨b,q⟩:=r;obtain⟨h1,h2,h3⟩:=hr;dsimp only at h1 h2 h3⊢
  have hq:q.length=n+1:=by rw[h1.length_eq,pV];exact hn
  have e2:ajj.wrap ((q.length:Int)-(1:Int))=((n:Nat):Int):=by rw[aM (by omega) (by omega)];omega
  have hqn:q[n]'(by omega)=jr l 0:=by
   rw[<-pu (l:=q) (by omega),h3 n (ajo _),hs];by_cases e0:n=0
   .rw[if_pos rfl]
   .rw[if_pos rfl]
  unfold M.k6;rw[e2,ah (by omega),aji,fW (by omega),aji,aji]
  have Pp:l.Perm (q[n]'(by omega)::q.take n):=by
   have e3:q=q.take n++[q[n]'(by omega)]:=by
    rw[List.take_append_getElem (by omega),<-hq,ajD]
   refine((wP l 0 n (by omega) (by omega)).symm.trans h1.symm).trans ?_;have:(q.take n++[q[n]'(by omega)]).Perm (q[n]'(by omega)::q.take n):=List.perm_append_singleton _ _;rw[<-e3]at this;exact this
  refine .some ⟨Pp,fun k k0 hk=>?_,fun y hy=>?_⟩
  .have ht:(q.take n).length=n:=by rw[ajB];omega
   have hk:k<n:=by rw[<-ht];exact hk
   have sM:=lc k0
   have tk:∀i,i<n->jr (q.take n) i=jr q i:=fun i hi=>by unfold jr;simp[ajU,hi]
   show jr (q.take n) (par k)<=jr (q.take n) k
   rw[tk _ hk,tk _ (by omega)];exact h2 k k0 hk
  .show q[n]'(by omega)<=y
   rw[hqn];have:y∈l:=Pp.symm.subset (List.mem_cons_of_mem _ hy);obtain⟨k,hk,rfl⟩:=ajG this;rw[<-pu hk];exact hH.min k hk
end L
end Go.Proofs.YtmihpkfkbfgigaaGreatDoor
end
section
open _root_.Classical renaming byContradiction->akP
open _root_.Int renaming eq_ofNat_of_zero_le->ajC,le_refl->akA,toNat_natCast->ajr,toNat_of_nonneg->akw
open _root_.Go.IntKind renaming i64->ajj
open _root_.List renaming countP_eq_zero->alb,drop_eq_getElem_cons->ajX,getElem_append_left->ajv,getElem_append_right->ajA,getElem_mem->ajs,getElem_of_mem->ajG,length_append->ajm,length_cons->ajy,length_eq_zero_iff->akn,length_set->akN,mem_append->ajL,mem_cons->ajJ,mem_map->akT,mem_singleton->ajz,pairwise_cons->akF,take_append_of_le_length->ajK,take_length->ajD
open _root_.Nat renaming add_zero->akm,le_refl->ajo,zero_le->ajI
open _root_.Option renaming bind_some->aji
open _root_.Option.some renaming inj->ajk
namespace Go.Proofs.YtmihpkfkbfgigaaGreatDoor
open Go Go.RowKit
set_option maxRecDepth 100000
set_option linter.unusedSimpArgs false
set_option linter.unusedVariables false
namespace L
def L4(s:jq)(p:List Int)(d:Int):Prop:=(0<=d/\d<(s.2.2.2.1.length:Int))/\d∉p/\∀y,Dp s d y->y∈p
def p4(s:jq)(o:List Int):Prop:=∀k,∀h:k<o.length,L4 s (o.take k) o[k]/\∀d,L4 s (o.take k) d->o[k]<=d
theorem p4.snoc{s:jq}{o:List Int}{x:Int}(h:p4 s o)(hx:L4 s o x)(hm:∀d,L4 s o d->x<=d):p4 s (o++[x]):=fun k hk=>by
 by_cases e:k<o.length
 .have:=h k e;rw[ajv e,ajK (by omega)];exact this
 .have e:k=o.length:=by simp at hk;omega
  subst e;rw[ajA (ajo _),List.take_left']
  .simpa using⟨hx,hm⟩
  .rfl
theorem p4.mem{s:jq}{o:List Int}(h:p4 s o){x:Int}(hx:x∈o):(0<=x/\x<(s.2.2.2.1.length:Int))/\∀y,Dp s x y->y∈o:=by
 obtain⟨k,hk,rfl⟩:=ajG hx;obtain⟨h1,_⟩:=h k hk;exact⟨h1.1,fun y hy=>List.mem_of_mem_take (h1.2.2 y hy)⟩
theorem p4.nodup{s:jq}{o:List Int}(h:p4 s o):o.Nodup:=by
 rw[List.nodup_iff_pairwise_ne,List.pairwise_iff_getElem];intro i j hi hj MP e;refine(h j hj).1.2.1 ?_;rw[<-e];rw[List.mem_take_iff_getElem];exact⟨i,by omega,rfl⟩
theorem r7{n:Nat}{l:List Int}(hn:l.Nodup)(h:∀x∈l,0<=x/\x<(n:Int)):l.length<=n:=by
 have:=pU (m:=(List.range n).map fun k:Nat=>(k:Int)) hn fun y hy=>by
  obtain⟨a,b⟩:=h y hy;exact akT.2 ⟨y.toNat,List.mem_range.2 (by omega),by omega⟩
 simpa using this
theorem p4.len{s:jq}{o:List Int}(h:p4 s o):o.length<=s.2.2.2.1.length:=r7 h.nodup fun x hx=>(h.mem hx).1
theorem Pq{α:Type}{l:List α}{i:Int}(h:0<=i):idx l i=l[i.toNat]? :=by unfold idx;rw[if_pos h]
theorem CM{α:Type}(l:List α)(i:Int)(v:α)(u:Nat)(hi:i.toNat<l.length):(aQ l i v)[u]? =if u=i.toNat then some v else l[u]? :=by
 unfold aQ;rw[List.getElem?_set];by_cases e:u=i.toNat
 .rw[if_pos e.symm,if_pos hi,if_pos e]
 .rw[if_neg (fun g=>e g.symm),if_neg e]
structure L5(L:List (List Int))(n k:Nat)(U:List (List Int))(W H:List Int):Prop where
 ul:U.length=n
 wl:W.length=n
 u:∀e,∀h:e<U.length,U[e].length<=6000*k/\∀u:Int,U[e].count u=if 0<=u/\u<(k:Int)then(L.getD u.toNat []).count (e:Int)else 0
 w:∀u,u<k->W[u]? =some ((L.getD u []).length:Int)
 hp:qV H H.length
 nd:H.Nodup
 h:∀u:Int,u∈H↔(0<=u/\u<(k:Int))/\L.getD u.toNat []=[]
theorem L5.hl{L:List (List Int)}{n k:Nat}{U:List (List Int)}{W H:List Int}(h:L5 L n k U W H):H.length<=k:=r7 h.nd fun x hx=>((h.h x).1 hx).1
structure abS(s:jq)(L:List (List Int))(n:Nat)(W O H:List Int):Prop where
 wl:W.length=n
 o:p4 s O
 w:∀u,u<n->W[u]? =some (((L.getD u []).countP fun y=>decide (y∉O):Nat):Int)
 hp:qV H H.length
 nd:H.Nodup
 h:∀u:Int,u∈H↔L4 s O u
structure Vk(s:jq)(L:List (List Int))(n:Nat)(O l:List Int)(W H:List Int):Prop where
 wl:W.length=n
 w:∀u,u<n->W[u]? =some (((L.getD u []).countP (fun y=>decide (y∉O))+l.count (u:Int):Nat):Int)
 hp:qV H H.length
 nd:H.Nodup
 h:∀u:Int,u∈H↔(0<=u/\u<(n:Int))/\u∉O/\W[u.toNat]? =some 0
theorem Vk.hl{s:jq}{L:List (List Int)}{n:Nat}{O l W H:List Int}(h:Vk s L n O l W H):H.length<=n:=r7 h.nd fun x hx=>((h.h x).1 hx).1
theorem getD_some{L:List (List Int)}{u:Nat}(h:u<L.length):L.getD u []=L[u]:=by simp[h]
theorem CN(l O:List Int)(x:Int)(hx:x∉O):l.countP (fun y=>decide (y∉O))=l.countP (fun y=>decide (y∉O++[x]))+l.count x:=by
 induction l with
 |nil=>rfl
 |cons y l ih=>
  rw[List.countP_cons,List.countP_cons,List.count_cons,ih];by_cases e:y=x
  .subst e;simp[hx];omega
  .by_cases h:y∈O
   .simp[h,e]
   .simp[h,e];omega
theorem L6(l:List Int)(d n:Nat)(U:List (List Int))(hU:U.length=n)(hl:l.length<=6000)(hr:∀y∈l,0<=y/\y<(n:Int))(hb:∀e,∀h:e<U.length,U[e].length<=100000):Wp (Loop (S:=Int×List (List Int)) (X:=List (List Int)) (fun pQ=>
 (if(decide (pQ.1<(l.length:Int)))=true then
 (idx l pQ.1).bind fun sa=>
 (idx pQ.2 sa).bind fun Ea=>
 (idx pQ.2 sa).bind fun KP=>
 (bZ KP ([(d:Int)]:List Int)).bind fun YS=>
 (idx pQ.2 sa).bind fun CX=>
 (if decide (sa=sa)=true then
 (idx pQ.2 sa).bind fun Ql=>
 some (Sum.inl (ajj.wrap (pQ.1+(1:Int)),oK pQ.2 sa (fun YL=>YS)))
 else none)
 else
 some (Sum.inr pQ.2))) aE ((0:Int),U)) fun V=>V.length=n/\∀e,∀h:e<V.length,∀h':e<U.length,V[e].length<=U[e].length+l.length/\∀u:Int,V[e].count u=U[e].count u+if u=(d:Int)then l.count (e:Int)else 0:=by
 refine Wp.count (fun s=>s.1) l.length (fun k s=>s.2.length=n/\∀e,∀h:e<s.2.length,∀h':e<U.length,s.2[e].length<=U[e].length+k/\∀u:Int,s.2[e].count u=U[e].count u+if u=(d:Int)then(l.take k).count (e:Int)else 0) (by omega) rfl ⟨hU,fun e h h'=>⟨ajo _,fun u=>by simp⟩⟩ fun k s hk hs hJ=>?_
 obtain⟨i,V⟩:=s;obtain⟨hV,hJ⟩:=hJ;dsimp only at hs hV hJ;subst hs;simp only[W_,implies_true,forall_const,reduceCtorEq,aY,aP];refine⟨fun ao=>?_,fun hge=>?_⟩
 .have ao:k<l.length:=by omega
  obtain⟨a0,a1⟩:=hr _ (ajs ao);obtain⟨x,hx⟩:=ajC a0
  have hxV:x<V.length:=by omega
  simp only[ah ao,hx,ah hxV,de (m:=l.length) (by omega) ao,W_,implies_true,forall_const,reduceCtorEq];have hbx:=(hJ x hxV (by omega)).1;have:=hb x (by omega);refine nf.2 ⟨by simp;omega,trivial |> fun _=>⟨ao,by rw[gZ];exact hV,fun e h h'=>?_⟩⟩
  have he:e<V.length:=by rw[gZ]at h;exact h
  have JI:l.take (k+1)=l.take k++[l[k]]:=(List.take_append_getElem ao).symm;rw[uE h he,JI,hx]
  by_cases e0:(x:Int)=(e:Int)
  .rw[if_pos e0]
   have e0:x=e:=by omega
   subst e0;refine⟨by rw[ajm];simp;omega,fun u=>?_⟩;rw[List.count_append,(hJ x he (by omega)).2,List.count_append]
   by_cases eu:u=(d:Int)
   .rw[if_pos eu,if_pos eu,eu];simp;omega
   .rw[if_neg eu,if_neg eu];have:List.count u [(d:Int)]=0:=List.count_eq_zero.2 (by simpa using eu);omega
  .rw[if_neg e0];refine⟨by have:=(hJ e he h').1;omega,fun u=>?_⟩;rw[(hJ e he h').2,List.count_append];have:List.count (e:Int) [(x:Int)]=0:=List.count_eq_zero.2 (by simp;omega);rw[this];rfl
 .obtain rfl:k=l.length:=by omega
  rw[ajD]at hJ;exact⟨hV,hJ⟩
theorem Ot(s:jq)(L:List (List Int))(n:Nat)(O l W H:List Int)(x:Int)(hn:n<=14)(Ah:l.length<=100000)(hL:∀u,(L.getD u []).length<=6000)(hI:Vk s L n O l W H)
 (hl:∀u∈l,(0<=u/\u<(n:Int))/\u∉O)(Q:((List Int×List Int×List Int)⊕(List Int×List Int))->Prop)(hQ:∀W' H',Vk s L n O [] W' H'->Q (.inl (W',O,H'))):Wp (Loop (S:=Int×(List Int)×List Int) (X:=((List Int)×(List Int)×List Int)⊕((List Int)×List Int)) (fun ui=>
   (if(decide (ui.1<(l.length:Int)))=true then
   ((idx l ui.1).bind fun BQ=>
   (idx ui.2.1 BQ).bind fun QB=>
   (idx ui.2.1 BQ).bind fun x32=>
   (idx (aQ ui.2.1 BQ (ajj.wrap (QB-(1:Int)))) BQ).bind fun Mi=>
   (if(decide (Mi=(0:Int)))=true then
   (M.cO aE BQ ui.2.2).bind fun YU=>
   some (aQ ui.2.1 BQ (ajj.wrap (QB-(1:Int))),YU)
   else
   some (aQ ui.2.1 BQ (ajj.wrap (QB-(1:Int))),ui.2.2)):Option ((List Int)×List Int)).bind fun Uh=>
   some (Sum.inl (ajj.wrap (ui.1+(1:Int)),Uh.1,Uh.2))
   else
   some (Sum.inr (Sum.inl (ui.2.1,O,ui.2.2))))) aE ((0:Int),W,H)) Q:=by
 refine Wp.count (fun s=>s.1) l.length (fun k z=>Vk s L n O (l.drop k) z.2.1 z.2.2) (by omega) rfl hI fun k z hk hs hJ=>?_
 obtain⟨i,V,G⟩:=z;dsimp only at hs hJ;subst hs
 refine Wp.dec (fun ao=>?_) fun hge=>?_
 .have ao:k<l.length:=by dsimp only at ao;omega
  obtain⟨⟨a0,a1⟩,a2⟩:=hl _ (ajs ao);have jE:l.drop k=l[k]::l.drop (k+1):=ajX ao;obtain⟨u,hu⟩:=ajC a0;rw[hu]at a1 a2 jE
  have wQ:u<n:=by omega
  have hVl:=hJ.wl;have hw:=hJ.w u wQ;rw[jE,List.count_cons_self]at hw
  obtain⟨a,ha⟩:∃a,a=(L.getD u []).countP (fun y=>decide (y∉O)):=⟨_,rfl⟩
  obtain⟨b,hb⟩:∃b,b=(l.drop (k+1)).count (u:Int):=⟨_,rfl⟩
  have vg:a<=6000:=by rw[ha];exact Nat.le_trans List.countP_le_length (hL u)
  have C7:b<=100000:=by rw[hb];exact Nat.le_trans List.count_le_length (by rw[List.length_drop];omega)
  rw[<-ha,<-hb]at hw
  have iw:idx V (u:Int)=some ((a+(b+1):Nat):Int):=by rw[Pq (by omega)];exact hw
  have ew:ajj.wrap (((a+(b+1):Nat):Int)-(1:Int))=((a+b:Nat):Int):=by rw[aM (by omega) (by omega)];omega
  have iv:idx (aQ V (u:Int) ((a+b:Nat):Int)) (u:Int)=some ((a+b:Nat):Int):=by
   rw[Pq (by omega),CM _ _ _ _ (by omega),if_pos rfl]
  dsimp only;rw[ah ao,hu,aji,iw,aji,aji,ew,iv,aji]
  have w':∀v,v<n->(aQ V (u:Int) ((a+b:Nat):Int))[v]? =some (((L.getD v []).countP (fun y=>decide (y∉O))+(l.drop (k+1)).count (v:Int):Nat):Int):=fun v hv=>by
   rw[CM _ _ _ _ (by omega)];by_cases e:v=u
   .subst e;rw[if_pos (by omega),<-ha,<-hb]
   .rw[if_neg (by omega),hJ.w v hv,jE,List.count_cons_of_ne (by omega)]
  have nH:(u:Int)∉G:=fun g=>by
   have:=((hJ.h _).1 g).2.2;rw[ajr,hw]at this;cases this
  have hGl:=hJ.hl;by_cases e0:a+b=0
  .rw[if_pos (by rw[decide_eq_true_eq];omega),wp_bind,wp_bind]
   refine(Gn _ _ (by omega) hJ.hp).mono fun r hr=> .some (.some ⟨ao,?_,?_⟩)
   .exact de (m:=l.length) (by omega) ao
   .refine⟨by show(aQ V _ _).length=n;unfold aQ;rw[akN];exact hVl,w',hr.2,hr.1.nodup_iff.2 (List.nodup_cons.2 ⟨nH,hJ.nd⟩),fun v=>?_⟩
    show v∈r↔_/\_/\(aQ V _ _)[v.toNat]? =some 0
    rw[hr.1.mem_iff,ajJ,CM _ _ _ _ (by omega),hJ.h v]
    by_cases e:v=(u:Int)
    .subst e;rw[if_pos rfl];exact⟨fun _=>⟨⟨by omega,a1⟩,a2,by rw[e0];rfl⟩,fun _=> .inl rfl⟩
    .constructor
     .rintro(h|⟨h1,h2,h3⟩)
      .exact absurd h e
      .rw[if_neg (by omega)];exact⟨h1,h2,h3⟩
     .rintro⟨h1,h2,h3⟩
      rw[if_neg (by omega)]at h3;exact .inr ⟨h1,h2,h3⟩
  .rw[if_neg (by rw[decide_eq_true_eq];omega),aji];refine .some ⟨ao,?_,?_⟩
   .exact de (m:=l.length) (by omega) ao
   .refine⟨by show(aQ V _ _).length=n;unfold aQ;rw[akN];exact hVl,w',hJ.hp,hJ.nd,fun v=>?_⟩
    show v∈G↔_/\_/\(aQ V _ _)[v.toNat]? =some 0
    rw[CM _ _ _ _ (by omega),hJ.h v]
    by_cases e:v=(u:Int)
    .subst e;rw[if_pos rfl];refine⟨fun h=>absurd ((hJ.h _).2 h) nH,fun h=>?_⟩;have:=ajk h.2.2;omega
    .constructor
     .rintro⟨h1,h2,h3⟩
      rw[if_neg (by omega)];exact⟨h1,h2,h3⟩
     .rintro⟨h1,h2,h3⟩
      rw[if_neg (by omega)]at h3;exact⟨h1,h2,h3⟩
 .have hge:k=l.length:=by dsimp only at hge;omega
  subst hge;rw[List.drop_length]at hJ;exact .some (hQ _ _ hJ)
theorem L7(s:jq)(hs:mG s):Wp (M.dl aE s) fun r=>∃o,p4 s o/\(∀d,¬L4 s o d)/\r=if o.length<s.2.2.2.1.length then((9:Int),([]:List Int))else((0:Int),o):=by
 have K6:=hs.2.2.1;unfold M.dl
 refine Wp.seq (Rn s) ?_ fun L hL=>?_
 .have e:M.kj aE s=M.im aE s:=rfl;rw[e,wp_bind]
  exact(rY s hs).mono fun L hL=> .some hL
 obtain⟨hLl,hL⟩:=hL
 have Vm:∀a b,Dp s a b->0<=b/\b<(s.2.2.2.1.length:Int):=fun a b h=>(mF s a).2 b h
 have hLq:∀u,(L.getD u []).length<=6000:=fun u=>by
  by_cases h:u<L.length
  .rw[getD_some h];exact(hL u h).1
  .rw[List.getD_eq_getElem?_getD,List.getElem?_eq_none (by omega)];exact ajI _
 have IY:∀u:Nat,u<s.2.2.2.1.length->∀y,y∈L.getD u []↔Dp s (u:Int) y:=fun u hu y=>by
  rw[getD_some (by omega)];exact(hL u (by omega)).2 y
 obtain⟨n,hn⟩:∃n,n=s.2.2.2.1.length:=⟨_,rfl⟩
 rw[<-hn]at K6 hLl Vm IY⊢;rw[wp_bind];refine vY.2 ⟨by omega,?_⟩;rw[wp_bind];refine vY.2 ⟨by omega,?_⟩;rw[ajr,hLl]
 refine Wp.seq (fun z=>L5 L n n z.1 z.2.1 z.2.2) ?_ fun z hz=>?_
 .rw[wp_bind]
  refine Wp.mono (Q:=fun z=>L5 L n n z.1 z.2.1 z.2.2) ?_ fun z hz=> .some hz
  refine Wp.count (fun z=>z.1) n (fun k z=>L5 L n k z.2.1 z.2.2.1 z.2.2.2) (by omega) rfl ⟨by simp,by simp,fun e h=>⟨by simp,fun u=>?_⟩,fun u hu=>by omega,fun k h0 h1=>(by cases h1),List.nodup_nil,fun u=>?_⟩ fun k z hk hz hJ=>?_
  .rw[if_neg (by omega)];simp
  .exact⟨fun h=>(by cases h),fun h=>by omega⟩
  obtain⟨i,U,W,H⟩:=z;dsimp only at hz hJ;subst hz
  refine Wp.dec (fun ao=>?_) fun hge=>?_
  .have ao:k<n:=by dsimp only at ao;omega
   have Pr:k<L.length:=by omega
   have hUl:=hJ.ul;have hWl:=hJ.wl;dsimp only;rw[ah Pr,aji,ah (show k<W.length by omega),aji,wp_bind,wp_bind,wp_bind];have hHl:=hJ.hl
   refine(L6 L[k] k n U hUl (hL k Pr).1 (fun y hy=>Vm _ _ (((hL k Pr).2 y).1 hy)) fun e h=>by have:=(hJ.u e h).1;omega).mono fun V hV=>?_
   have uu:∀e,∀h:e<V.length,V[e].length<=6000*(k+1)/\∀u:Int,V[e].count u=if 0<=u/\u<((k+1:Nat):Int)then(L.getD u.toNat []).count (e:Int)else 0:=fun e h=>by
    have hV1:=hV.1;obtain⟨g1,g2⟩:=hV.2 e h (by omega);obtain⟨f1,f2⟩:=hJ.u e (by omega);have:=(hL k Pr).1;refine⟨by omega,fun u=>?_⟩;rw[g2,f2]
    by_cases eu:u=(k:Int)
    .subst eu;rw[if_neg (by omega),if_pos rfl,if_pos (by omega),ajr,getD_some Pr];omega
    .rw[if_neg eu];by_cases h1:0<=u/\u<(k:Int)
     .rw[if_pos h1,if_pos (by omega)];rfl
     .rw[if_neg h1,if_neg (by omega)]
   have ww:∀u,u<k+1->(aQ W (k:Int) (L[k].length:Int))[u]? =some ((L.getD u []).length:Int):=fun u hu=>by
    rw[CM _ _ _ _ (by omega)];by_cases e:u=k
    .subst e;rw[if_pos (by omega),getD_some Pr]
    .rw[if_neg (by omega),hJ.w u (by omega)]
   have wl:(aQ W (k:Int) (L[k].length:Int)).length=n:=by unfold aQ;rw[akN];exact hWl
   by_cases e0:L[k].length=0
   .rw[if_pos (by rw[decide_eq_true_eq];omega),wp_bind]
    refine(Gn _ _ (by omega) hJ.hp).mono fun r hr=> .some (.some (.some ⟨ao,de (m:=n) (by omega) ao,⟨hV.1,wl,uu,ww,hr.2,hr.1.nodup_iff.2 (List.nodup_cons.2 ⟨fun g=>?_,hJ.nd⟩),fun u=>?_⟩⟩))
    .have:=((hJ.h _).1 g).1;omega
    .show u∈r↔_
     rw[hr.1.mem_iff,ajJ,hJ.h u]
     by_cases eu:u=(k:Int)
     .subst eu;rw[ajr,getD_some Pr];exact⟨fun _=>⟨by omega,akn.1 e0⟩,fun _=> .inl rfl⟩
     .constructor
      .rintro(h|⟨h1,h2⟩)
       .exact absurd h eu
       .exact⟨by omega,h2⟩
      .rintro⟨h1,h2⟩
       exact .inr ⟨by omega,h2⟩
   .rw[if_neg (by rw[decide_eq_true_eq];omega)];refine .some (.some (.some ⟨ao,de (m:=n) (by omega) ao,⟨hV.1,wl,uu,ww,hJ.hp,hJ.nd,fun u=>?_⟩⟩))
    show u∈H↔_
    rw[hJ.h u]
    by_cases eu:u=(k:Int)
    .subst eu;rw[ajr,getD_some Pr];exact⟨fun h=>by omega,fun h=>absurd (by rw[h.2];rfl) e0⟩
    .exact⟨fun⟨h1,h2⟩=>⟨by omega,h2⟩,fun⟨h1,h2⟩=>⟨by omega,h2⟩⟩
  .have hge:k=n:=by dsimp only at hge;omega
   subst hge;exact .some hJ
 obtain⟨U,W,H⟩:=z;dsimp only at hz⊢;have hUl:=hz.ul
 have hU:∀e,∀h:e<U.length,U[e].length<=100000/\∀u:Int,U[e].count u=if 0<=u/\u<(n:Int)then(L.getD u.toNat []).count (e:Int)else 0:=fun e h=>⟨by have:=(hz.u e h).1;omega,(hz.u e h).2⟩
 refine Wp.seq (fun z=>p4 s z.1/\z.2=[]/\∀d,¬L4 s z.1 d) ?_ fun z hq=>?_
 .refine Wp.loop (fun z=>abS s L n z.1 z.2.1 z.2.2) (fun z=>n-z.2.1.length) ⟨hz.wl,fun k h=>(by cases h),fun u hu=>?_,hz.hp,hz.nd,fun u=>?_⟩ (by show n-_<aE;unfold aE;omega) fun z hI=>?_
  .rw[hz.w u hu]
   congr 2
   exact(List.countP_eq_length.2 fun a _=>by simp).symm
  .rw[hz.h u];unfold L4;rw[<-hn];constructor
   .rintro⟨h1,h2⟩
    refine⟨h1,by simp,fun y hy=>?_⟩;have:=(IY u.toNat (by omega) y).2 (by rw[akw h1.1];exact hy);rw[h2]at this;cases this
   .rintro⟨h1,_,h2⟩
    refine⟨h1,List.eq_nil_iff_forall_not_mem.2 fun y hy=>?_⟩;have:=(IY u.toNat (by omega) y).1 hy;rw[akw h1.1]at this;cases h2 y this
  obtain⟨W,O,H⟩:=z;dsimp only at hI⊢;have hO:=hI.o;have hOl:=hO.len;rw[<-hn]at hOl
  have hHl:H.length<=n:=r7 hI.nd fun x hx=>by
   have:=((hI.h x).1 hx).1;rw[<-hn]at this;exact this
  unfold M.dK;rw[aji]
  refine Wp.dec (fun h0=>?_) fun h0=>?_
  .have h0:0<H.length:=by omega
   rw[wp_bind]
   refine(Ru H h0 (by omega) hI.hp).mono fun r hr=>?_
   obtain⟨x,G⟩:=r;obtain⟨hp,hG,EN⟩:=hr;dsimp only at hp hG EN⊢;have hxH:x∈H:=hp.symm.subset (by simp);have hx:=(hI.h x).1 hxH;have MV:=hp.nodup_iff.1 hI.nd;obtain⟨hxG,hGn⟩:=List.nodup_cons.1 MV
   have hO':p4 s (O++[x]):=hO.snoc hx fun d hd=>by
    have:d∈H:=(hI.h d).2 hd
    rcases ajJ.1 (hp.subset this)with rfl|h
    .exact akA _
    .exact EN d h
   have Vn:=hO'.len;rw[<-hn,ajm]at Vn;simp only[ajy,List.length_nil]at Vn;rw[bL (by simp;omega),aji];have OA:=hx.1;rw[<-hn]at OA;obtain⟨e,he⟩:=ajC OA.1
   have heU:e<U.length:=by omega
   rw[he,ah heU,aji,<-he];obtain⟨f1,f2⟩:=hU e heU;rw[<-he]at f2
   have inU:∀u∈U[e],(0<=u/\u<(n:Int))/\Dp s u x:=fun u hu=>by
    have h1:=List.count_pos_iff.2 hu;rw[f2]at h1;by_cases hc:0<=u/\u<(n:Int)
    .rw[if_pos hc]at h1;refine⟨hc,?_⟩;have:=(IY u.toNat (by omega) x).1 (List.count_pos_iff.1 h1)
     rwa [akw hc.1]at this
    .rw[if_neg hc]at h1;omega
   refine Ot s L n (O++[x]) U[e] W G x K6 f1 hLq ⟨hI.wl,fun u hu=>?_,hG,hGn,fun u=>?_⟩ (fun u hu=>?_) _ fun W' H' h'=>?_
   .rw[hI.w u hu,f2,if_pos (by omega),ajr,CN _ _ _ hx.2.1]
   .have abT:u∈G↔u∈H/\u≠x:=by
     rw[hp.mem_iff,ajJ];exact⟨fun h=>⟨.inr h,fun e=>hxG (e▸h)⟩,fun h=>h.1.resolve_left h.2⟩
    rw[abT,hI.h u];unfold L4;rw[<-hn];constructor
    .rintro⟨⟨h1,h2,h3⟩,h4⟩
     refine⟨h1,by simp[h2,h4],?_⟩;rw[hI.w u.toNat (by omega)]
     congr 2
     rw[alb];intro y hy;have:=(IY u.toNat (by omega) y).1 hy;rw[akw h1.1]at this;simpa using h3 y this
    .rintro⟨h1,h2,h3⟩
     rw[hI.w u.toNat (by omega)]at h3
     have h3:(L.getD u.toNat []).countP (fun y=>decide (y∉O))=0:=by
      have:=ajk h3;omega
     rw[alb]at h3;simp only[ajL,ajz,not_or]at h2;refine⟨⟨h1,h2.1,fun y hy=>?_⟩,h2.2⟩;have:=h3 y ((IY u.toNat (by omega) y).2 (by rw[akw h1.1];exact hy));simpa using this
   .obtain⟨h1,h2⟩:=inU u hu;refine⟨h1,fun h=>?_⟩
    rcases ajL.1 h with h|h
    .exact hx.2.1 ((hO.mem h).2 x h2)
    .rw[ajz.1 h]at h2;exact hx.2.1 (hx.2.2 x h2)
   .refine⟨⟨h'.wl,hO',fun u hu=>?_,h'.hp,h'.nd,fun u=>?_⟩,?_⟩
    .have:=h'.w u hu;rw[List.count_nil,akm]at this;exact this
    .rw[h'.h u];unfold L4;rw[<-hn];constructor
     .rintro⟨h1,h2,h3⟩
      refine⟨h1,h2,fun y hy=>?_⟩;rw[h'.w u.toNat (by omega),List.count_nil,akm]at h3
      have h3:(L.getD u.toNat []).countP (fun y=>decide (y∉O++[x]))=0:=by
       have:=ajk h3;omega
      rw[alb]at h3;have:=h3 y ((IY u.toNat (by omega) y).2 (by rw[akw h1.1];exact hy))
      exact akP fun g=>this (decide_eq_true g)
     .rintro⟨h1,h2,h3⟩
      refine⟨h1,h2,?_⟩;rw[h'.w u.toNat (by omega),List.count_nil,akm]
      congr 2
      rw[alb];intro y hy;have:=(IY u.toNat (by omega) y).1 hy;rw[akw h1.1]at this
      exact fun g=>of_decide_eq_true g (h3 y this)
    .show n-(O++[x]).length<n-O.length
     rw[ajm];simp only[ajy,List.length_nil];omega
  .have h0:H=[]:=akn.1 (by omega);subst h0;exact .some ⟨hO,rfl,fun d hd=>by cases(hI.h d).2 hd⟩
 .obtain⟨O,H⟩:=z;obtain⟨h1,h2,h3⟩:=hq;dsimp only at h1 h2 h3⊢
  refine Wp.dec (fun h=> .some ⟨O,h1,h3,?_⟩) fun h=> .some ⟨O,h1,h3,?_⟩
  .rw[if_pos (by omega)]
  .rw[if_neg (by omega)]
theorem IG{s:jq}{o:List Int}(h:p4 s o)(hr:∀d,¬L4 s o d)(hc:∀d:Nat,d<s.2.2.2.1.length->¬EE (Dp s) (d:Int) (d:Int)):o.length=s.2.2.2.1.length:=by
 refine Nat.le_antisymm h.len (Nat.le_of_not_lt fun ao=>?_)
 have Vm:∀a b,Dp s a b->0<=b/\b<(s.2.2.2.1.length:Int):=fun a b h=>(mF s a).2 b h
 obtain⟨n,hn⟩:∃n,n=s.2.2.2.1.length:=⟨_,rfl⟩
 rw[<-hn]at ao hc Vm
 have next:∀d:Int,(0<=d/\d<(n:Int))->d∉o->∃e,Dp s d e/\e∉o:=fun d hd VB=>akP fun bP=>by
  refine hr d ⟨by rw[<-hn];exact hd,VB,fun y hy=>akP fun Dz=>bP ⟨y,hy,Dz⟩⟩
 have start:∃d:Int,(0<=d/\d<(n:Int))/\d∉o:=akP fun bP=>by
  have:((List.range n).map fun k:Nat=>(k:Int)).length<=o.length:=pU (List.Pairwise.map _ (fun a b(h:a≠b)e=>h (by omega)) List.nodup_range) fun y hy=>by
   obtain⟨k,hk,rfl⟩:=akT.1 hy
   exact akP fun h=>bP ⟨(k:Int),by have:=List.mem_range.1 hk;omega,h⟩
  simp at this;omega
 have walk:∀m,∃l:List Int,l.length=m+1/\(∀x∈l,(0<=x/\x<(n:Int))/\x∉o)/\l.Pairwise fun a b=>EE (Dp s) b a:=by
  intro m
  induction m with
  |zero=>
   obtain⟨d,h1,h2⟩:=start;exact⟨[d],rfl,fun x hx=>by rw[ajz.1 hx];exact⟨h1,h2⟩,by simp⟩
  |succ m ih=>
   obtain⟨l,hl,hm,hp⟩:=ih
   cases l with
   |nil=>cases hl
   |cons x t=>
    obtain⟨e,h1,h2⟩:=next x (hm x (by simp)).1 (hm x (by simp)).2
    refine⟨e::x::t,by simp only[ajy]at hl⊢;omega,fun y hy=>?_,akF.2 ⟨fun y hy=>?_,hp⟩⟩
    .rcases ajJ.1 hy with rfl|hy
     .exact⟨Vm _ _ h1,h2⟩
     .exact hm y hy
    .rcases ajJ.1 hy with rfl|hy
     .exact .one h1
     .exact .step ((akF.1 hp).1 y hy) h1
 obtain⟨l,hl,hm,hp⟩:=walk n
 have nd:l.Nodup:=by
  refine hp.imp_of_mem fun{a b}ha hb vg=>fun e=>?_
  subst e;obtain⟨h1,_⟩:=hm a ha;have:=hc a.toNat (by omega);rw[akw h1.1]at this;exact this vg
 have:=r7 nd fun x hx=>(hm x hx).1
 omega
end L
end Go.Proofs.YtmihpkfkbfgigaaGreatDoor
end
section
open _root_.Int renaming eq_ofNat_of_zero_le->ajC,toNat_natCast->ajr
open _root_.Go.IntKind renaming i64->ajj
open _root_.List renaming getElem?_eq_getElem->ajl,getElem_append_left->ajv,getElem_append_right->ajA,getElem_mem->ajs,getElem_of_mem->ajG
open _root_.Option renaming bind_some->aji
namespace Go.Proofs.YtmihpkfkbfgigaaGreatDoor
open Go Go.RowKit
set_option maxRecDepth 100000
set_option linter.unusedSimpArgs false
set_option linter.unusedVariables false
namespace L
theorem yD{e:List Ty}{s:nP}{t:Ty}(h:qP e s t=0):(C2 e s).2.2=0/\(C2 e s).1=t:=by
 unfold qP at h;by_cases h1:(C2 e s).2.2=0
 .rw[if_neg (fun g=>g h1)]at h;by_cases h2:(C2 e s).1=t
  .exact⟨h1,h2⟩
  .rw[if_pos h2]at h;cases h
 .rw[if_pos h1]at h;exact absurd h h1
def OfT(e:List Ty)(s:nP)(t:Ty):Prop:=∃r,M.gh aE e s=some r/\r.2.2=0/\r.1=t
theorem EO{l:Lw}{x:jq}(hw:WF aB x){j:Nat}(hj:j<x.2.2.2.2.length)(h0:tn l x j x.2.2.2.2[j]=0):
 (∃k,∃hk:k<x.2.2.2.1.length,(x.2.2.2.2[j].2.1:Int)=(k:Int)/\OfT x.2.2.2.2[j].2.2.2.2.2.2.1 (eB l x) x.2.2.2.1[k].2)/\(0<x.2.2.2.2[j].2.2.2.2.2.1.length->OfT x.2.2.2.2[j].2.2.2.2.2.1 (eB l x) ((1:Int),(0:Int))):=by
 have Mt:=hw.2.2.2.2.2 _ (ajs hj);obtain⟨_,_,hd,_,_,_,_,hg,hv⟩:=uN.1 h0;generalize x.2.2.2.2[j]=r at*
 obtain⟨(d:Int),MW⟩:∃d:Int,d=r.2.1:=⟨_,rfl⟩
 rw[<-MW]at hd;have hd0:(0:Int)<=d:=hd.1;have wW:d<(x.2.2.2.1.length:Int):=hd.2;obtain⟨k,hk⟩:=ajC hd0
 have dO:(r.2.1:Int)=(k:Int):=by rw[<-MW,hk]
 have IW:k<x.2.2.2.1.length:=by omega
 rw[dO,ajr,ajl IW]at hv;obtain⟨v1,v2⟩:=yD hv;refine⟨⟨k,IW,dO,_,lJ.all _ _ Mt.2.2.2.2.2.2.1.2,v1,v2⟩,fun h=>?_⟩;obtain⟨g1,g2⟩:=yD (hg h);exact⟨_,lJ.all _ _ Mt.2.2.2.2.2.1.2,g1,g2⟩
def L8(e:List Ty)(s:nP)(y:List Ty):Prop:=(e.length=0/\y=[])\/(0<e.length/\P.V.Code e s y)
structure Prg(l:Lw)(x:jq)(d:Int)(p:List me×List Int×List (List Ty)×List (List Ty)):Prop where
 rules:p.1=b9 x.2.2.2.2 d
 order:M.dl aE x=some ((0:Int),p.2.1)
 ord:p4 x p.2.1
 all:p.2.1.length=x.2.2.2.1.length
 gl:p.2.2.1.length=p.1.length
 vl:p.2.2.2.length=p.1.length
 code:∀i(h:i<p.1.length)(h1:i<p.2.2.1.length)(h2:i<p.2.2.2.length),L8 p.1[i].2.2.2.2.2.1 (eB l x) p.2.2.1[i]/\P.V.Code p.1[i].2.2.2.2.2.2.1 (eB l x) p.2.2.2[i]
theorem EP(l:Lw)(hw:WF cF l)(nv:lK l)(hv:Valid l)(k:Nat)(hk:k<l.2.2.length)(d:Int):Wp (M.cA aE l (k:Int) d) (Prg l l.2.2[k] d):=by
 have hm:=hv.abN nv
 have hp:∀x∈l.2.2,lD x.2.2.2.2:=fun x hx=>by
  obtain⟨i,hi,rfl⟩:=ajG hx;exact EJ (hv.scope i hi).2.2.2.2.2.2.1
 have wZ:=nv.2.2.2.2.2 _ (ajs hk);have hsc:=hv.scope k hk;have Lu:=hw.2.2.2 _ (ajs hk);have DC:=hp _ (ajs hk);unfold M.cA;rw[ah hk,aji,CK l d hm nv hp]
 have uI:idx (l.2.2.map (fL · d)) (k:Int)=some (fL l.2.2[k] d):=by rw[ah (show k<(l.2.2.map (fL · d)).length by simpa using hk),List.getElem_map]
 obtain⟨x,hx⟩:∃x,x=l.2.2[k]:=⟨_,rfl⟩
 rw[<-hx]at wZ hsc Lu DC uI⊢
 have abX:∃o,M.dl aE x=some ((0:Int),o)/\p4 x o/\o.length=x.2.2.2.1.length:=by
  obtain⟨r,er,o,h1,h2,hr⟩:=L7 x wZ
  have gR:=IG h1 h2 fun d hd hc=>hsc.2.2.2.2.2.2.2 d hd ((uM x d d).2 hc)
  rw[if_neg (by omega)]at hr;subst hr;exact⟨o,er,h1,gR⟩
 obtain⟨o,e1,e2,e3⟩:=abX;rw[e1];simp only[aji,uI];have Va:=wZ.2.2.2.1;have hR:(fL x d).2.2.2.2=b9 x.2.2.2.2 d:=rfl;rw[hR]
 have hRl:(b9 x.2.2.2.2 d).length<=60:=by
  rw[jS];have:=(mH d x.2.2.2.2).2.1;omega
 have hRm:∀y∈b9 x.2.2.2.2 d,∃j,∃hj:j<x.2.2.2.2.length,∃p:Int,y=CJ x.2.2.2.2[j] p:=fun y hy=>by
  obtain⟨r,hr,p,e,_⟩:=ua d DC hy;obtain⟨j,hj,rfl⟩:=ajG hr;exact⟨j,hj,p,e⟩
 obtain⟨R,hRe⟩:∃R,R=b9 x.2.2.2.2 d:=⟨_,rfl⟩
 rw[<-hRe]at hRl hRm⊢;rw[wp_bind]
 refine Wp.mono (Q:=fun p=>Prg l x d p/\True) ?_ fun p hp=> .some hp.1
 refine Wp.count (fun s=>s.1) R.length (fun i s=>s.2.1=R/\s.2.2.1=o/\s.2.2.2.1.length=i/\s.2.2.2.2.length=i/\∀j(h:j<R.length)(h1:j<s.2.2.2.1.length)(h2:j<s.2.2.2.2.length),L8 R[j].2.2.2.2.2.1 (eB l x) s.2.2.2.1[j]/\P.V.Code R[j].2.2.2.2.2.2.1 (eB l x) s.2.2.2.2[j]) (by omega) rfl ⟨rfl,rfl,rfl,rfl,fun j h h1=>by cases h1⟩ fun i s hi hs hJ=>?_
 obtain⟨c,R',o',G,V⟩:=s;obtain⟨j1,j2,j3,j4,j5⟩:=hJ;dsimp only at hs j1 j2 j3 j4 j5;subst hs j1 j2
 refine Wp.dec (fun ao=>?_) fun hge=>?_
 .have ao:i<R'.length:=by dsimp only at ao;omega
  obtain⟨j,hj,p,hy⟩:=hRm _ (ajs ao);obtain⟨⟨dk,hdk,_,tv⟩,tg⟩:=EO Lu hj (hsc.2.2.2.2.2.2.1 j hj);have Mt:=Lu.2.2.2.2.2 _ (ajs hj)
  have eg:R'[i].2.2.2.2.2.1=x.2.2.2.2[j].2.2.2.2.2.1:=by rw[hy];rfl
  have ev:R'[i].2.2.2.2.2.2.1=x.2.2.2.2[j].2.2.2.2.2.2.1:=by rw[hy];rfl
  dsimp only;rw[ah ao,aji,wp_bind]
  have wg:Wp (M.bD aE R'[i].2.2.2.2.2.1) fun y=>L8 R'[i].2.2.2.2.2.1 (eB l x) y:=by
   by_cases h0:R'[i].2.2.2.2.2.1.length=0
   .unfold M.bD;rw[if_pos (by rw[decide_eq_true_eq];omega)];exact .some (.inl ⟨h0,rfl⟩)
   .obtain⟨r,h1,h2,_⟩:=tg (by rw[<-eg];omega);rw[eg]at h0⊢
    exact(P.V.Ga Mt.2.2.2.2.2.1.2 h1 h2).mono fun y hy=> .inr ⟨by omega,hy⟩
  refine wg.mono fun y hyg=>?_
  rw[bL (by simp;omega),aji,wp_bind];obtain⟨r,h1,h2,_⟩:=tv
  have wv:Wp (M.bD aE R'[i].2.2.2.2.2.2.1) fun z=>P.V.Code R'[i].2.2.2.2.2.2.1 (eB l x) z:=by
   rw[ev];exact P.V.Ga Mt.2.2.2.2.2.2.1.2 h1 h2
  refine wv.mono fun z hz=>?_
  rw[bL (by simp;omega),aji];refine .some ⟨ao,de (m:=R'.length) (by omega) ao,rfl,rfl,by simp[j3],by simp[j4],fun q h h1 h2=>?_⟩;dsimp only at h1 h2⊢;by_cases hq:q<i
  .rw[ajv (by omega),ajv (by omega)];exact j5 q h (by omega) (by omega)
  .have hq:q=i:=by simp at h1;omega
   subst hq;rw[ajA (by omega),ajA (by omega)];simp only[j3,j4,Nat.sub_self,List.getElem_cons_zero];exact⟨hyg,hz⟩
 .have hge:i=R'.length:=by dsimp only at hge;omega
  exact .some ⟨⟨hRe,e1,e2,e3,by dsimp only;omega,by dsimp only;omega,j5⟩,trivial⟩
theorem EQ(l:Lw)(hw:WF cF l)(nv:lK l)(at_ d:Int):Wp (M.eI aE l at_ d) fun p=>(p.2.1≠0/\p.1=[]/\p.2.2=([],[],[])/\(p.2.1=if¬Valid l then 1 else if at_<0\/(l.2.2.length:Int)<=at_ then 6 else 3)/\¬(Valid l/\(0<=at_/\at_<(l.2.2.length:Int))/\0<=d/\d<=109572))\/(p.2.1=0/\Valid l/\(0<=d/\d<=109572)/\∃k,∃hk:k<l.2.2.length,at_=(k:Int)/\Prg l l.2.2[k] d (p.1,p.2.2)):=by
 unfold M.eI;rw[Of l hw nv,aji]
 refine Wp.jV (fun h=>?_) fun h=>?_
 .refine .some (.inl ⟨by decide,rfl,rfl,?_,fun g=>h g.1⟩);rw[if_pos (show¬Valid l from h)]
 have hv:Valid l:=h
 refine Wp.seq (fun j=>j=true↔(at_<0\/(l.2.2.length:Int)<=at_)) ?_ fun j hj=>?_
 .refine Wp.dec (fun h=> .some (iff_of_true rfl (.inl h))) fun h=> .some ?_
  rw[decide_eq_true_eq];omega
 by_cases ha:at_<0\/(l.2.2.length:Int)<=at_
 .rw[if_pos (hj.2 ha)];refine .some (.inl ⟨by decide,rfl,rfl,?_,fun g=>by omega⟩);rw[if_neg (fun g=>g hv),if_pos ha]
 rw[if_neg (fun g=>ha (hj.1 g))]
 refine Wp.seq (fun j=>j=true↔(d<0\/109572<d)) ?_ fun j hj=>?_
 .refine Wp.dec (fun h=> .some (iff_of_true rfl (.inl h))) fun h=> .some ?_
  rw[decide_eq_true_eq];omega
 by_cases hd:d<0\/109572<d
 .rw[if_pos (hj.2 hd)];refine .some (.inl ⟨by decide,rfl,rfl,?_,fun g=>by omega⟩);rw[if_neg (fun g=>g hv),if_neg ha]
 rw[if_neg (fun g=>hd (hj.1 g))];obtain⟨k,rfl⟩:=ajC (show 0<=at_ by omega)
 have hk:k<l.2.2.length:=by omega
 rw[wp_bind]
 exact(EP l hw nv hv k hk d).mono fun p hp=> .some (.inr ⟨rfl,hv,by omega,k,hk,rfl,hp⟩)
theorem oB(l:Lw)(scope date:Int)(hw:WF cF l)(_:WF ae scope)(_:WF ae date):M.gu aE l scope date=some true:=by
 apply Wp.eq;unfold M.gu;refine(Wp.bind ((Iv l hw).mono fun y hy=>?_));rw[Oo]
 cases y with
 |false=>rw[if_pos (by decide)];exact .some rfl
 |true=>
 rw[if_neg (by decide)];have nv:=hy rfl;rw[wp_bind]
 refine(EQ l hw nv scope date).mono fun p hp=>?_
 obtain⟨R,e,O,G,V⟩:=p;dsimp only at hp⊢
 rcases hp with⟨h1,h2,h3,_⟩|⟨h1,hv,_,k,hk,rfl,hP⟩
 .subst h2;rw[if_pos (by simpa using h1)];exact .some rfl
 .rw[if_neg (by simpa using h1)];have g1:=hP.gl;have g2:=hP.vl;have hc:=hP.code;dsimp only at g1 g2 hc
  have Va:R.length<=60:=by
   have:=hP.rules;dsimp only at this;rw[this,jS];have:=(mH date l.2.2[k].2.2.2.2).2.1;have:=(nv.2.2.2.2.2 _ (ajs hk)).2.2.2.1;omega
  rw[if_neg (by rw[g1];simp),aji,if_neg (by rw[g2];simp),uJ]
  refine Wp.count (fun s=>s) R.length (fun _ _=>True) (by omega) rfl trivial fun i s hi hs _=>?_
  obtain rfl:s=_:=hs
  refine Wp.dec (fun ao=>?_) fun hge=>?_
  .have ao:i<R.length:=by omega
   obtain⟨c1,c2⟩:=hc i ao (by omega) (by omega);rw[uJ,ah ao,aji]
   have last:∀u:Unit,Wp ((idx V (i:Int)).bind fun oX=>(M.bH aE oX).bind fun qk=>(if(!decide (qk.2=(0:Int)))=true then some (Sum.inr (Sum.inr false))else some (Sum.inl (ajj.wrap ((i:Int)+(1:Int))))):Option (Int⊕(Unit⊕Bool))) (zJ (fun s:Int=>s) R.length i (fun _ _=>True) (o6 (fun _:Unit=>(some true).bind fun IT=>some IT) (· =true))):=fun _=>by
    rw[ah (by omega),aji,wp_bind]
    refine c2.verify.mono fun y hy=>?_
    rw[if_neg (by simpa using hy)];exact .some ⟨ao,de (m:=R.length) (by omega) ao,trivial⟩
   refine Wp.dec (fun hg=>?_) fun hg=> .some (last ())
   rcases c1 with⟨h0,_⟩|⟨_,c1⟩
   .omega
   rw[ah (by omega),aji,wp_bind]
   refine c1.verify.mono fun y hy=>?_
   rw[if_neg (by simpa using hy)];exact .some (last ())
  .exact .some (.some rfl)
end L
end Go.Proofs.YtmihpkfkbfgigaaGreatDoor
end
