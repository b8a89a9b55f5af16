/- Joined texts: RX CA RY RZ CC CD CE CF. -/
import Derived.Test.YtmihpkfkbfgigaaGreatDoorU12
import Derived.Test.YtmihpkfkbfgigaaGreatDoorU8
import Derived.Test.YtmihpkfkbfgigaaGreatDoorU11
section
open _root_.Bool renaming false_eq_true->al2
open _root_.Int renaming eq_ofNat_of_zero_le->al8,toNat_natCast->al1
open _root_.Go.IntKind renaming i64->alT
open _root_.List renaming append_assoc->amk,append_nil->amK,getD->amn,getElem?_append_left->amq,getElem?_eq_getElem->alV,getElem?_eq_some_iff->alW,getElem?_map->amD,getElem_append_left->al5,getElem_append_right->ame,getElem_mem->al0,getElem_of_mem->amb,length_append->alY,length_cons->al9,length_eq_zero_iff->am1,length_map->amm,length_take->amd,mem_map->anq,mem_singleton->ama,replicate->alX,replicate_succ->amX,set_append_right->amz,take_length->amc
open _root_.Nat renaming le_refl->alZ
open _root_.Option renaming bind_some->alS,getD_some->amu,map_eq_some_iff->amY
open _root_.Sum renaming inr->amP
namespace Go.Proofs.YtmihpkfkbfgigaaGreatDoor
open Go Go.RowKit
set_option maxRecDepth 100000
set_option linter.unusedSimpArgs false
namespace L
def uQ(r:Ty)(d:Int):Prop:=VR r/\(r.1:Int)<=d/\d<(r.2:Int)
instance(r:Ty)(d:Int):Decidable (uQ r d):=by unfold uQ;infer_instance
theorem Ba(r:Ty)(d:Int):M.bK aB r d=some (decide (uQ r d)):=by
 obtain⟨(r1:Int),(r2:Int)⟩:=r;apply Wp.eq;unfold M.bK;simp only[Fx,W_,implies_true,forall_const,reduceCtorEq];unfold uQ;dsimp only[ae,Row.den]
 by_cases h:VR ((r1,r2):Ty)<;>simp only[h,W_,implies_true,forall_const,reduceCtorEq]
 omega
def uk:Ty:=((0:Int),(109573:Int))
def lu(rows:List Rw)(d:Int):List Rw:=(rows.filter fun x=>decide (uQ x.1 d)).map fun x=>(uk,x.2)
theorem M5{α β:Type}(l:List α)(p:α->Bool)(F:α->β){body:Int×List β->Option ((Int×List β)⊕List β)}(hl:l.length<=4294967295)
 (hb:∀k,∀h:k<l.length,∀o:List β,o.length<=k->body ((k:Int),o)=some (.inl (alT.wrap ((k:Int)+1),if p l[k]=true then o++[F l[k]]else o)))
 (he:∀o:List β,body ((l.length:Int),o)=some (.inr o)):Loop body aB ((0:Int),[])=some ((l.filter p).map F):=by
 have MU:l.length<aB:=by unfold aB;omega
 refine AI (fun k=>((k:Int),((l.take k).filter p).map F)) l.length _ (by simp) (fun k hk=>?_) (by rw[he,amc]) MU
 have hle:(((l.take k).filter p).map F).length<=k:=by
  rw[amm];exact Nat.le_trans (List.length_filter_le _ _) (by simp;omega)
 rw[hb k hk _ hle,bV (m:=l.length) (by omega) hk,List.take_add_one,alV hk];rw[List.filter_append,List.map_append];by_cases h:p l[k]=true
 .rw[if_pos h]
  have:([l[k]]:List α).filter p=[l[k]]:=by simp[h]
  show some (Sum.inl (_,_))=some (Sum.inl (_,_++(List.filter p [l[k]]).map F))
  rw[this];rfl
 .rw[if_neg h]
  have:([l[k]]:List α).filter p=[]:=by simp[h]
  show some (Sum.inl (_,_))=some (Sum.inl (_,_++(List.filter p [l[k]]).map F))
  rw[this,List.map_nil,amK]
theorem FH(t:yl)(d:Int)(hl:t.2.2.2.length<=1048576):M.fV aB t d=some (t.1,t.2.1,t.2.2.1,lu t.2.2.2 d):=by
 unfold M.fV
 have:=M5 t.2.2.2 (fun x=>decide (uQ x.1 d)) (fun x:Rw=>((uk,x.2):Rw)) (body:=fun s2=>(if(decide (s2.1<(t.2.2.2.length:Int)))=true then((idx t.2.2.2 s2.1).bind fun x4=>(M.bK aB x4.1 d).bind fun y5=>(if y5=true then(M.dD aB).bind fun y6=>(bZ s2.2 ([(y6,x4.2)]:List dW.den)).bind fun l7=>some l7 else some s2.2):Option (List dW.den)).bind fun j3=>some (Sum.inl (alT.wrap (s2.1+(1:Int)),j3))else some (amP s2.2))) (by omega)
  (fun k hk o ho=>by
    have ea:M.dD aB=some uk:=rfl;simp only[kf hk,ah hk,Ba,ea,alS,if_true,bh (show o.length+[((uk,t.2.2.2[k].2):Rw)].length<=4294967296 by simp;omega)];by_cases h:uQ t.2.2.2[k].1 d
    .simp only[decide_eq_true h,if_true,alS]
    .simp only[decide_eq_false h,al2,if_false,alS])
  (fun o=>by simp only[fD,decide_false,al2,if_false])
 rw[this];rfl
theorem Hf:VR uk:=by decide
theorem M6{x y:Rw}{d:Int}(hx:uQ x.1 d)(hy:uQ y.1 d)(h:nG ((uk,x.2):Rw) ((uk,y.2):Rw)):nG x y:=by
 obtain⟨⟨(x1:Int),(x2:Int)⟩,(x3:Int),(x4:Int),(x5:Int)⟩:=x;obtain⟨⟨(y1:Int),(y2:Int)⟩,(y3:Int),(y4:Int),(y5:Int)⟩:=y;unfold nG at h⊢;unfold uQ at hx hy;dsimp only[ae,Row.den]at*;exact⟨hx.1,hy.1,by omega,h.2.2.2⟩
theorem M7{x:Rw}{t:yl}{E:List En}{rows:List Rw}(h:¬ou x t E):¬ou ((uk,x.2):Rw) ((t.1,(t.2.1,(t.2.2.1,rows))):yl) E:=by
 intro g;apply h;unfold ou at g⊢
 rcases g with g|g|g
 .exact absurd Hf g
 .exact absurd (show(0:Int)=109573 from g) (by decide)
 .exact .inr (.inr g)
theorem um{α:Type}{p:α->Bool}:∀{l:List α}{k:Nat}(h:k<(l.filter p).length),∃j,∃hj:j<l.length,(l.filter p)[k]=l[j]/\p l[j]=true/\∀i,∀hi:i<(l.filter p).length,i<k->∃m,∃hm:m<l.length,m<j/\(l.filter p)[i]=l[m]/\p l[m]=true
 |[],k,h=>absurd h (by simp)
 |a::l,k,h=>by
  by_cases ha:p a=true
  .have e:(a::l).filter p=a::l.filter p:=List.filter_cons_of_pos ha
   cases k with
   |zero=>exact⟨0,by simp,by simp[e],ha,fun i _ hi=>by omega⟩
   |succ k=>
    have hk:k<(l.filter p).length:=by rw[e]at h;simpa using h
    obtain⟨j,hj,h1,h2,h3⟩:=um (l:=l) hk;refine⟨j+1,by simpa using hj,by simpa[e]using h1,h2,fun i hi Nt=>?_⟩
    cases i with
    |zero=>exact⟨0,by simp,by omega,by simp[e],ha⟩
    |succ i=>
     obtain⟨m,hm,h4,h5,h6⟩:=h3 i (by rw[e]at hi;simpa using hi) (by omega);exact⟨m+1,by simpa using hm,by omega,by simpa[e]using h5,h6⟩
  .have e:(a::l).filter p=l.filter p:=List.filter_cons_of_neg ha
   have hk:k<(l.filter p).length:=by rw[e]at h;exact h
   obtain⟨j,hj,h1,h2,h3⟩:=um (l:=l) hk;refine⟨j+1,by simpa using hj,by simpa[e]using h1,h2,fun i hi Nt=>?_⟩;obtain⟨m,hm,h4,h5,h6⟩:=h3 i (by rw[e]at hi;exact hi) Nt;exact⟨m+1,by simpa using hm,by omega,by simpa[e]using h5,h6⟩
theorem zG{rows:List Rw}{d:Int}{k:Nat}(h:k<(lu rows d).length)(h':k<(rows.filter fun x=>decide (uQ x.1 d)).length):(lu rows d)[k]=((uk,(rows.filter fun x=>decide (uQ x.1 d))[k].2):Rw):=List.getElem_map ..
theorem Tg{t:yl}{E:List En}(d:Int)(h:(nU t E).2=0):(nU ((t.1,(t.2.1,(t.2.2.1,lu t.2.2.2 d))):yl) E).2=0:=by
 obtain⟨h1,h2,h3⟩:=A9.1 h;refine A9.2 ⟨?_,h2,fun k hk=>?_⟩
 .show(lu t.2.2.2 d).length<=64
  unfold lu;rw[amm];exact Nat.le_trans (List.length_filter_le _ _) h1
 .have dZ:k<(t.2.2.2.filter fun x=>decide (uQ x.1 d)).length:=by
   have:k<(lu t.2.2.2 d).length:=hk;unfold lu at this
   rwa [amm]at this
  obtain⟨j,hj,e,hp,W0⟩:=um dZ;have oS:(lu t.2.2.2 d)[k]'hk=((uk,t.2.2.2[j].2):Rw):=(zG hk dZ).trans (by rw[e])
  show¬ou ((lu t.2.2.2 d)[k]'hk) _ E/\¬∃y∈(lu t.2.2.2 d).take k,nG y ((lu t.2.2.2 d)[k]'hk)
  rw[oS];refine⟨M7 (h3 j hj).1,?_⟩
  rintro⟨y,hy,hc⟩
  obtain⟨i,hi,rfl⟩:=List.mem_take_iff_getElem.1 hy
  have gr:i<(t.2.2.2.filter fun x=>decide (uQ x.1 d)).length:=by omega
  obtain⟨m,hm,hmj,e2,Ns⟩:=W0 i gr (by omega);have adW:(lu t.2.2.2 d)[i]'(by omega)=((uk,t.2.2.2[m].2):Rw):=(zG _ gr).trans (by rw[e2]);rw[adW]at hc;exact(h3 j hj).2 ⟨_,List.mem_take_iff_getElem.2 ⟨m,by omega,rfl⟩,M6 (of_decide_eq_true Ns) (of_decide_eq_true hp) hc⟩
def dq(d:Int)(c:List Int×List Int×List Int)(r:jK):List Int×List Int×List Int:=
 if uQ r.2.2.2.2.1 d then(c.1++[(c.2.1.length:Int)],c.2.1++[(c.1.length:Int)],c.2.2++[if 0<=(r.2.2.1:Int)/\(r.2.2.1:Int)<(c.1.length:Int)then c.1.getD (r.2.2.1:Int).toNat (-1)else-1])
 else(c.1++[if 0<=(r.2.2.1:Int)/\(r.2.2.1:Int)<(c.1.length:Int)then c.1.getD (r.2.2.1:Int).toNat (-1)else-1],c.2.1,c.2.2)
def fc(d:Int)(rules:List jK):List Int×List Int×List Int:=rules.foldl (dq d) ([],[],[])
theorem mw(d:Int)(rules:List jK):(fc d rules).1.length=rules.length/\(fc d rules).2.1.length<=rules.length/\(fc d rules).2.2.length=(fc d rules).2.1.length:=by
 unfold fc
 suffices∀(rules:List jK)(c:List Int×List Int×List Int),c.2.2.length=c.2.1.length->(rules.foldl (dq d) c).1.length=c.1.length+rules.length/\(rules.foldl (dq d) c).2.1.length<=c.2.1.length+rules.length/\(rules.foldl (dq d) c).2.2.length=(rules.foldl (dq d) c).2.1.length by simpa using this rules ([],[],[]) rfl
 intro rules
 induction rules with
 |nil=>intro c h;exact⟨rfl,alZ _,h⟩
 |cons r rules ih=>
  intro c h;rw[List.foldl_cons,al9]
  have h1:(dq d c r).1.length=c.1.length+1:=by unfold dq;split<;>simp
  have h2:(dq d c r).2.1.length<=c.2.1.length+1:=by unfold dq;split<;>simp
  have h3:(dq d c r).2.2.length=(dq d c r).2.1.length:=by unfold dq;split<;>simp[h]
  obtain⟨g1,g2,g3⟩:=ih _ h3;exact⟨by omega,by omega,g3⟩
theorem xD(l:List Int)(m:Nat)(v:Int):aH (l++alX (m+1) (0:Int)) (l.length:Int) v=(l++[v])++alX m (0:Int):=by
 unfold aH;rw[al1,amz _ _ (alZ _),Nat.sub_self,amX,List.set_cons_zero];simp
theorem M8(l:List Int)(m:Nat)(u v:Int):aH ((l++[u])++alX m (0:Int)) (l.length:Int) v=(l++[v])++alX m (0:Int):=by
 unfold aH;rw[al1,amk,amz _ _ (alZ _),Nat.sub_self];simp
theorem Bb(rules:List jK)(d:Int)(hl:rules.length<=100000):M.fa aB rules d=some (d,(fc d rules).2.1,(fc d rules).2.2):=by
 apply Wp.eq;unfold M.fa;rw[wp_bind];refine rr.2 ⟨by omega,?_⟩;rw[al1]
 refine Wp.count (fun s=>s.1) rules.length (fun k s=>s.2=(d,(fc d (rules.take k)).1++alX (rules.length-k) 0,(fc d (rules.take k)).2.1,(fc d (rules.take k)).2.2)) (by omega) rfl (by simp[fc]) fun k s hk hs hJ=>?_
 obtain⟨i,s2⟩:=s;dsimp only at hs hJ;subst hs hJ;simp only[W_,implies_true,forall_const,reduceCtorEq,ba,aS];refine⟨fun aj=>?_,fun hge=>?_⟩
 .have aj:k<rules.length:=by omega
  obtain⟨l1,l2,l3⟩:=mw d (rules.take k)
  have Mh:(rules.take k).length=k:=by rw[amd];omega
  rw[Mh]at l1 l2
  have fi:fc d (rules.take (k+1))=dq d (fc d (rules.take k)) rules[k]:=by
   unfold fc;rw[List.take_add_one,alV aj,List.foldl_append];rfl
  obtain⟨m,hm⟩:∃m,rules.length-k=m+1:=⟨rules.length-k-1,by omega⟩
  have Bk:rules.length-(k+1)=m:=by omega
  rw[fi,hm,Bk];generalize fc d (rules.take k)=c at*;obtain⟨near,li,pa⟩:=c;dsimp only at l1 l2 l3⊢;subst l1;rw[ah aj];refine .some ?_;generalize rules[near.length]=r at*
  have hc:M.dF aB r d=some (decide (uQ r.2.2.2.2.1 d),d):=by
   unfold M.dF;rw[Ba,alS]
  have hw:alT.wrap ((near.length:Int)+1)=((near.length+1:Nat):Int):=bV (m:=rules.length) (by omega) aj
  have tail:∀a:Int,a=(if 0<=(r.2.2.1:Int)/\(r.2.2.1:Int)<(near.length:Int)then near.getD (r.2.2.1:Int).toNat (-1)else-1)->
   Wp (idx (near++alX (m+1) (0:Int)) (near.length:Int)) fun _=>Wp (M.dF aB r d) fun x=>(x.1=true->Wp (idx (aH (near++alX (m+1) (0:Int)) (near.length:Int) a) (near.length:Int)) fun _=>Wp (bZ li [(near.length:Int)]) fun x4=>Wp (bZ pa [a]) fun x5=>near.length<rules.length/\alT.wrap ((near.length:Int)+1)=((near.length+1:Nat):Int)/\(x.2,aH (aH (near++alX (m+1) (0:Int)) (near.length:Int) a) (near.length:Int) (li.length:Int),x4,x5)=(d,(dq d (near,li,pa) r).1++alX m 0,(dq d (near,li,pa) r).2.1,(dq d (near,li,pa) r).2.2))/\
    (x.1=false->near.length<rules.length/\alT.wrap ((near.length:Int)+1)=((near.length+1:Nat):Int)/\(x.2,aH (near++alX (m+1) (0:Int)) (near.length:Int) a,li,pa)=(d,(dq d (near,li,pa) r).1++alX m 0,(dq d (near,li,pa) r).2.1,(dq d (near,li,pa) r).2.2)):=by
   intro a ha;refine eC.2 ⟨by simp;omega,?_⟩;rw[hc];refine .some ⟨fun h=>?_,fun h=>?_⟩
   .have h:uQ r.2.2.2.2.1 d:=of_decide_eq_true h;refine eC.2 ⟨by rw[xD];simp;omega,nR.2 ⟨by simp;omega,nR.2 ⟨by simp;omega,aj,hw,?_⟩⟩⟩;rw[xD,M8];unfold dq;rw[if_pos h,ha]
   .have h:¬uQ r.2.2.2.2.1 d:=of_decide_eq_false h;refine⟨aj,hw,?_⟩;rw[xD];unfold dq;rw[if_neg h,ha]
  obtain⟨(p:Int),hp⟩:∃p:Int,p=r.2.2.1:=⟨_,rfl⟩
  simp only[<-hp]at tail⊢;refine⟨fun h0=>⟨fun h1=>?_,fun h1=>tail _ (by rw[if_neg fun g=>h1 g.2])⟩,fun h0=>tail _ (by rw[if_neg fun g=>h0 g.1])⟩;obtain⟨c,rfl⟩:=al8 h0;have zh:c<near.length:=Int.ofNat_lt.1 h1;refine eC.2 ⟨by simp;omega,tail _ ?_⟩;rw[if_pos ⟨h0,h1⟩];simp only[al1];rw[al5 zh];simp[amn,zh]
 .obtain rfl:k=rules.length:=by omega
  rw[amc]
theorem JD(d:Int)(rules:List jK)(r:jK):fc d (rules++[r])=dq d (fc d rules) r:=by
 unfold fc;rw[List.foldl_append];rfl
def TT(rules:List jK)(li:List Int)(b:Nat)(df:Int)(a:Int):Prop:=a= -1\/∃j:Nat,a=(j:Int)/\j<b/\∃i,∃h:i<rules.length,li[j]? =some (i:Int)/\(rules[i].2.1:Int)=df
structure Hg(d:Int)(rules:List jK)(c:List Int×List Int×List Int):Prop where
 near:c.1.length=rules.length
 same:c.2.2.length=c.2.1.length
 nr:∀i,∀h:i<rules.length,∀h':i<c.1.length,TT rules c.2.1 c.2.1.length rules[i].2.1 c.1[i]
 li:∀j,∀h:j<c.2.1.length,∃i,∃hi:i<rules.length,c.2.1[j]=(i:Int)/\uQ rules[i].2.2.2.2.1 d/\∀h':j<c.2.2.length,TT rules c.2.1 j rules[i].2.1 c.2.2[j]
 inc:c.2.1.Pairwise (· < ·)
theorem TT.more{rules:List jK}{li:List Int}{b b':Nat}{df a:Int}(r:jK)(l':List Int)(hb:b<=b')(h:TT rules li b df a):TT (rules++[r]) (li++l') b' df a:=by
 rcases h with h|⟨j,h1,h2,i,hi,h3,h4⟩
 .exact .inl h
 .refine .inr ⟨j,h1,by omega,i,by simp;omega,?_,?_⟩
  .rw[amq (alW.1 h3).1];exact h3
  .rw[al5 hi];exact h4
theorem mv.init{rules:List jK}{r:jK}(h:mv (rules++[r])):mv rules:=fun i hi=>by
 have:=h i (by simp;omega);rw[al5 hi]at this
 rcases this with g|⟨p,hp,g1,g2⟩
 .exact .inl g
 .refine .inr ⟨p,hp,g1,?_⟩;rw[al5 (show p<rules.length by omega)]at g2;exact g2
theorem Hg.snoc{d:Int}{rules:List jK}{r:jK}{c:List Int×List Int×List Int}(h:Hg d rules c)(hp:mv (rules++[r])):Hg d (rules++[r]) (dq d c r):=by
 obtain⟨near,li,pa⟩:=c;obtain⟨h1,h2,h3,h4,h5⟩:=h;dsimp only at h1 h2 h3 h4 h5
 have last:(rules++[r])[rules.length]'(by simp)=r:=by simp
 have Ti:TT rules li li.length r.2.1 (if 0<=(r.2.2.1:Int)/\(r.2.2.1:Int)<(near.length:Int)then near.getD (r.2.2.1:Int).toNat (-1)else-1):=by
  have:=hp rules.length (by simp);rw[last]at this
  rcases this with g|⟨p,q9,g1,g2⟩
  .rw[if_neg (fun q=>by rw[g]at q;exact absurd q.1 (by decide))];exact .inl rfl
  .have th:near.length=rules.length:=h1;rw[g1,if_pos ⟨Int.natCast_nonneg p,Int.ofNat_lt.2 (by omega)⟩,al1];rw[al5 q9]at g2
   have hpn:p<near.length:=by omega
   have:=h3 p q9 hpn;rw[g2]at this;simpa[amn,hpn]using this
 have aj:∀x∈li,x<(rules.length:Int):=fun x hx=>by
  obtain⟨j,hj,rfl⟩:=amb hx;obtain⟨i,hi,e,_⟩:=h4 j hj;omega
 unfold dq;dsimp only;generalize(if 0<=(r.2.2.1:Int)/\(r.2.2.1:Int)<(near.length:Int)then near.getD (r.2.2.1:Int).toNat (-1)else-1)=a at Ti⊢;by_cases cx:uQ r.2.2.2.2.1 d
 .rw[if_pos cx];refine⟨by simp[h1],by simp[h2],fun i hi gr=>?_,fun j hj=>?_,?_⟩
  .dsimp only at gr⊢;by_cases e:i<rules.length
   .rw[al5 e,al5 (show i<near.length by omega)];exact(h3 i e (by omega)).more r [_] (by simp)
   .obtain rfl:i=rules.length:=by simp at hi;omega
    rw[last]
    have:(near++[(li.length:Int)])[rules.length]'gr=(li.length:Int):=by
     rw[ame (by omega)];simp
    rw[this];exact .inr ⟨li.length,rfl,by simp,rules.length,by simp,by simp[h1],by rw[last]⟩
  .dsimp only at hj⊢;by_cases e:j<li.length
   .obtain⟨i,hi,g1,g2,g3⟩:=h4 j e;refine⟨i,by simp;omega,by rw[al5 e];exact g1,by rw[al5 hi];exact g2,fun h'=>?_⟩;rw[al5 hi,al5 (show j<pa.length by omega)];exact(g3 (by omega)).more r [_] (alZ _)
   .obtain rfl:j=li.length:=by simp at hj;omega
    refine⟨rules.length,by simp,by rw[ame (by omega)];simp[h1],by rw[last];exact cx,fun h'=>?_⟩;rw[last]
    have:(pa++[a])[li.length]? =some a:=by rw[<-h2];simp
    have:=(alW.1 this).2;rw[this];exact Ti.more r [_] (alZ _)
  .exact List.pairwise_append.2 ⟨h5,List.pairwise_singleton ..,fun x hx y hy=>by
    rw[ama.1 hy];have:=aj x hx;have th:near.length=rules.length:=h1
    show x<(near.length:Int)
    omega⟩
 .rw[if_neg cx];refine⟨by simp[h1],h2,fun i hi gr=>?_,fun j hj=>?_,h5⟩
  .dsimp only at gr⊢;by_cases e:i<rules.length
   .rw[al5 e,al5 (show i<near.length by omega)];have:=(h3 i e (by omega)).more r [] (alZ _)
    rwa [amK]at this
   .obtain rfl:i=rules.length:=by simp at hi;omega
    rw[last]
    have:(near++[a])[rules.length]? =some a:=by rw[<-h1];simp
    have:=(alW.1 this).2;rw[this];have:=Ti.more r [] (alZ _)
    rwa [amK]at this
  .dsimp only at hj⊢;obtain⟨i,hi,g1,g2,g3⟩:=h4 j hj;refine⟨i,by simp;omega,g1,by rw[al5 hi];exact g2,fun h'=>?_⟩;rw[al5 hi];have:=(g3 h').more r [] (alZ _)
   rwa [amK]at this
theorem sR(d:Int):∀(n:Nat)(rules:List jK),rules.length=n->mv rules->Hg d rules (fc d rules)
 |0,rules,hn,_=>by
  obtain rfl:=am1.1 hn;exact⟨rfl,rfl,fun i h=>absurd h (by simp),fun j h=>absurd h (by simp[fc]), .nil⟩
 |n+1,rules,hn,hp=>by
  obtain⟨rs,r,rfl⟩:∃rs r,rules=rs++[r]:=by
   have bR:rules≠[]:=fun e=>by rw[e]at hn;cases hn
   exact⟨rules.dropLast,rules.getLast bR,(List.dropLast_concat_getLast bR).symm⟩
  rw[JD];exact(sR d n rs (by simpa using hn) hp.init).snoc hp
theorem sS(l:List Ty)(h:l.length<=1048576):M.ao aB l=some l:=by
 unfold M.ao;rw[bh (by simp;omega),List.nil_append,alS];split
 .rename_i h0;obtain rfl:=am1.1 (beq_true h0);exact ug
 .rfl
theorem qY(l:List Fd)(h:l.length<=1048576):M.aZ aB l=some l:=by
 unfold M.aZ;rw[bh (by simp;omega),List.nil_append,alS];split
 .rename_i h0;obtain rfl:=am1.1 (beq_true h0);exact ug
 .rfl
def yq(r:jK)(p:Int):jK:=(r.1,(r.2.1,(p,(r.2.2.2.1,(uk,(r.2.2.2.2.2.1,(r.2.2.2.2.2.2.1,r.2.2.2.2.2.2.2)))))))
def uR(rules:List jK)(p:Int×Int):jK:=yq (rules[p.1.toNat]?.getD (⟨#[]⟩,((0:Int),((0:Int),((0:Int),(((0:Int),(0:Int)),([],([],⟨#[]⟩)))))))) p.2
def bT(rules:List jK)(d:Int):List jK:=((fc d rules).2.1.zip (fc d rules).2.2).map (uR rules)
theorem FI(x:gw)(d:Int)(hs:iE x)(hp:mv x.2.2.2.2):M.fW aB x d=some (x.1,x.2.1,x.2.2.1,x.2.2.2.1,bT x.2.2.2.2 d):=by
 have SX:=hs.2.2.2.1;have Db:=hs.2.1;have adT:=hs.2.2.1;have WY:=hs.2.2.2.2.2.2;unfold M.fW;rw[Bb _ _ (by omega),alS,qY _ (by omega),qY _ (by omega)];have nX:=sR d _ x.2.2.2.2 rfl hp;have hlen:=mw d x.2.2.2.2;unfold bT;generalize fc d x.2.2.2.2=c at*;obtain⟨near,li,pa⟩:=c;have kh:pa.length=li.length:=nX.same;have hli:=nX.li;dsimp only at hlen hli⊢
 have hz:(li.zip pa).length=li.length:=by rw[List.length_zip];omega
 have:=Hc (li.zip pa) (uR x.2.2.2.2) (body:=fun s3=>(if(decide (s3.1<(li.length:Int)))=true then(idx li s3.1).bind fun x4=>(idx x.2.2.2.2 x4).bind fun x5=>(idx pa s3.1).bind fun x6=>(M.dD aB).bind fun y7=>(M.ao aB x5.2.2.2.2.2.1).bind fun y8=>(M.ao aB x5.2.2.2.2.2.2.1).bind fun y9=>(bZ s3.2 ([(x5.1,(x5.2.1,(x6,(x5.2.2.2.1,(y7,(y8,(y9,x5.2.2.2.2.2.2.2)))))))]:List aY.den)).bind fun u7=>some (Sum.inl (alT.wrap (s3.1+(1:Int)),u7))else some (amP s3.2))) (by omega)
  (fun k hk o ho=>by
    have G5:k<li.length:=by omega
    have X4:k<pa.length:=by omega
    obtain⟨i,hi,e1,_⟩:=hli k G5;have ea:M.dD aB=some uk:=rfl;have hri:=WY _ (al0 hi);simp only[kf G5,ah G5,e1,ah hi,ah X4,ea,sS _ (show x.2.2.2.2[i].2.2.2.2.2.1.length<=1048576 by omega),sS _ (show x.2.2.2.2[i].2.2.2.2.2.2.1.length<=1048576 by omega),alS,if_true];rw[bh (by simp;omega),alS,List.getElem_zip,e1];unfold uR yq
    simp only[al1,alV hi,amu])
  (fun o=>by rw[hz];simp only[fD,decide_false,al2,if_false])
 rw[this];rfl
def lv(t:yl)(d:Int):yl:=(t.1,(t.2.1,(t.2.2.1,lu t.2.2.2 d)))
def gm(x:gw)(d:Int):gw:=(x.1,(x.2.1,(x.2.2.1,(x.2.2.2.1,bT x.2.2.2.2 d))))
theorem DG(l:Lw)(d:Int)(hm:Py l)(kh:gZ l)(hp:∀x∈l.2.2,mv x.2.2.2.2):M.ij aB l d=some (l.1,l.2.1.map (lv · d),l.2.2.map (gm · d)):=by
 have h1:=hm.en';have h2:=hm.tb';have h3:=hm.sc';unfold M.ij
 have e1:Loop (S:=Int×List bu.den) (X:=List bu.den) (fun s2=>(if(decide (s2.1<(l.1.length:Int)))=true then(idx l.1 s2.1).bind fun x3=>(M.cu aB x3.2).bind fun y4=>(bZ s2.2 ([(x3.1,y4)]:List bu.den)).bind fun l5=>some (Sum.inl (alT.wrap (s2.1+(1:Int)),l5))else some (amP s2.2))) aB ((0:Int),([]:List bu.den))=some l.1:=by
  have:=Hc (l:=l.1) (F:=fun x:En=>x) (body:=fun s2=>(if(decide (s2.1<(l.1.length:Int)))=true then(idx l.1 s2.1).bind fun x3=>(M.cu aB x3.2).bind fun y4=>(bZ s2.2 ([(x3.1,y4)]:List bu.den)).bind fun l5=>some (Sum.inl (alT.wrap (s2.1+(1:Int)),l5))else some (amP s2.2))) (by omega)
   (fun k hk o ho=>by simp only[kf hk,ah hk,DF _ (hm.en _ (al0 hk)),alS,if_true,bh (show o.length+[l.1[k]].length<=4294967296 by simp;omega)])
   (fun o=>by simp only[fD,decide_false,al2,if_false])
  rw[List.map_id']at this;exact this
 rw[e1,alS]
 have e2:=Dz l.2.1 (lv · d) (fun i o=>((i,l.1,o):Int×(List bu.den)×List av.den)) (fun o=>(l.1,o)) (body:=fun s7=>(if(decide (s7.1<(l.2.1.length:Int)))=true then(idx l.2.1 s7.1).bind fun x8=>(M.fV aB x8 d).bind fun y9=>(bZ s7.2.2 ([(y9.1,(y9.2.1,(y9.2.2.1,y9.2.2.2)))]:List av.den)).bind fun u7=>some (Sum.inl (alT.wrap (s7.1+(1:Int)),s7.2.1,u7))else some (amP (s7.2.1,s7.2.2)))) (by omega)
  (fun k hk o ho=>by
    simp only[kf hk,ah hk,FH _ d (hm.tb _ (al0 hk)),alS,if_true];rw[bh (by simp;omega),alS]
    rfl)
  (fun o=>by simp only[fD,decide_false,al2,if_false])
 rw[e2,alS]
 have e3:=Dz l.2.2 (gm · d) (fun i o=>((i,l.1,l.2.1.map (lv · d),o):Int×(List bu.den)×(List av.den)×List aw.den)) (fun o=>(l.1,l.2.1.map (lv · d),o)) (body:=fun wZ=>(if(decide (wZ.1<(l.2.2.length:Int)))=true then(idx l.2.2 wZ.1).bind fun pe=>(M.fW aB pe d).bind fun sX=>(bZ wZ.2.2.2 ([(sX.1,(sX.2.1,(sX.2.2.1,(sX.2.2.2.1,sX.2.2.2.2))))]:List aw.den)).bind fun VZ=>some (Sum.inl (alT.wrap (wZ.1+(1:Int)),wZ.2.1,wZ.2.2.1,VZ))else some (amP (wZ.2.1,wZ.2.2.1,wZ.2.2.2)))) (by omega)
  (fun k hk o ho=>by
    have hx:=al0 hk;simp only[kf hk,ah hk,FI _ d (kh.2.2.2.2.2 _ hx) (hp _ hx),alS,if_true];rw[bh (by simp;omega),alS]
    rfl)
  (fun o=>by simp only[fD,decide_false,al2,if_false])
 rw[e3];rfl
noncomputable def jT(l:Lw)(d:Int):Lw:=(l.1,(l.2.1.map (lv · d),l.2.2.map (gm · d)))
theorem xE{β γ:Type}{l:List (ByteArray×β)}{f:ByteArray×β->ByteArray×γ}(hf:∀x,(f x).1=x.1)(nm:ByteArray):fJ (l.map f) nm↔fJ l nm:=by
 unfold fJ;constructor
 .rintro⟨y,hy,e⟩
  obtain⟨x,hx,rfl⟩:=anq.1 hy;exact⟨x,hx,by rw[<-hf];exact e⟩
 .rintro⟨x,hx,e⟩
  exact⟨f x,anq.2 ⟨x,hx,rfl⟩,by rw[hf];exact e⟩
theorem PD(l:Lw)(d:Int)(k:Nat)(hk:k<l.2.1.length)(h:pc l k=none):pc (jT l d) k=none:=by
 have dZ:k<(l.2.1.map (lv · d)).length:=by simpa using hk
 have e:(l.2.1.map (lv · d))[k]=lv l.2.1[k] d:=List.getElem_map ..;unfold pc at h⊢;rw[alV hk]at h;rw[show(jT l d).2.1=l.2.1.map (lv · d)from rfl,alV dZ,e];dsimp only at h⊢;rw[<-List.map_take];split at h
 .cases h
 split at h
 .cases h
 split at h
 case isFalse=>cases h
 rename_i h1 h2 h3;have n1:(lv l.2.1[k] d).1=l.2.1[k].1:=rfl;rw[if_neg (by rw[n1];exact h1),if_neg,if_pos (show(nU (lv l.2.1[k] d) (jT l d).1).2=0 from Tg d h3)];rw[n1]
 rintro(g|g)
 .exact h2 (.inl g)
 .exact h2 (.inr ((xE (f:=fun x:yl=>lv x d) (fun _=>rfl) _).1 g))
theorem PE{α β:Type}(l:List α)(f:α->β)(i:Int):idx (l.map f) i=(idx l i).map f:=by
 rw[M3,M3];split
 .rw[amD]
 .rfl
theorem JE(n:Ty)(l:List Ty)(s:ov)(f:yl->yl)(hf:∀t,(f t).2.1=t.2.1/\(f t).2.2.1=t.2.2.1):M.aI aB n l ((s.1,(s.2.1.map f,s.2.2)):ov)=M.aI aB n l s:=by
 have e1:M.jy aB n ((s.1,(s.2.1.map f,s.2.2)):ov)=M.jy aB n s:=rfl
 have e2:M.bf aB n ((s.1,(s.2.1.map f,s.2.2)):ov)=M.bf aB n s:=by
  unfold M.bf;simp only[amm]
 have e3:M.bW aB n ((s.1,(s.2.1.map f,s.2.2)):ov)=M.bW aB n s:=rfl
 have e4:∀a,M.cD aB n a ((s.1,(s.2.1.map f,s.2.2)):ov)=M.cD aB n a s:=fun a=>by
  unfold M.cD;simp only[PE,Option.bind_map,Function.comp_def,fun t=>(hf t).1,fun t=>(hf t).2]
 unfold M.aI;simp only[e1,e2,e3,e4]
theorem Tj(e:List Ty)(s:ov)(f:yl->yl)(hf:∀t,(f t).2.1=t.2.1/\(f t).2.2.1=t.2.2.1):D2 e ((s.1,(s.2.1.map f,s.2.2)):ov)=D2 e s:=by
 have h:∀n l,G9 n l ((s.1,(s.2.1.map f,s.2.2)):ov)=G9 n l s:=fun n l=>by
  unfold G9;rw[JE n l s f hf]
 have hr:∀(e:List Ty)(i:Nat)(iq:List Ty),nI ((s.1,(s.2.1.map f,s.2.2)):ov) e i iq=nI s e i iq:=by
  intro e
  induction e with
  |nil=>intro i iq;rfl
  |cons n e ih=>
   intro i iq;rw[nI,nI,h,ih]
 unfold D2;rw[hr]
structure Kept(rules:List jK)(d:Int)(j:Nat)(y:jK)(i:Nat):Prop where
 lt:i<rules.length
 at_:(fc d rules).2.1[j]? =some (i:Int)
 rul:∃p,y=yq (rules[i]'lt) p/\(p= -1\/∃q:Nat,p=(q:Int)/\q<j/\∃i',∃h:i'<rules.length,(fc d rules).2.1[q]? =some (i':Int)/\(rules[i'].2.1:Int)=(rules[i]'lt).2.1)
theorem kO(rules:List jK)(d:Int):(bT rules d).length=(fc d rules).2.1.length:=by
 have:=(mw d rules).2.2;unfold bT;rw[amm,List.length_zip];omega
theorem lU{rules:List jK}(d:Int)(hp:mv rules){j:Nat}(h:j<(bT rules d).length):∃i,Kept rules d j (bT rules d)[j] i:=by
 have nX:=sR d _ rules rfl hp;have hl:=kO rules d
 have hj:j<(fc d rules).2.1.length:=by omega
 have Ep:j<(fc d rules).2.2.length:=by have:=nX.same;omega
 obtain⟨i,hi,e,_,ha⟩:=nX.li j hj
 have ez:(bT rules d)[j]=uR rules ((fc d rules).2.1[j],(fc d rules).2.2[j]):=by
  have hz:j<((fc d rules).2.1.zip (fc d rules).2.2).length:=by rw[List.length_zip];omega
  show(((fc d rules).2.1.zip (fc d rules).2.2).map (uR rules))[j]'(by simpa using hz)=_
  rw[List.getElem_map,List.getElem_zip]
 have er:(bT rules d)[j]=yq rules[i] ((fc d rules).2.2[j]):=by
  rw[ez,e];unfold uR;simp only[al1,alV hi,amu]
 exact⟨i,hi,by rw[alV hj,e],_,er,ha Ep⟩
theorem Kept.QL{rules:List jK}{d:Int}(hp:mv rules){j j' i i':Nat}{y y':jK}(h:Kept rules d j y i)(h':Kept rules d j' y' i')(hj:j'<j):i'<i:=by
 have nX:=(sR d _ rules rfl hp).inc;obtain⟨h1,e1⟩:=alW.1 h.at_;obtain⟨h2,e2⟩:=alW.1 h'.at_;have:=List.pairwise_iff_getElem.1 nX j' j h2 h1 hj;rw[e1,e2]at this;omega
theorem Kept.eqs{rules:List jK}{d:Int}{j i:Nat}{y:jK}(h:Kept rules d j y i):y.1=(rules[i]'h.lt).1/\(y.2.1:Int)=(rules[i]'h.lt).2.1:=by
 obtain⟨p,e,_⟩:=h.rul;have e1:y.1=(yq (rules[i]'h.lt) p).1:=congrArg (fun r:jK=>r.1) e;have e2:(y.2.1:Int)=(yq (rules[i]'h.lt) p).2.1:=congrArg (fun r:jK=>(r.2.1:Int)) e;exact⟨e1,e2⟩
theorem rI{α:Type}(l:List α)(q:α->Bool):∀n,n<=l.length->(l.take n).countP q=(((List.range n).filter fun a=>((l[a]?).map q).getD false).map fun a:Nat=>(a:Int)).length
 |0,_=>by simp
 |n+1,h=>by
  have hl:n<l.length:=by omega
  rw[List.range_succ,List.filter_append,List.map_append,alY,<-rI l q n (by omega),List.take_add_one,List.countP_append,alV hl]
  congr 1
  simp only[Option.toList_some,List.countP_cons,List.countP_nil,amm];by_cases hq:q l[n]=true
  .rw[if_pos hq,List.filter_cons_of_pos (by rw[alV hl];exact hq)];rfl
  .rw[if_neg hq,List.filter_cons_of_neg (by rw[alV hl];exact hq)];rfl
theorem PF{x:gw}{d:Int}(hp:mv x.2.2.2.2){j i:Nat}(h:j<(bT x.2.2.2.2 d).length)(hk:Kept x.2.2.2.2 d j (bT x.2.2.2.2 d)[j] i)(df:Int):AY (gm x d) j df<=AY x i df:=by
 unfold AY
 show((bT x.2.2.2.2 d).take j).countP _<=_
 rw[rI _ _ j (by omega),rI _ _ i (by have:=hk.lt;omega)];have adX:=(sR d _ x.2.2.2.2 rfl hp).inc;generalize hL:(List.range j).filter (fun a=>(((bT x.2.2.2.2 d)[a]?).map fun r:jK=>decide ((r.2.1:Int)=df)).getD false)=L
 have hLp:L.Pairwise (· < ·):=by rw[<-hL];exact List.pairwise_lt_range.filter _
 have J2:∀a∈L,a<j/\∃h:a<(bT x.2.2.2.2 d).length,((bT x.2.2.2.2 d)[a].2.1:Int)=df:=fun a ha=>by
  rw[<-hL]at ha;obtain⟨h1,h2⟩:=List.mem_filter.1 ha;have hj:=List.mem_range.1 h1
  have hl:a<(bT x.2.2.2.2 d).length:=by omega
  rw[alV hl]at h2;exact⟨hj,hl,of_decide_eq_true h2⟩
 have hlen:=kO x.2.2.2.2 d;rw[show(L.map fun a:Nat=>(a:Int)).length=(L.map fun a=>(fc d x.2.2.2.2).2.1.getD a 0).length by simp]
 refine qx ?_ fun y hy=>?_
 .refine List.pairwise_map.2 (hLp.imp_of_mem fun{a b}ha hb we=>?_);obtain⟨_,h1,_⟩:=J2 a ha;obtain⟨_,h2,_⟩:=J2 b hb;have:=List.pairwise_iff_getElem.1 adX a b (by omega) (by omega) we;simp only[List.getD_eq_getElem?_getD,alV (show a<(fc d x.2.2.2.2).2.1.length by omega),alV (show b<(fc d x.2.2.2.2).2.1.length by omega),amu];omega
 .obtain⟨a,ha,rfl⟩:=anq.1 hy;obtain⟨haj,Bj,hdf⟩:=J2 a ha;obtain⟨i',dZ⟩:=lU d hp Bj;have aj:=hk.QL hp dZ haj;have Bm:=dZ.lt;rw[List.getD_eq_getElem?_getD,dZ.at_,amu];refine anq.2 ⟨i',List.mem_filter.2 ⟨List.mem_range.2 aj,?_⟩,rfl⟩;rw[alV Bm];exact decide_eq_true (dZ.eqs.2.symm.trans hdf)
theorem PG(l:Lw)(x:gw)(d:Int):dt (jT l d) (gm x d)=((dt l x).1,((dt l x).2.1.map (lv · d),(dt l x).2.2)):=by
 unfold dt jT gm;dsimp only;rw[amm,amD]
 cases l.2.2[(x.2.1:Int).toNat]? with
 |none=>rfl
 |some y=>rfl
theorem Hh(l:Lw)(x:gw)(d:Int)(e:List Ty)(t:Ty):rE e (dt (jT l d) (gm x d)) t=rE e (dt l x) t:=by
 unfold rE;rw[PG,Tj e (dt l x) (lv · d) fun _=>⟨rfl,rfl⟩]
theorem PH{l:Lw}{x:gw}(d:Int)(h:∀i,∀hi:i<x.2.2.2.2.length,pP l x i x.2.2.2.2[i]=0)(j:Nat)(hj:j<(bT x.2.2.2.2 d).length):pP (jT l d) (gm x d) j (bT x.2.2.2.2 d)[j]=0:=by
 have hp:=FG h;obtain⟨i,hk⟩:=lU d hp hj;have Bm:=hk.lt;obtain⟨h1,h2,h3,h4,h5,h6,h7,h8,h9⟩:=vG.1 (h i Bm);have adY:=PF hp hj hk x.2.2.2.2[i].2.1;obtain⟨p,e,P7⟩:=hk.rul
 have adZ:∀j' i':Nat,∀h':j'<(bT x.2.2.2.2 d).length,j'<j->Kept x.2.2.2.2 d j' (bT x.2.2.2.2 d)[j'] i'->i'<i:=fun j' i' _ SO dZ=>hk.QL hp dZ SO
 rw[e];refine vG.2 ⟨h1,fun g=>h2 ?_,h3,fun g=>?_,fun g=>?_,Nat.lt_of_le_of_lt adY h6,h7,fun g=>?_,?_⟩
 .obtain⟨j',Ep,SO,e'⟩:=zB.1 g;have W1:j'<(bT x.2.2.2.2 d).length:=Ep;obtain⟨i',dZ⟩:=lU d hp W1;refine zB.2 ⟨i',dZ.lt,adZ j' i' W1 SO dZ,?_⟩;rw[<-dZ.eqs.1];exact e'
 .obtain⟨g1,g2⟩:=g;have g1:p≠-1:=g1;have g2:p<0\/(j:Int)<=p\/∃y,(bT x.2.2.2.2 d)[p.toNat]? =some y/\(y.2.1:Int)≠x.2.2.2.2[i].2.1:=g2
  rcases P7 with P7|⟨q,rfl,hqj,i',gr,e1,e2⟩
  .exact g1 P7
  .rcases g2 with g2|g2|⟨y,gy,g2⟩
   .omega
   .omega
   .rw[al1]at gy;obtain⟨hq,rfl⟩:=alW.1 gy;obtain⟨i2,yw⟩:=lU d hp hq;have e3:=yw.at_;rw[e1]at e3;have:i'=i2:=Int.ofNat_inj.1 (by simpa using e3);subst this;exact g2 (yw.eqs.2.trans e2)
 .exact absurd g (by
   rintro(g|g|g|g)
   .exact h5 (.inl g)
   .exact h5 (.inr (.inl g))
   .exact g Hf
   .exact absurd (show(0:Int)=109573 from g) (by decide))
 .rw[Hh];exact h8 g
 .simp only[Hh];exact h9
theorem FB.mono{D E:Int->Int->Prop}(h:∀a b,D a b->E a b){a b:Int}(r:FB D a b):FB E a b:=by
 induction r with
 |one g=>exact .one (h _ _ g)
 |step _ g ih=>exact .step ih (h _ _ g)
theorem W2{x:gw}(d:Int)(hp:mv x.2.2.2.2)(a b:Int)(h:Dp (gm x d) a b):Dp x a b:=by
 obtain⟨h1,r,hr,h2,h3⟩:=(xC _ _ _).1 h;have hr:r∈bT x.2.2.2.2 d:=hr;obtain⟨j,hj,rfl⟩:=amb hr;obtain⟨i,hk⟩:=lU d hp hj;refine(xC _ _ _).2 ⟨h1,_,al0 hk.lt,hk.eqs.2.symm.trans h2,?_⟩;obtain⟨p,e,_⟩:=hk.rul;rw[e]at h3;exact h3
theorem uS{f:Nat->Option (Int×Int)}{m:Nat}(h:∀k,k<m->f k=none):cy f m=none:=bH.2 h
theorem PI{l:Lw}(h:Valid l)(d:Int)(k:Nat)(hk:k<l.2.2.length):rF (jT l d) k=none:=by
 have mI:=h.scopes.2.2.2.2.2 k hk;obtain⟨v1,v2,v3,v4,v5,v6,v7,v8⟩:=h.scope k hk;have hp:=FG v7
 have e:(jT l d).2.2[k]? =some (gm l.2.2[k] d):=by
  show(l.2.2.map (gm · d))[k]? =_
  rw[amD,alV hk];rfl
 unfold rF at mI⊢;rw[alV hk]at mI;rw[e];dsimp only at mI⊢;generalize l.2.2[k]=x at*;split at mI
 .cases mI
 rename_i h1;split at mI
 .cases mI
 rename_i h2;clear mI;have n1:(gm x d).1=x.1:=rfl;rw[n1,if_neg h1,if_neg,if_neg,if_neg (show¬12<(gm x d).2.2.1.length from by show¬12<x.2.2.1.length;omega),if_neg (show¬12<(gm x d).2.2.2.1.length from by show¬12<x.2.2.2.1.length;omega)]
 .rw[Option.or_eq_none_iff,Option.or_eq_none_iff];refine⟨⟨v6,uS fun j hj=>?_⟩,uS fun c hc=>?_⟩
  .have hj:j<(bT x.2.2.2.2 d).length:=hj;unfold Dw;rw[show(gm x d).2.2.2.2=bT x.2.2.2.2 d from rfl,alV hj];dsimp only;rw[if_neg (fun g=>g (PH d v7 j hj))]
  .unfold Fu;rw[if_neg];rw[vE]
   exact fun g=>v8 c hc ((vE _ _ _).2 (g.mono (W2 d hp)))
 .rintro⟨g1,g2⟩
  refine v3 ⟨g1,?_⟩
  rcases g2 with g2|g2|⟨y,gy,g2⟩
  .exact .inl g2
  .exact .inr (.inl g2)
  .have gy:(l.2.2.map (gm · d))[(x.2.1:Int).toNat]? =some y:=gy;rw[amD]at gy;obtain⟨z,hz,rfl⟩:=amY.1 gy;exact .inr (.inr ⟨z,hz,g2⟩)
 .intro g;apply h2
  rcases g with g|g|g
  .exact .inl g
  .exact .inr (.inl ((xE (f:=fun x:yl=>lv x d) (fun _=>rfl) _).1 g))
  .refine .inr (.inr ?_);have g:fJ ((l.2.2.map (gm · d)).take k) x.1:=g;rw[<-List.map_take]at g;exact(xE (f:=fun x:gw=>gm x d) (fun _=>rfl) _).1 g
theorem Valid.on{l:Lw}(h:Valid l)(d:Int):ue (jT l d)=Pu:=by
 obtain⟨a1,a2,a3,a4,a5,a6⟩:=h.scopes;unfold ue
 have e1:cy (fun k=>(nL (jT l d) k).map fun e=>(k,e)) (jT l d).1.length=none:=bH.2 fun k hk=>Px (show nL (jT l d) k=none from a4 k hk)
 have e2:cy (fun k=>(pc (jT l d) k).map fun e=>(k,e)) (jT l d).2.1.length=none:=bH.2 fun k hk=>by
  have hk:k<(l.2.1.map (lv · d)).length:=hk
  have hk:k<l.2.1.length:=by simpa using hk
  exact Px (PD l d k hk (a5 k hk))
 have e3:cy (fun k=>(rF (jT l d) k).map fun e=>(k,e)) (jT l d).2.2.length=none:=bH.2 fun k hk=>by
  have hk:k<(l.2.2.map (gm · d)).length:=hk
  have hk:k<l.2.2.length:=by simpa using hk
  exact Px (PI h d k hk)
 rw[if_neg (show¬8<(jT l d).1.length from by show¬8<l.1.length;omega),e1];dsimp only;rw[if_neg (show¬8<(jT l d).2.1.length from by show¬8<(l.2.1.map (lv · d)).length;simp;omega),e2];dsimp only;rw[if_neg (show¬4<(jT l d).2.2.length from by show¬4<(l.2.2.map (gm · d)).length;simp;omega),e3]
theorem uT{rules:List jK}(d:Int)(hp:mv rules){y:jK}(h:y∈bT rules d):∃r∈rules,∃p:Int,y=yq r p/\-1<=p/\p<(rules.length:Int):=by
 obtain⟨j,hj,rfl⟩:=amb h;obtain⟨i,hk⟩:=lU d hp hj;obtain⟨p,e,P7⟩:=hk.rul;refine⟨_,al0 hk.lt,p,e,?_⟩;have h1:=kO rules d;have h2:=(mw d rules).2.1
 rcases P7 with rfl|⟨q,rfl,hq,_⟩<;>omega
theorem iE.on{x:gw}(h:iE x)(d:Int)(hp:mv x.2.2.2.2):iE (gm x d):=by
 obtain⟨h1,h2,h3,h4,h5,h6,h7⟩:=h;refine⟨h1,h2,h3,?_,h5,h6,fun r hr=>?_⟩
 .show(bT x.2.2.2.2 d).length<=60
  have g1:=kO x.2.2.2.2 d;have g2:=(mw d x.2.2.2.2).2.1;omega
 .obtain⟨r',p6,p,rfl,_⟩:=uT d hp hr;exact h7 r' p6
theorem gZ.on{l:Lw}(h:gZ l)(d:Int)(hp:∀x∈l.2.2,mv x.2.2.2.2):gZ (jT l d):=by
 obtain⟨h1,h2,h3,h4,h5,h6⟩:=h;refine⟨h1,?_,?_,h4,fun t ht=>?_,fun s hs=>?_⟩
 .show(l.2.1.map (lv · d)).length<=9
  rw[amm];exact h2
 .show(l.2.2.map (gm · d)).length<=5
  rw[amm];exact h3
 .obtain⟨t',FQ,rfl⟩:=anq.1 ht;exact h5 t' FQ
 .obtain⟨s',D3,rfl⟩:=anq.1 hs;exact(h6 s' D3).on d (hp s' D3)
end L
end Go.Proofs.YtmihpkfkbfgigaaGreatDoor
end
section
open _root_.List.cons renaming injEq->amR
open _root_.List renaming length_eq_one_iff->anJ,length_map->amm,map_cons->am9,mem_singleton->ama
open _root_.Option renaming bind_some->alS
namespace Go.Proofs.YtmihpkfkbfgigaaGreatDoor
open Go Go.RowKit
set_option maxRecDepth 100000
set_option linter.unusedSimpArgs false
namespace L
noncomputable def qZ:List aw.den:=(M.mO aB ([((3:Int),(100:Int)),((3:Int),(200:Int)),((11:Int),(0:Int))]:List aa.den)).getD []
noncomputable def pX:Lw:=(([]:List bu.den),(([]:List av.den),qZ))
theorem PJ:M.mO aB ([((3:Int),(100:Int)),((3:Int),(200:Int)),((11:Int),(0:Int))]:List aa.den)=some qZ:=by kernel_rfl
theorem FJ:M.ij aB pX 0=some (pX.1,pX.2.1.map (lv · 0),pX.2.2.map (gm · 0)):=by
 have e1:(qZ.map fun x=>decide (x.1.size<=80/\x.2.2.1.length=1/\x.2.2.2.1.length=1/\x.2.2.2.2.length=1))=[true]:=by kernel_rfl
 have e2:(qZ.map fun x=>x.2.2.1.map fun f=>decide (f.1.size<=80))=[[true]]:=by kernel_rfl
 have e3:(qZ.map fun x=>x.2.2.2.1.map fun f=>decide (f.1.size<=80))=[[true]]:=by kernel_rfl
 have e4:(qZ.map fun x=>x.2.2.2.2.map fun r=>decide (r.1.size<=80/\r.2.2.2.2.2.2.2.size<=80/\r.2.2.2.2.2.1.length<=50/\r.2.2.2.2.2.2.1.length<=50/\(r.2.2.1:Int)= -1))=[[true]]:=by kernel_rfl
 obtain⟨x,hx⟩:∃x,qZ=[x]:=by
  have:=congrArg List.length e1;rw[amm]at this;exact anJ.1 this
 have hL:pX=(([]:List bu.den),(([]:List av.den),[x])):=by unfold pX;rw[hx]
 rw[hx]at e1 e2 e3 e4;simp only[am9,List.map_nil,amR,and_true,decide_eq_true_eq]at e1 e2 e3 e4;obtain⟨a1,a2,a3,a4⟩:=e1;obtain⟨f,hf⟩:=anJ.1 a2;obtain⟨g,hg⟩:=anJ.1 a3;obtain⟨r,hr⟩:=anJ.1 a4;rw[hf]at e2;rw[hg]at e3;rw[hr]at e4;simp only[am9,List.map_nil,amR,and_true,decide_eq_true_eq]at e2 e3 e4;obtain⟨b1,b2,b3,b4,b5⟩:=e4
 have hp:∀y∈pX.2.2,mv y.2.2.2.2:=fun y hy=>by
  rw[hL]at hy;rw[ama.1 hy];intro i hi;rw[hr]at hi
  have e:i=0:=by simp at hi;omega
  subst e
  left
  simp only[hr,List.getElem_cons_zero];exact b5
 refine DG pX 0 ?_ ?_ hp
 .rw[hL];refine⟨fun e he=>(by cases he),fun e he=>(by cases he),fun s hs r' p6=>?_,by simp,by simp,by simp,fun s hs=>?_⟩
  .rw[ama.1 hs,hr]at p6;rw[ama.1 p6];exact⟨by omega,by omega⟩
  .rw[ama.1 hs];exact⟨by omega,by omega,by omega⟩
 .rw[hL];refine⟨by simp,by simp,by simp,fun e he=>(by cases he),fun e he=>(by cases he),fun s hs=>?_⟩;rw[ama.1 hs];refine⟨a1,by omega,by omega,by omega,fun y hy=>?_,fun y hy=>?_,fun y hy=>?_⟩
  .rw[hf]at hy;rw[ama.1 hy];exact e2
  .rw[hg]at hy;rw[ama.1 hy];exact e3
  .rw[hr]at hy;rw[ama.1 hy];exact⟨b1,b2,b3,b4⟩
noncomputable def DH:List jK×List Int×List (List Ty)×List (List Ty):=((gm (qZ.headD (⟨#[]⟩,((0:Int),([],([],[]))))) 0).2.2.2.2,[0],[[]],[[((3:Int),(300:Int))]])
theorem xF:M.cN aB pX 0 0=some DH:=by
 unfold M.cN;rw[FJ]
 show(_:Option (List jK×List Int×List (List Ty)×List (List Ty)))=_
 kernel_rfl
theorem Bc:M.cq aB pX 0 0=some (qZ.headD (⟨#[]⟩,((0:Int),([],([],[])))),(DH.2.1,(DH.1,(DH.2.2.1,DH.2.2.2))),[0]):=by
 unfold M.cq;rw[xF]
 kernel_rfl
theorem PK:M.mi aB=some true:=by
 unfold M.mi;rw[PJ,alS];have e:(([]:List bu.den),(([]:List av.den),qZ))=pX:=rfl;rw[e];unfold M.lP M.jx;rw[xF,Bc]
 show(_:Option Bool)=_
 kernel_rfl
end L
end Go.Proofs.YtmihpkfkbfgigaaGreatDoor
end
section
open _root_.Int renaming le_refl->am7,tdiv->amh,tdiv_eq_ediv_of_nonneg->amV,toNat_natCast->al1
open _root_.Go.IntKind renaming i64->alT
open _root_.List renaming getElem?_append_left->amq,getElem?_take->amv,getElem_mem->al0,getElem_of_mem->amb,length_take->amd,take_length->amc
open _root_.Nat renaming le_refl->alZ,zero_le->amj
open _root_.Option renaming bind_some->alS
open _root_.Sum renaming inr->amP
namespace Go.Proofs.YtmihpkfkbfgigaaGreatDoor
open Go Go.RowKit
set_option maxRecDepth 100000
set_option linter.unusedSimpArgs false
namespace L
def kg(l:List Int)(i:Nat):Int:=l.getD i 0
def par(i:Nat):Nat:=(i-1)/2
def rJ(l:List Int)(n:Nat):Prop:=∀k,0<k->k<n->kg l (par k)<=kg l k
def swp(l:List Int)(i j:Nat):List Int:=(l.set i (kg l j)).set j (kg l i)
theorem pY{l:List Int}{i:Nat}(h:i<l.length):kg l i=l[i]:=by unfold kg;simp[h]
theorem Hi(l:List Int)(i k:Nat)(v:Int)(h:i<l.length):kg (l.set i v) k=if k=i then v else kg l k:=by
 unfold kg;rw[List.getD_eq_getElem?_getD,List.getD_eq_getElem?_getD,List.getElem?_set];by_cases e:k=i
 .rw[if_pos e.symm,if_pos h,if_pos e];rfl
 .rw[if_neg (fun g=>e g.symm),if_neg e]
theorem qy(l:List Int)(i j:Nat):(swp l i j).length=l.length:=by unfold swp;simp
theorem nV(l:List Int)(i j k:Nat)(hi:i<l.length)(hj:j<l.length):kg (swp l i j) k=if k=j then kg l i else if k=i then kg l j else kg l k:=by
 unfold swp;rw[Hi _ _ _ _ (by simpa using hj),Hi _ _ _ _ hi]
theorem xG(l:List Int)(i j:Nat)(hi:i<l.length)(hj:j<l.length):(swp l i j).Perm l:=by
 rw[List.perm_iff_count];intro x;unfold swp;rw[List.count_set (by simpa using hj),List.count_set hi,pY hi,pY hj,List.getElem_set]
 have h1:(if(l[i]==x)=true then 1 else 0)<=l.count x:=by
  split
  .rename_i h;exact List.count_pos_iff.2 (by rw[beq_iff_eq]at h;rw[<-h];exact al0 hi)
  .exact amj _
 by_cases e:i=j
 .subst e;simp only[if_true];omega
 .rw[if_neg e];omega
theorem swap_eq(l:List Int)(i j:Nat)(hi:i<l.length)(hj:j<l.length):M.cU aB (i:Int) (j:Int) l=some (swp l i j):=by
 unfold M.cU;simp only[ah hi,ah hj,alS];rw[ah (show j<(aH l (i:Int) l[j]).length by unfold aH;simpa using hj),alS];unfold swp aH;rw[pY hi,pY hj,al1,al1]
theorem Be(l:List Int)(i j:Nat)(hi:i<l.length)(hj:j<l.length):M.dJ aB l (i:Int) (j:Int)=some (decide (kg l i<kg l j)):=by
 unfold M.dJ;rw[ah hi,ah hj,pY hi,pY hj];rfl
def Tk(l:List Int)(j:Nat):Prop:=(∀k,0<k->k<l.length->k≠j->kg l (par k)<=kg l k)/\(0<j->∀k,0<k->k<l.length->par k=j->kg l (par j)<=kg l k)
theorem lV{k:Nat}(h:0<k):par k<k:=by unfold par;omega
theorem Tk.done{l:List Int}{i:Nat}(h:Tk l i)(hi:i=0\/kg l (par i)<=kg l i):rJ l l.length:=fun k h0 hk=>by
 by_cases e:k=i
 .subst e
  rcases hi with hi|hi
  .omega
  .exact hi
 .exact h.1 k h0 hk e
theorem Tk.step{l:List Int}{i:Nat}(h:Tk l i)(h0:0<i)(hi:i<l.length)(aj:kg l i<kg l (par i)):Tk (swp l (par i) i) (par i):=by
 have hp:=lV h0
 have q9:par i<l.length:=by omega
 obtain⟨h1,h2⟩:=h;have h2:=h2 h0;refine⟨fun k k0 hk bR=>?_,fun p0 k k0 hk tK=>?_⟩
 .rw[qy]at hk;rw[nV _ _ _ _ q9 hi,nV _ _ _ _ q9 hi];have tK:=lV k0;by_cases e:k=i
  .subst e;rw[if_neg (by omega),if_pos rfl,if_pos rfl];omega
  .rw[if_neg e,if_neg bR];by_cases e2:par k=i
   .rw[if_pos e2];exact h2 k k0 hk e2
   .rw[if_neg e2];by_cases e3:par k=par i
    .rw[if_pos e3];have:=h1 k k0 hk e;rw[e3]at this;omega
    .rw[if_neg e3];exact h1 k k0 hk e
 .rw[qy]at hk;rw[nV _ _ _ _ q9 hi,nV _ _ _ _ q9 hi];have P7:=lV p0;have Y1:=h1 (par i) p0 q9 (by omega);rw[if_neg (by omega),if_neg (by omega)];by_cases e:k=i
  .subst e;rw[if_pos rfl];exact Y1
  .have X4:k≠par i:=fun e2=>by
    rw[e2]at tK;omega
   rw[if_neg e,if_neg X4];have:=h1 k k0 hk e;rw[tK]at this;omega
theorem Tl{i:Nat}(h0:0<i)(hi:i<=1000000):alT.wrap (amh (alT.wrap ((i:Int)-(1:Int))) (2:Int))=((par i:Nat):Int):=by
 rw[aJ (n:=(i:Int)-1) (by omega) (by omega),amV (by omega)];unfold par;rw[aJ (by omega) (by omega)];omega
theorem W3(l:List Int)(j:Nat)(hj:j<l.length)(hl:l.length<=1000000)(hU:Tk l j):Wp (M.fU aB (j:Int) l) fun r=>r.Perm l/\rJ r r.length:=by
 unfold M.fU
 refine Wp.loop (fun s=>∃i:Nat,s.1=(i:Int)/\i<s.2.length/\s.2.Perm l/\Tk s.2 i) (fun s=>s.1.toNat) ⟨j,rfl,hj, .refl l,hU⟩ (by show(j:Int).toNat<aB;unfold aB;omega) fun s hs=>?_
 obtain⟨c,q⟩:=s;obtain⟨i,hc,hi,hp,hu⟩:=hs;dsimp only at hc hi hp hu;subst hc;have hlen:=hp.length_eq;dsimp only;by_cases h0:i=0
 .subst h0
  have e:alT.wrap (amh (alT.wrap (((0:Nat):Int)-(1:Int))) (2:Int))=((0:Nat):Int):=by decide
  rw[e,if_pos (decide_eq_true rfl),alS,if_pos rfl];exact .some ⟨hp,hu.done (.inl rfl)⟩
 .have q9:=lV (show 0<i by omega);rw[Tl (by omega) (by omega),if_neg (by rw[decide_eq_true_eq];omega),Be _ _ _ hi (by omega),alS,alS];by_cases aj:kg q i<kg q (par i)
  .rw[if_neg (by simpa using aj),swap_eq _ _ _ (by omega) hi,alS];refine .some ⟨⟨par i,rfl,by show par i<(swp q (par i) i).length;rw[qy];omega,(xG q _ _ (by omega) hi).trans hp,hu.step (by omega) hi aj⟩,?_⟩
   show((par i:Nat):Int).toNat<((i:Nat):Int).toNat
   omega
  .rw[if_pos (by simpa using aj)];exact .some ⟨hp,hu.done (.inr (by omega))⟩
def QM(l:List Int)(i n:Nat):Prop:=(∀k,0<k->k<n->par k≠i->kg l (par k)<=kg l k)/\(0<i->∀k,0<k->k<n->par k=i->kg l (par i)<=kg l k)
theorem QM.done{l:List Int}{i n:Nat}(h:QM l i n)(hi:∀k,0<k->k<n->par k=i->kg l i<=kg l k):rJ l n:=fun k h0 hk=>by
 by_cases e:par k=i
 .rw[e];exact hi k h0 hk e
 .exact h.1 k h0 hk e
theorem QM.step{l:List Int}{i j n:Nat}(h:QM l i n)(hj0:0<j)(hjn:j<n)(hn:n<=l.length)(Xa:par j=i)(aj:kg l j<kg l i)(FK:∀k,0<k->k<n->par k=i->kg l j<=kg l k):QM (swp l i j) j n:=by
 have hp:=lV hj0
 have Bm:i<l.length:=by omega
 have Bi:j<l.length:=by omega
 obtain⟨h1,h2⟩:=h;refine⟨fun k k0 hk bR=>?_,fun _ k k0 hk tK=>?_⟩
 .rw[nV _ _ _ _ Bm Bi,nV _ _ _ _ Bm Bi,if_neg bR];by_cases e:k=j
  .subst e;rw[if_pos Xa,if_pos rfl];omega
  .rw[if_neg e];by_cases e2:k=i
   .subst e2;have tK:=lV k0;rw[if_neg (by omega),if_pos rfl];exact h2 k0 j hj0 hjn Xa
   .rw[if_neg e2];by_cases e3:par k=i
    .rw[if_pos e3];exact FK k k0 hk e3
    .rw[if_neg e3];exact h1 k k0 hk e3
 .have X4:=lV k0;rw[nV _ _ _ _ Bm Bi,nV _ _ _ _ Bm Bi,Xa,if_neg (by omega),if_pos rfl,if_neg (by omega),if_neg (by omega)];have:=h1 k k0 hk (by omega);rw[tK]at this;exact this
theorem PL(l:List Int)(n:Nat)(hn:n<=l.length)(hl:l.length<=1000000)(hD:QM l 0 n):Wp (M.eZ aB (0:Int) (n:Int) l) fun r=>r.2.Perm l/\rJ r.2 n/\∀k,n<=k->kg r.2 k=kg l k:=by
 unfold M.eZ;rw[wp_bind]
 refine(?_:Wp _ fun r=>r.2.Perm l/\rJ r.2 n/\∀k,n<=k->kg r.2 k=kg l k).mono fun r hr=> .some hr
 refine Wp.loop (fun s=>∃i:Nat,s.1=(i:Int)/\i<=n/\s.2.Perm l/\QM s.2 i n/\∀k,n<=k->kg s.2 k=kg l k) (fun s=>n-s.1.toNat) ⟨0,rfl,amj _, .refl l,hD,fun _ _=>rfl⟩ (by show n-_<aB;unfold aB;omega) fun s hs=>?_
 obtain⟨c,q⟩:=s;obtain⟨i,hc,hi,hp,hu,hk⟩:=hs;dsimp only at hc hi hp hu hk;subst hc;have hlen:=hp.length_eq;dsimp only
 have e1:alT.wrap (alT.wrap ((2:Int)*(i:Int))+(1:Int))=((2*i+1:Nat):Int):=by
  rw[aJ (n:=(2:Int)*(i:Int)) (by omega) (by omega),aJ (by omega) (by omega)];omega
 have e2:alT.wrap (((2*i+1:Nat):Int)+(1:Int))=((2*i+2:Nat):Int):=by
  rw[aJ (by omega) (by omega)];omega
 rw[e1,e2];by_cases h1:n<=2*i+1
 .rw[if_pos (by rw[decide_eq_true_eq];omega),alS,if_pos rfl];exact .some ⟨hp,hu.done fun k k0 Ak tK=>by unfold par at tK;omega,hk⟩
 rw[if_neg (by rw[decide_eq_true_eq];omega),alS,if_neg (by rw[decide_eq_true_eq];omega)]
 have key:∀j:Nat,0<j->j<n->par j=i->(∀k,0<k->k<n->par k=i->kg q j<=kg q k)->Wp ((M.dJ aB q (j:Int) (i:Int)).bind fun y7=>
  (if(!y7)=true then
  some (amP ((i:Int),q))
  else
  (M.cU aB (i:Int) (j:Int) q).bind fun y8=>
  some (Sum.inl ((j:Int),y8)))) (w6 (fun s:Int×List Int=>∃i:Nat,s.1=(i:Int)/\i<=n/\s.2.Perm l/\QM s.2 i n/\∀k,n<=k->kg s.2 k=kg l k) (fun s=>n-s.1.toNat) ((i:Int),q) fun r:Int×List Int=>r.2.Perm l/\rJ r.2 n/\∀k,n<=k->kg r.2 k=kg l k):=fun j j0 hj Xa FK=>by
  have:=lV j0;rw[Be _ _ _ (by omega) (by omega),alS];by_cases aj:kg q j<kg q i
  .rw[if_neg (by simpa using aj),swap_eq _ _ _ (by omega) (by omega),alS];refine .some ⟨⟨j,rfl,by omega,(xG q _ _ (by omega) (by omega)).trans hp,hu.step j0 hj (by omega) Xa aj FK,fun k Ak=>?_⟩,?_⟩
   .show kg (swp q i j) k=kg l k
    rw[nV _ _ _ _ (by omega) (by omega),if_neg (by omega),if_neg (by omega)];exact hk k Ak
   .show n-((j:Nat):Int).toNat<n-((i:Nat):Int).toNat
    omega
  .rw[if_pos (by simpa using aj)];exact .some ⟨hp,hu.done fun k k0 Ak tK=>by have:=FK k k0 Ak tK;omega,hk⟩
 have kids:∀k,0<k->k<n->par k=i->k=2*i+1\/k=2*i+2:=fun k k0 _ tK=>by unfold par at tK;omega
 by_cases h2:2*i+2<n
 .rw[if_pos (by rw[decide_eq_true_eq];omega),Be _ _ _ (by omega) (by omega),alS,alS];by_cases aj:kg q (2*i+2)<kg q (2*i+1)
  .rw[if_pos (by simpa using aj),alS]
   exact key _ (by omega) h2 (by unfold par;omega) fun k k0 Ak tK=>by rcases kids k k0 Ak tK with rfl|rfl<;>omega
  .rw[if_neg (by simpa using aj),alS]
   exact key _ (by omega) (by omega) (by unfold par;omega) fun k k0 Ak tK=>by rcases kids k k0 Ak tK with rfl|rfl<;>omega
 .rw[if_neg (by rw[decide_eq_true_eq];omega),alS,if_neg (by decide),alS]
  exact key _ (by omega) (by omega) (by unfold par;omega) fun k k0 Ak tK=>by
   rcases kids k k0 Ak tK with rfl|rfl
   .exact am7 _
   .omega
theorem Hj(x:Int)(l:List Int)(hl:l.length<=999999)(hH:rJ l l.length):Wp (M.c9 aB x l) fun r=>r.Perm (x::l)/\rJ r r.length:=by
 unfold M.c9 M.je M.dX;rw[bh (by simp;omega)];simp only[alS]
 have e:alT.wrap (((l++[x]).length:Int)-(1:Int))=((l.length:Nat):Int):=by
  rw[aJ (by simp) (by simp;omega)];simp
 rw[e,wp_bind]
 have HL:∀k,k<l.length->kg (l++[x]) k=kg l k:=fun k hk=>by unfold kg;simp[amq hk]
 refine(W3 (l++[x]) l.length (by simp) (by simp;omega) ⟨fun k k0 hk bR=>?_,fun h0 k k0 hk tK=>?_⟩).mono fun r hr=> .some ⟨hr.1.trans (List.perm_append_singleton x l),hr.2⟩
 .have dZ:k<l.length:=by simp at hk;omega
  have:=lV k0;rw[HL _ dZ,HL _ (by omega)];exact hH k k0 dZ
 .have:=lV k0;simp at hk;omega
theorem rJ.min{l:List Int}{n:Nat}(h:rJ l n):∀k,k<n->kg l 0<=kg l k:=fun k=>by
 induction k using Nat.strongRecOn with
 |_ k ih=>
  intro hk;by_cases h0:k=0
  .subst h0;exact am7 _
  .have hp:=lV (show 0<k by omega);have:=ih (par k) hp (by omega);have:=h k (by omega) hk;omega
theorem Tm(l:List Int)(h0:0<l.length)(hl:l.length<=1000000)(hH:rJ l l.length):Wp (M.fE aB l) fun r=>l.Perm (r.1::r.2)/\rJ r.2 r.2.length/\∀y∈r.2,r.1<=y:=by
 unfold M.fE M.dX
 obtain⟨n,hn⟩:∃n,l.length=n+1:=⟨l.length-1,by omega⟩
 have e:alT.wrap ((l.length:Int)-(1:Int))=((n:Nat):Int):=by rw[aJ (by omega) (by omega)];omega
 rw[alS,e];have sw:=swap_eq l 0 n (by omega) (by omega);rw[show((0:Nat):Int)=(0:Int)from rfl]at sw;rw[sw,alS,wp_bind]
 have hs:=fun k=>nV l 0 n k (by omega) (by omega)
 refine(PL (swp l 0 n) n (by rw[qy];omega) (by rw[qy];omega) ⟨fun k k0 hk bR=>?_,fun h=>by omega⟩).mono fun r hr=>?_
 .have:=lV k0;rw[hs,hs,if_neg (by omega),if_neg bR,if_neg (by omega),if_neg (by omega)];exact hH k k0 (by omega)
 .obtain⟨b,q⟩:=r;obtain⟨h1,h2,h3⟩:=hr;dsimp only at h1 h2 h3⊢
  have hq:q.length=n+1:=by rw[h1.length_eq,qy];exact hn
  have e2:alT.wrap ((q.length:Int)-(1:Int))=((n:Nat):Int):=by rw[aJ (by omega) (by omega)];omega
  have hqn:q[n]'(by omega)=kg l 0:=by
   rw[<-pY (l:=q) (by omega),h3 n (alZ _),hs];by_cases e0:n=0
   .rw[if_pos rfl]
   .rw[if_pos rfl]
  unfold M.lO;rw[e2,ah (by omega),alS,gG (by omega),alS,alS]
  have QN:l.Perm (q[n]'(by omega)::q.take n):=by
   have e3:q=q.take n++[q[n]'(by omega)]:=by
    rw[List.take_append_getElem (by omega),<-hq,amc]
   refine((xG l 0 n (by omega) (by omega)).symm.trans h1.symm).trans ?_;have:(q.take n++[q[n]'(by omega)]).Perm (q[n]'(by omega)::q.take n):=List.perm_append_singleton _ _;rw[<-e3]at this;exact this
  refine .some ⟨QN,fun k k0 hk=>?_,fun y hy=>?_⟩
  .have ht:(q.take n).length=n:=by rw[amd];omega
   have hk:k<n:=by rw[<-ht];exact hk
   have tK:=lV k0
   have tk:∀i,i<n->kg (q.take n) i=kg q i:=fun i hi=>by unfold kg;simp[amv,hi]
   show kg (q.take n) (par k)<=kg (q.take n) k
   rw[tk _ hk,tk _ (by omega)];exact h2 k k0 hk
  .show q[n]'(by omega)<=y
   rw[hqn];have:y∈l:=QN.symm.subset (List.mem_cons_of_mem _ hy);obtain⟨k,hk,rfl⟩:=amb this;rw[<-pY hk];exact hH.min k hk
end L
end Go.Proofs.YtmihpkfkbfgigaaGreatDoor
end
section
open _root_.Classical renaming byContradiction->anu
open _root_.Int renaming eq_ofNat_of_zero_le->al8,le_refl->am7,toNat_natCast->al1,toNat_of_nonneg->ana
open _root_.Go.IntKind renaming i64->alT
open _root_.List renaming countP_eq_zero->anP,drop_eq_getElem_cons->amx,getElem_append_left->al5,getElem_append_right->ame,getElem_mem->al0,getElem_of_mem->amb,length_append->alY,length_cons->al9,length_eq_zero_iff->am1,length_set->ans,mem_append->amf,mem_cons->amg,mem_map->anq,mem_singleton->ama,pairwise_cons->anf,take_append_of_le_length->aml,take_length->amc
open _root_.Nat renaming add_zero->am0,le_refl->alZ,zero_le->amj
open _root_.Option renaming bind_some->alS
open _root_.Option.some renaming inj->alU
open _root_.Sum renaming inr->amP
namespace Go.Proofs.YtmihpkfkbfgigaaGreatDoor
open Go Go.RowKit
set_option maxRecDepth 100000
set_option linter.unusedSimpArgs false
set_option linter.unusedVariables false
namespace L
def M9(s:gw)(p:List Int)(d:Int):Prop:=(0<=d/\d<(s.2.2.2.1.length:Int))/\d∉p/\∀y,Dp s d y->y∈p
def qF(s:gw)(o:List Int):Prop:=∀k,∀h:k<o.length,M9 s (o.take k) o[k]/\∀d,M9 s (o.take k) d->o[k]<=d
theorem qF.snoc{s:gw}{o:List Int}{x:Int}(h:qF s o)(hx:M9 s o x)(hm:∀d,M9 s o d->x<=d):qF s (o++[x]):=fun k hk=>by
 by_cases e:k<o.length
 .have:=h k e;rw[al5 e,aml (by omega)];exact this
 .have e:k=o.length:=by simp at hk;omega
  subst e;rw[ame (alZ _),List.take_left']
  .simpa using⟨hx,hm⟩
  .rfl
theorem qF.mem{s:gw}{o:List Int}(h:qF s o){x:Int}(hx:x∈o):(0<=x/\x<(s.2.2.2.1.length:Int))/\∀y,Dp s x y->y∈o:=by
 obtain⟨k,hk,rfl⟩:=amb hx;obtain⟨h1,_⟩:=h k hk;exact⟨h1.1,fun y hy=>List.mem_of_mem_take (h1.2.2 y hy)⟩
theorem qF.nodup{s:gw}{o:List Int}(h:qF s o):o.Nodup:=by
 rw[List.nodup_iff_pairwise_ne,List.pairwise_iff_getElem];intro i j hi hj N8 e;refine(h j hj).1.2.1 ?_;rw[<-e];rw[List.mem_take_iff_getElem];exact⟨i,by omega,rfl⟩
theorem sT{n:Nat}{l:List Int}(hn:l.Nodup)(h:∀x∈l,0<=x/\x<(n:Int)):l.length<=n:=by
 have:=qx (m:=(List.range n).map fun k:Nat=>(k:Int)) hn fun y hy=>by
  obtain⟨a,b⟩:=h y hy;exact anq.2 ⟨y.toNat,List.mem_range.2 (by omega),by omega⟩
 simpa using this
theorem qF.len{s:gw}{o:List Int}(h:qF s o):o.length<=s.2.2.2.1.length:=sT h.nodup fun x hx=>(h.mem hx).1
theorem QO{α:Type}{l:List α}{i:Int}(h:0<=i):idx l i=l[i.toNat]? :=by unfold idx;rw[if_pos h]
theorem DI{α:Type}(l:List α)(i:Int)(v:α)(u:Nat)(hi:i.toNat<l.length):(aH l i v)[u]? =if u=i.toNat then some v else l[u]? :=by
 unfold aH;rw[List.getElem?_set];by_cases e:u=i.toNat
 .rw[if_pos e.symm,if_pos hi,if_pos e]
 .rw[if_neg (fun g=>e g.symm),if_neg e]
structure Na(L:List (List Int))(n k:Nat)(U:List (List Int))(W H:List Int):Prop where
 ul:U.length=n
 wl:W.length=n
 u:∀e,∀h:e<U.length,U[e].length<=6000*k/\∀u:Int,U[e].count u=if 0<=u/\u<(k:Int)then(L.getD u.toNat []).count (e:Int)else 0
 w:∀u,u<k->W[u]? =some ((L.getD u []).length:Int)
 hp:rJ H H.length
 nd:H.Nodup
 h:∀u:Int,u∈H↔(0<=u/\u<(k:Int))/\L.getD u.toNat []=[]
theorem Na.hl{L:List (List Int)}{n k:Nat}{U:List (List Int)}{W H:List Int}(h:Na L n k U W H):H.length<=k:=sT h.nd fun x hx=>((h.h x).1 hx).1
structure ad0(s:gw)(L:List (List Int))(n:Nat)(W O H:List Int):Prop where
 wl:W.length=n
 o:qF s O
 w:∀u,u<n->W[u]? =some (((L.getD u []).countP fun y=>decide (y∉O):Nat):Int)
 hp:rJ H H.length
 nd:H.Nodup
 h:∀u:Int,u∈H↔M9 s O u
structure Xb(s:gw)(L:List (List Int))(n:Nat)(O l:List Int)(W H:List Int):Prop where
 wl:W.length=n
 w:∀u,u<n->W[u]? =some (((L.getD u []).countP (fun y=>decide (y∉O))+l.count (u:Int):Nat):Int)
 hp:rJ H H.length
 nd:H.Nodup
 h:∀u:Int,u∈H↔(0<=u/\u<(n:Int))/\u∉O/\W[u.toNat]? =some 0
theorem Xb.hl{s:gw}{L:List (List Int)}{n:Nat}{O l W H:List Int}(h:Xb s L n O l W H):H.length<=n:=sT h.nd fun x hx=>((h.h x).1 hx).1
theorem getD_some{L:List (List Int)}{u:Nat}(h:u<L.length):L.getD u []=L[u]:=by simp[h]
theorem DJ(l O:List Int)(x:Int)(hx:x∉O):l.countP (fun y=>decide (y∉O))=l.countP (fun y=>decide (y∉O++[x]))+l.count x:=by
 induction l with
 |nil=>rfl
 |cons y l ih=>
  rw[List.countP_cons,List.countP_cons,List.count_cons,ih];by_cases e:y=x
  .subst e;simp[hx];omega
  .by_cases h:y∈O
   .simp[h,e]
   .simp[h,e];omega
theorem Nb(l:List Int)(d n:Nat)(U:List (List Int))(hU:U.length=n)(hl:l.length<=6000)(hr:∀y∈l,0<=y/\y<(n:Int))(hb:∀e,∀h:e<U.length,U[e].length<=100000):Wp (Loop (S:=Int×List (List Int)) (X:=List (List Int)) (fun qp=>
 (if(decide (qp.1<(l.length:Int)))=true then
 (idx l qp.1).bind fun sW=>
 (idx qp.2 sW).bind fun E7=>
 (idx qp.2 sW).bind fun LX=>
 (bZ LX ([(d:Int)]:List Int)).bind fun l17=>
 (idx qp.2 sW).bind fun DV=>
 (if decide (sW=sW)=true then
 (idx qp.2 sW).bind fun RR=>
 some (Sum.inl (alT.wrap (qp.1+(1:Int)),pn qp.2 sW (fun m20=>l17)))
 else none)
 else
 some (amP qp.2))) aB ((0:Int),U)) fun V=>V.length=n/\∀e,∀h:e<V.length,∀h':e<U.length,V[e].length<=U[e].length+l.length/\∀u:Int,V[e].count u=U[e].count u+if u=(d:Int)then l.count (e:Int)else 0:=by
 refine Wp.count (fun s=>s.1) l.length (fun k s=>s.2.length=n/\∀e,∀h:e<s.2.length,∀h':e<U.length,s.2[e].length<=U[e].length+k/\∀u:Int,s.2[e].count u=U[e].count u+if u=(d:Int)then(l.take k).count (e:Int)else 0) (by omega) rfl ⟨hU,fun e h h'=>⟨alZ _,fun u=>by simp⟩⟩ fun k s hk hs hJ=>?_
 obtain⟨i,V⟩:=s;obtain⟨hV,hJ⟩:=hJ;dsimp only at hs hV hJ;subst hs;simp only[W_,implies_true,forall_const,reduceCtorEq,ba,aS];refine⟨fun aj=>?_,fun hge=>?_⟩
 .have aj:k<l.length:=by omega
  obtain⟨a0,a1⟩:=hr _ (al0 aj);obtain⟨x,hx⟩:=al8 a0
  have hxV:x<V.length:=by omega
  simp only[ah aj,hx,ah hxV,bV (m:=l.length) (by omega) aj,W_,implies_true,forall_const,reduceCtorEq];have hbx:=(hJ x hxV (by omega)).1;have:=hb x (by omega);refine nR.2 ⟨by simp;omega,trivial |> fun _=>⟨aj,by rw[iU];exact hV,fun e h h'=>?_⟩⟩
  have he:e<V.length:=by rw[iU]at h;exact h
  have KP:l.take (k+1)=l.take k++[l[k]]:=(List.take_append_getElem aj).symm;rw[vw h he,KP,hx]
  by_cases e0:(x:Int)=(e:Int)
  .rw[if_pos e0]
   have e0:x=e:=by omega
   subst e0;refine⟨by rw[alY];simp;omega,fun u=>?_⟩;rw[List.count_append,(hJ x he (by omega)).2,List.count_append]
   by_cases eu:u=(d:Int)
   .rw[if_pos eu,if_pos eu,eu];simp;omega
   .rw[if_neg eu,if_neg eu];have:List.count u [(d:Int)]=0:=List.count_eq_zero.2 (by simpa using eu);omega
  .rw[if_neg e0];refine⟨by have:=(hJ e he h').1;omega,fun u=>?_⟩;rw[(hJ e he h').2,List.count_append];have:List.count (e:Int) [(x:Int)]=0:=List.count_eq_zero.2 (by simp;omega);rw[this];rfl
 .obtain rfl:k=l.length:=by omega
  rw[amc]at hJ;exact⟨hV,hJ⟩
theorem PM(s:gw)(L:List (List Int))(n:Nat)(O l W H:List Int)(x:Int)(hn:n<=14)(Bh:l.length<=100000)(hL:∀u,(L.getD u []).length<=6000)(hI:Xb s L n O l W H)
 (hl:∀u∈l,(0<=u/\u<(n:Int))/\u∉O)(Q:((List Int×List Int×List Int)⊕(List Int×List Int))->Prop)(hQ:∀W' H',Xb s L n O [] W' H'->Q (.inl (W',O,H'))):Wp (Loop (S:=Int×(List Int)×List Int) (X:=((List Int)×(List Int)×List Int)⊕((List Int)×List Int)) (fun u9=>
   (if(decide (u9.1<(l.length:Int)))=true then
   ((idx l u9.1).bind fun CQ=>
   (idx u9.2.1 CQ).bind fun R8=>
   (idx u9.2.1 CQ).bind fun x32=>
   (idx (aH u9.2.1 CQ (alT.wrap (R8-(1:Int)))) CQ).bind fun NA=>
   (if(decide (NA=(0:Int)))=true then
   (M.c9 aB CQ u9.2.2).bind fun y34=>
   some (aH u9.2.1 CQ (alT.wrap (R8-(1:Int))),y34)
   else
   some (aH u9.2.1 CQ (alT.wrap (R8-(1:Int))),u9.2.2)):Option ((List Int)×List Int)).bind fun VU=>
   some (Sum.inl (alT.wrap (u9.1+(1:Int)),VU.1,VU.2))
   else
   some (amP (Sum.inl (u9.2.1,O,u9.2.2))))) aB ((0:Int),W,H)) Q:=by
 refine Wp.count (fun s=>s.1) l.length (fun k z=>Xb s L n O (l.drop k) z.2.1 z.2.2) (by omega) rfl hI fun k z hk hs hJ=>?_
 obtain⟨i,V,G⟩:=z;dsimp only at hs hJ;subst hs
 refine Wp.dec (fun aj=>?_) fun hge=>?_
 .have aj:k<l.length:=by dsimp only at aj;omega
  obtain⟨⟨a0,a1⟩,a2⟩:=hl _ (al0 aj);have kD:l.drop k=l[k]::l.drop (k+1):=amx aj;obtain⟨u,hu⟩:=al8 a0;rw[hu]at a1 a2 kD
  have xM:u<n:=by omega
  have hVl:=hJ.wl;have hw:=hJ.w u xM;rw[kD,List.count_cons_self]at hw
  obtain⟨a,ha⟩:∃a,a=(L.getD u []).countP (fun y=>decide (y∉O)):=⟨_,rfl⟩
  obtain⟨b,hb⟩:∃b,b=(l.drop (k+1)).count (u:Int):=⟨_,rfl⟩
  have we:a<=6000:=by rw[ha];exact Nat.le_trans List.countP_le_length (hL u)
  have D6:b<=100000:=by rw[hb];exact Nat.le_trans List.count_le_length (by rw[List.length_drop];omega)
  rw[<-ha,<-hb]at hw
  have iw:idx V (u:Int)=some ((a+(b+1):Nat):Int):=by rw[QO (by omega)];exact hw
  have ew:alT.wrap (((a+(b+1):Nat):Int)-(1:Int))=((a+b:Nat):Int):=by rw[aJ (by omega) (by omega)];omega
  have iv:idx (aH V (u:Int) ((a+b:Nat):Int)) (u:Int)=some ((a+b:Nat):Int):=by
   rw[QO (by omega),DI _ _ _ _ (by omega),if_pos rfl]
  dsimp only;rw[ah aj,hu,alS,iw,alS,alS,ew,iv,alS]
  have w':∀v,v<n->(aH V (u:Int) ((a+b:Nat):Int))[v]? =some (((L.getD v []).countP (fun y=>decide (y∉O))+(l.drop (k+1)).count (v:Int):Nat):Int):=fun v hv=>by
   rw[DI _ _ _ _ (by omega)];by_cases e:v=u
   .subst e;rw[if_pos (by omega),<-ha,<-hb]
   .rw[if_neg (by omega),hJ.w v hv,kD,List.count_cons_of_ne (by omega)]
  have nH:(u:Int)∉G:=fun g=>by
   have:=((hJ.h _).1 g).2.2;rw[al1,hw]at this;cases this
  have hGl:=hJ.hl;by_cases e0:a+b=0
  .rw[if_pos (by rw[decide_eq_true_eq];omega),wp_bind,wp_bind]
   refine(Hj _ _ (by omega) hJ.hp).mono fun r hr=> .some (.some ⟨aj,?_,?_⟩)
   .exact bV (m:=l.length) (by omega) aj
   .refine⟨by show(aH V _ _).length=n;unfold aH;rw[ans];exact hVl,w',hr.2,hr.1.nodup_iff.2 (List.nodup_cons.2 ⟨nH,hJ.nd⟩),fun v=>?_⟩
    show v∈r↔_/\_/\(aH V _ _)[v.toNat]? =some 0
    rw[hr.1.mem_iff,amg,DI _ _ _ _ (by omega),hJ.h v]
    by_cases e:v=(u:Int)
    .subst e;rw[if_pos rfl];exact⟨fun _=>⟨⟨by omega,a1⟩,a2,by rw[e0];rfl⟩,fun _=> .inl rfl⟩
    .constructor
     .rintro(h|⟨h1,h2,h3⟩)
      .exact absurd h e
      .rw[if_neg (by omega)];exact⟨h1,h2,h3⟩
     .rintro⟨h1,h2,h3⟩
      rw[if_neg (by omega)]at h3;exact .inr ⟨h1,h2,h3⟩
  .rw[if_neg (by rw[decide_eq_true_eq];omega),alS];refine .some ⟨aj,?_,?_⟩
   .exact bV (m:=l.length) (by omega) aj
   .refine⟨by show(aH V _ _).length=n;unfold aH;rw[ans];exact hVl,w',hJ.hp,hJ.nd,fun v=>?_⟩
    show v∈G↔_/\_/\(aH V _ _)[v.toNat]? =some 0
    rw[DI _ _ _ _ (by omega),hJ.h v]
    by_cases e:v=(u:Int)
    .subst e;rw[if_pos rfl];refine⟨fun h=>absurd ((hJ.h _).2 h) nH,fun h=>?_⟩;have:=alU h.2.2;omega
    .constructor
     .rintro⟨h1,h2,h3⟩
      rw[if_neg (by omega)];exact⟨h1,h2,h3⟩
     .rintro⟨h1,h2,h3⟩
      rw[if_neg (by omega)]at h3;exact⟨h1,h2,h3⟩
 .have hge:k=l.length:=by dsimp only at hge;omega
  subst hge;rw[List.drop_length]at hJ;exact .some (hQ _ _ hJ)
theorem Nc(s:gw)(hs:iE s):Wp (M.cA aB s) fun r=>∃o,qF s o/\(∀d,¬M9 s o d)/\r=if o.length<s.2.2.2.1.length then((9:Int),([]:List Int))else((0:Int),o):=by
 have Db:=hs.2.2.1;unfold M.cA
 refine Wp.seq (Te s) ?_ fun L hL=>?_
 .have e:M.k7 aB s=M.jc aB s:=rfl;rw[e,wp_bind]
  exact(sQ s hs).mono fun L hL=> .some hL
 obtain⟨hLl,hL⟩:=hL
 have Xc:∀a b,Dp s a b->0<=b/\b<(s.2.2.2.1.length:Int):=fun a b h=>(np s a).2 b h
 have hLq:∀u,(L.getD u []).length<=6000:=fun u=>by
  by_cases h:u<L.length
  .rw[getD_some h];exact(hL u h).1
  .rw[List.getD_eq_getElem?_getD,List.getElem?_eq_none (by omega)];exact amj _
 have J2:∀u:Nat,u<s.2.2.2.1.length->∀y,y∈L.getD u []↔Dp s (u:Int) y:=fun u hu y=>by
  rw[getD_some (by omega)];exact(hL u (by omega)).2 y
 obtain⟨n,hn⟩:∃n,n=s.2.2.2.1.length:=⟨_,rfl⟩
 rw[<-hn]at Db hLl Xc J2⊢;rw[wp_bind];refine rr.2 ⟨by omega,?_⟩;rw[wp_bind];refine rr.2 ⟨by omega,?_⟩;rw[al1,hLl]
 refine Wp.seq (fun z=>Na L n n z.1 z.2.1 z.2.2) ?_ fun z hz=>?_
 .rw[wp_bind]
  refine Wp.mono (Q:=fun z=>Na L n n z.1 z.2.1 z.2.2) ?_ fun z hz=> .some hz
  refine Wp.count (fun z=>z.1) n (fun k z=>Na L n k z.2.1 z.2.2.1 z.2.2.2) (by omega) rfl ⟨by simp,by simp,fun e h=>⟨by simp,fun u=>?_⟩,fun u hu=>by omega,fun k h0 h1=>(by cases h1),List.nodup_nil,fun u=>?_⟩ fun k z hk hz hJ=>?_
  .rw[if_neg (by omega)];simp
  .exact⟨fun h=>(by cases h),fun h=>by omega⟩
  obtain⟨i,U,W,H⟩:=z;dsimp only at hz hJ;subst hz
  refine Wp.dec (fun aj=>?_) fun hge=>?_
  .have aj:k<n:=by dsimp only at aj;omega
   have QP:k<L.length:=by omega
   have hUl:=hJ.ul;have hWl:=hJ.wl;dsimp only;rw[ah QP,alS,ah (show k<W.length by omega),alS,wp_bind,wp_bind,wp_bind];have hHl:=hJ.hl
   refine(Nb L[k] k n U hUl (hL k QP).1 (fun y hy=>Xc _ _ (((hL k QP).2 y).1 hy)) fun e h=>by have:=(hJ.u e h).1;omega).mono fun V hV=>?_
   have uu:∀e,∀h:e<V.length,V[e].length<=6000*(k+1)/\∀u:Int,V[e].count u=if 0<=u/\u<((k+1:Nat):Int)then(L.getD u.toNat []).count (e:Int)else 0:=fun e h=>by
    have hV1:=hV.1;obtain⟨g1,g2⟩:=hV.2 e h (by omega);obtain⟨f1,f2⟩:=hJ.u e (by omega);have:=(hL k QP).1;refine⟨by omega,fun u=>?_⟩;rw[g2,f2]
    by_cases eu:u=(k:Int)
    .subst eu;rw[if_neg (by omega),if_pos rfl,if_pos (by omega),al1,getD_some QP];omega
    .rw[if_neg eu];by_cases h1:0<=u/\u<(k:Int)
     .rw[if_pos h1,if_pos (by omega)];rfl
     .rw[if_neg h1,if_neg (by omega)]
   have ww:∀u,u<k+1->(aH W (k:Int) (L[k].length:Int))[u]? =some ((L.getD u []).length:Int):=fun u hu=>by
    rw[DI _ _ _ _ (by omega)];by_cases e:u=k
    .subst e;rw[if_pos (by omega),getD_some QP]
    .rw[if_neg (by omega),hJ.w u (by omega)]
   have wl:(aH W (k:Int) (L[k].length:Int)).length=n:=by unfold aH;rw[ans];exact hWl
   by_cases e0:L[k].length=0
   .rw[if_pos (by rw[decide_eq_true_eq];omega),wp_bind]
    refine(Hj _ _ (by omega) hJ.hp).mono fun r hr=> .some (.some (.some ⟨aj,bV (m:=n) (by omega) aj,⟨hV.1,wl,uu,ww,hr.2,hr.1.nodup_iff.2 (List.nodup_cons.2 ⟨fun g=>?_,hJ.nd⟩),fun u=>?_⟩⟩))
    .have:=((hJ.h _).1 g).1;omega
    .show u∈r↔_
     rw[hr.1.mem_iff,amg,hJ.h u]
     by_cases eu:u=(k:Int)
     .subst eu;rw[al1,getD_some QP];exact⟨fun _=>⟨by omega,am1.1 e0⟩,fun _=> .inl rfl⟩
     .constructor
      .rintro(h|⟨h1,h2⟩)
       .exact absurd h eu
       .exact⟨by omega,h2⟩
      .rintro⟨h1,h2⟩
       exact .inr ⟨by omega,h2⟩
   .rw[if_neg (by rw[decide_eq_true_eq];omega)];refine .some (.some (.some ⟨aj,bV (m:=n) (by omega) aj,⟨hV.1,wl,uu,ww,hJ.hp,hJ.nd,fun u=>?_⟩⟩))
    show u∈H↔_
    rw[hJ.h u]
    by_cases eu:u=(k:Int)
    .subst eu;rw[al1,getD_some QP];exact⟨fun h=>by omega,fun h=>absurd (by rw[h.2];rfl) e0⟩
    .exact⟨fun⟨h1,h2⟩=>⟨by omega,h2⟩,fun⟨h1,h2⟩=>⟨by omega,h2⟩⟩
  .have hge:k=n:=by dsimp only at hge;omega
   subst hge;exact .some hJ
 obtain⟨U,W,H⟩:=z;dsimp only at hz⊢;have hUl:=hz.ul
 have hU:∀e,∀h:e<U.length,U[e].length<=100000/\∀u:Int,U[e].count u=if 0<=u/\u<(n:Int)then(L.getD u.toNat []).count (e:Int)else 0:=fun e h=>⟨by have:=(hz.u e h).1;omega,(hz.u e h).2⟩
 refine Wp.seq (fun z=>qF s z.1/\z.2=[]/\∀d,¬M9 s z.1 d) ?_ fun z hq=>?_
 .refine Wp.loop (fun z=>ad0 s L n z.1 z.2.1 z.2.2) (fun z=>n-z.2.1.length) ⟨hz.wl,fun k h=>(by cases h),fun u hu=>?_,hz.hp,hz.nd,fun u=>?_⟩ (by show n-_<aB;unfold aB;omega) fun z hI=>?_
  .rw[hz.w u hu]
   congr 2
   exact(List.countP_eq_length.2 fun a _=>by simp).symm
  .rw[hz.h u];unfold M9;rw[<-hn];constructor
   .rintro⟨h1,h2⟩
    refine⟨h1,by simp,fun y hy=>?_⟩;have:=(J2 u.toNat (by omega) y).2 (by rw[ana h1.1];exact hy);rw[h2]at this;cases this
   .rintro⟨h1,_,h2⟩
    refine⟨h1,List.eq_nil_iff_forall_not_mem.2 fun y hy=>?_⟩;have:=(J2 u.toNat (by omega) y).1 hy;rw[ana h1.1]at this;cases h2 y this
  obtain⟨W,O,H⟩:=z;dsimp only at hI⊢;have hO:=hI.o;have hOl:=hO.len;rw[<-hn]at hOl
  have hHl:H.length<=n:=sT hI.nd fun x hx=>by
   have:=((hI.h x).1 hx).1;rw[<-hn]at this;exact this
  unfold M.dX;rw[alS]
  refine Wp.dec (fun h0=>?_) fun h0=>?_
  .have h0:0<H.length:=by omega
   rw[wp_bind]
   refine(Tm H h0 (by omega) hI.hp).mono fun r hr=>?_
   obtain⟨x,G⟩:=r;obtain⟨hp,hG,FK⟩:=hr;dsimp only at hp hG FK⊢;have hxH:x∈H:=hp.symm.subset (by simp);have hx:=(hI.h x).1 hxH;have Oe:=hp.nodup_iff.1 hI.nd;obtain⟨hxG,hGn⟩:=List.nodup_cons.1 Oe
   have hO':qF s (O++[x]):=hO.snoc hx fun d hd=>by
    have:d∈H:=(hI.h d).2 hd
    rcases amg.1 (hp.subset this)with rfl|h
    .exact am7 _
    .exact FK d h
   have Xd:=hO'.len;rw[<-hn,alY]at Xd;simp only[al9,List.length_nil]at Xd;rw[bh (by simp;omega),alS];have P4:=hx.1;rw[<-hn]at P4;obtain⟨e,he⟩:=al8 P4.1
   have heU:e<U.length:=by omega
   rw[he,ah heU,alS,<-he];obtain⟨f1,f2⟩:=hU e heU;rw[<-he]at f2
   have inU:∀u∈U[e],(0<=u/\u<(n:Int))/\Dp s u x:=fun u hu=>by
    have h1:=List.count_pos_iff.2 hu;rw[f2]at h1;by_cases hc:0<=u/\u<(n:Int)
    .rw[if_pos hc]at h1;refine⟨hc,?_⟩;have:=(J2 u.toNat (by omega) x).1 (List.count_pos_iff.1 h1)
     rwa [ana hc.1]at this
    .rw[if_neg hc]at h1;omega
   refine PM s L n (O++[x]) U[e] W G x Db f1 hLq ⟨hI.wl,fun u hu=>?_,hG,hGn,fun u=>?_⟩ (fun u hu=>?_) _ fun W' H' h'=>?_
   .rw[hI.w u hu,f2,if_pos (by omega),al1,DJ _ _ _ hx.2.1]
   .have JF:u∈G↔u∈H/\u≠x:=by
     rw[hp.mem_iff,amg];exact⟨fun h=>⟨.inr h,fun e=>hxG (e▸h)⟩,fun h=>h.1.resolve_left h.2⟩
    rw[JF,hI.h u];unfold M9;rw[<-hn];constructor
    .rintro⟨⟨h1,h2,h3⟩,h4⟩
     refine⟨h1,by simp[h2,h4],?_⟩;rw[hI.w u.toNat (by omega)]
     congr 2
     rw[anP];intro y hy;have:=(J2 u.toNat (by omega) y).1 hy;rw[ana h1.1]at this;simpa using h3 y this
    .rintro⟨h1,h2,h3⟩
     rw[hI.w u.toNat (by omega)]at h3
     have h3:(L.getD u.toNat []).countP (fun y=>decide (y∉O))=0:=by
      have:=alU h3;omega
     rw[anP]at h3;simp only[amf,ama,not_or]at h2;refine⟨⟨h1,h2.1,fun y hy=>?_⟩,h2.2⟩;have:=h3 y ((J2 u.toNat (by omega) y).2 (by rw[ana h1.1];exact hy));simpa using this
   .obtain⟨h1,h2⟩:=inU u hu;refine⟨h1,fun h=>?_⟩
    rcases amf.1 h with h|h
    .exact hx.2.1 ((hO.mem h).2 x h2)
    .rw[ama.1 h]at h2;exact hx.2.1 (hx.2.2 x h2)
   .refine⟨⟨h'.wl,hO',fun u hu=>?_,h'.hp,h'.nd,fun u=>?_⟩,?_⟩
    .have:=h'.w u hu;rw[List.count_nil,am0]at this;exact this
    .rw[h'.h u];unfold M9;rw[<-hn];constructor
     .rintro⟨h1,h2,h3⟩
      refine⟨h1,h2,fun y hy=>?_⟩;rw[h'.w u.toNat (by omega),List.count_nil,am0]at h3
      have h3:(L.getD u.toNat []).countP (fun y=>decide (y∉O++[x]))=0:=by
       have:=alU h3;omega
      rw[anP]at h3;have:=h3 y ((J2 u.toNat (by omega) y).2 (by rw[ana h1.1];exact hy))
      exact anu fun g=>this (decide_eq_true g)
     .rintro⟨h1,h2,h3⟩
      refine⟨h1,h2,?_⟩;rw[h'.w u.toNat (by omega),List.count_nil,am0]
      congr 2
      rw[anP];intro y hy;have:=(J2 u.toNat (by omega) y).1 hy;rw[ana h1.1]at this
      exact fun g=>of_decide_eq_true g (h3 y this)
    .show n-(O++[x]).length<n-O.length
     rw[alY];simp only[al9,List.length_nil];omega
  .have h0:H=[]:=am1.1 (by omega);subst h0;exact .some ⟨hO,rfl,fun d hd=>by cases(hI.h d).2 hd⟩
 .obtain⟨O,H⟩:=z;obtain⟨h1,h2,h3⟩:=hq;dsimp only at h1 h2 h3⊢
  refine Wp.dec (fun h=> .some ⟨O,h1,h3,?_⟩) fun h=> .some ⟨O,h1,h3,?_⟩
  .rw[if_pos (by omega)]
  .rw[if_neg (by omega)]
theorem JG{s:gw}{o:List Int}(h:qF s o)(hr:∀d,¬M9 s o d)(hc:∀d:Nat,d<s.2.2.2.1.length->¬FB (Dp s) (d:Int) (d:Int)):o.length=s.2.2.2.1.length:=by
 refine Nat.le_antisymm h.len (Nat.le_of_not_lt fun aj=>?_)
 have Xc:∀a b,Dp s a b->0<=b/\b<(s.2.2.2.1.length:Int):=fun a b h=>(np s a).2 b h
 obtain⟨n,hn⟩:∃n,n=s.2.2.2.1.length:=⟨_,rfl⟩
 rw[<-hn]at aj hc Xc
 have next:∀d:Int,(0<=d/\d<(n:Int))->d∉o->∃e,Dp s d e/\e∉o:=fun d hd Xy=>anu fun bR=>by
  refine hr d ⟨by rw[<-hn];exact hd,Xy,fun y hy=>anu fun BV=>bR ⟨y,hy,BV⟩⟩
 have start:∃d:Int,(0<=d/\d<(n:Int))/\d∉o:=anu fun bR=>by
  have:((List.range n).map fun k:Nat=>(k:Int)).length<=o.length:=qx (List.Pairwise.map _ (fun a b(h:a≠b)e=>h (by omega)) List.nodup_range) fun y hy=>by
   obtain⟨k,hk,rfl⟩:=anq.1 hy
   exact anu fun h=>bR ⟨(k:Int),by have:=List.mem_range.1 hk;omega,h⟩
  simp at this;omega
 have walk:∀m,∃l:List Int,l.length=m+1/\(∀x∈l,(0<=x/\x<(n:Int))/\x∉o)/\l.Pairwise fun a b=>FB (Dp s) b a:=by
  intro m
  induction m with
  |zero=>
   obtain⟨d,h1,h2⟩:=start;exact⟨[d],rfl,fun x hx=>by rw[ama.1 hx];exact⟨h1,h2⟩,by simp⟩
  |succ m ih=>
   obtain⟨l,hl,hm,hp⟩:=ih
   cases l with
   |nil=>cases hl
   |cons x t=>
    obtain⟨e,h1,h2⟩:=next x (hm x (by simp)).1 (hm x (by simp)).2
    refine⟨e::x::t,by simp only[al9]at hl⊢;omega,fun y hy=>?_,anf.2 ⟨fun y hy=>?_,hp⟩⟩
    .rcases amg.1 hy with rfl|hy
     .exact⟨Xc _ _ h1,h2⟩
     .exact hm y hy
    .rcases amg.1 hy with rfl|hy
     .exact .one h1
     .exact .step ((anf.1 hp).1 y hy) h1
 obtain⟨l,hl,hm,hp⟩:=walk n
 have nd:l.Nodup:=by
  refine hp.imp_of_mem fun{a b}ha hb we=>fun e=>?_
  subst e;obtain⟨h1,_⟩:=hm a ha;have:=hc a.toNat (by omega);rw[ana h1.1]at this;exact this we
 have:=sT nd fun x hx=>(hm x hx).1
 omega
end L
end Go.Proofs.YtmihpkfkbfgigaaGreatDoor
end
section
open _root_.Int renaming eq_ofNat_of_zero_le->al8,toNat_natCast->al1
open _root_.List renaming getElem?_eq_getElem->alV,getElem_append_left->al5,getElem_append_right->ame,getElem_mem->al0,getElem_of_mem->amb
open _root_.Option renaming bind_some->alS
namespace Go.Proofs.YtmihpkfkbfgigaaGreatDoor
open Go Go.RowKit
set_option maxRecDepth 100000
set_option linter.unusedSimpArgs false
set_option linter.unusedVariables false
namespace L
theorem zH{e:List Ty}{s:ov}{t:Ty}(h:rE e s t=0):(D2 e s).2.2=0/\(D2 e s).1=t:=by
 unfold rE at h;by_cases h1:(D2 e s).2.2=0
 .rw[if_neg (fun g=>g h1)]at h;by_cases h2:(D2 e s).1=t
  .exact⟨h1,h2⟩
  .rw[if_pos h2]at h;cases h
 .rw[if_pos h1]at h;exact absurd h h1
def OfT(e:List Ty)(s:ov)(t:Ty):Prop:=∃r,M.fS aB e s=some r/\r.2.2=0/\r.1=t
theorem rK{l:Lw}{x:gw}(hw:WF aw x){j:Nat}(hj:j<x.2.2.2.2.length)(h0:pP l x j x.2.2.2.2[j]=0):
 (∃k,∃hk:k<x.2.2.2.1.length,(x.2.2.2.2[j].2.1:Int)=(k:Int)/\OfT x.2.2.2.2[j].2.2.2.2.2.2.1 (dt l x) x.2.2.2.1[k].2)/\(0<x.2.2.2.2[j].2.2.2.2.2.1.length->OfT x.2.2.2.2[j].2.2.2.2.2.1 (dt l x) ((1:Int),(0:Int))):=by
 have J1:=hw.2.2.2.2.2 _ (al0 hj);obtain⟨_,_,hd,_,_,_,_,hg,hv⟩:=vG.1 h0;generalize x.2.2.2.2[j]=r at*
 obtain⟨(d:Int),Of⟩:∃d:Int,d=r.2.1:=⟨_,rfl⟩
 rw[<-Of]at hd;have hd0:(0:Int)<=d:=hd.1;have xT:d<(x.2.2.2.1.length:Int):=hd.2;obtain⟨k,hk⟩:=al8 hd0
 have dZ:(r.2.1:Int)=(k:Int):=by rw[<-Of,hk]
 have G5:k<x.2.2.2.1.length:=by omega
 rw[dZ,al1,alV G5]at hv;obtain⟨v1,v2⟩:=zH hv;refine⟨⟨k,G5,dZ,_,mo.all _ _ J1.2.2.2.2.2.2.1.2,v1,v2⟩,fun h=>?_⟩;obtain⟨g1,g2⟩:=zH (hg h);exact⟨_,mo.all _ _ J1.2.2.2.2.2.1.2,g1,g2⟩
def Hk(e:List Ty)(s:ov)(y:List Ty):Prop:=(e.length=0/\y=[])\/(0<e.length/\P.V.Code e s y)
structure Prg(l:Lw)(x:gw)(d:Int)(p:List jK×List Int×List (List Ty)×List (List Ty)):Prop where
 rules:p.1=bT x.2.2.2.2 d
 order:M.cA aB x=some ((0:Int),p.2.1)
 ord:qF x p.2.1
 all:p.2.1.length=x.2.2.2.1.length
 gl:p.2.2.1.length=p.1.length
 vl:p.2.2.2.length=p.1.length
 code:∀i(h:i<p.1.length)(h1:i<p.2.2.1.length)(h2:i<p.2.2.2.length),Hk p.1[i].2.2.2.2.2.1 (dt l x) p.2.2.1[i]/\P.V.Code p.1[i].2.2.2.2.2.2.1 (dt l x) p.2.2.2[i]
theorem FL(l:Lw)(hw:WF bU l)(kh:gZ l)(hv:Valid l)(k:Nat)(hk:k<l.2.2.length)(d:Int):Wp (M.cN aB l (k:Int) d) (Prg l l.2.2[k] d):=by
 have hm:=hv.adV kh
 have hp:∀x∈l.2.2,mv x.2.2.2.2:=fun x hx=>by
  obtain⟨i,hi,rfl⟩:=amb hx;exact FG (hv.scope i hi).2.2.2.2.2.2.1
 have rM:=kh.2.2.2.2.2 _ (al0 hk);have TU:=hv.scope k hk;have vf:=hw.2.2.2 _ (al0 hk);have EB:=hp _ (al0 hk);unfold M.cN;rw[ah hk,alS,DG l d hm kh hp]
 have uB:idx (l.2.2.map (gm · d)) (k:Int)=some (gm l.2.2[k] d):=by rw[ah (show k<(l.2.2.map (gm · d)).length by simpa using hk),List.getElem_map]
 obtain⟨x,hx⟩:∃x,x=l.2.2[k]:=⟨_,rfl⟩
 rw[<-hx]at rM TU vf EB uB⊢
 have ad3:∃o,M.cA aB x=some ((0:Int),o)/\qF x o/\o.length=x.2.2.2.1.length:=by
  obtain⟨r,er,o,h1,h2,hr⟩:=Nc x rM
  have hZ:=JG h1 h2 fun d hd hc=>TU.2.2.2.2.2.2.2 d hd ((vE x d d).2 hc)
  rw[if_neg (by omega)]at hr;subst hr;exact⟨o,er,h1,hZ⟩
 obtain⟨o,e1,e2,e3⟩:=ad3;rw[e1];simp only[alS,uB];have SX:=rM.2.2.2.1;have hR:(gm x d).2.2.2.2=bT x.2.2.2.2 d:=rfl;rw[hR]
 have hRl:(bT x.2.2.2.2 d).length<=60:=by
  rw[kO];have:=(mw d x.2.2.2.2).2.1;omega
 have hRm:∀y∈bT x.2.2.2.2 d,∃j,∃hj:j<x.2.2.2.2.length,∃p:Int,y=yq x.2.2.2.2[j] p:=fun y hy=>by
  obtain⟨r,hr,p,e,_⟩:=uT d EB hy;obtain⟨j,hj,rfl⟩:=amb hr;exact⟨j,hj,p,e⟩
 obtain⟨R,hRe⟩:∃R,R=bT x.2.2.2.2 d:=⟨_,rfl⟩
 rw[<-hRe]at hRl hRm⊢;rw[wp_bind]
 refine Wp.mono (Q:=fun p=>Prg l x d p/\True) ?_ fun p hp=> .some hp.1
 refine Wp.count (fun s=>s.1) R.length (fun i s=>s.2.1=R/\s.2.2.1=o/\s.2.2.2.1.length=i/\s.2.2.2.2.length=i/\∀j(h:j<R.length)(h1:j<s.2.2.2.1.length)(h2:j<s.2.2.2.2.length),Hk R[j].2.2.2.2.2.1 (dt l x) s.2.2.2.1[j]/\P.V.Code R[j].2.2.2.2.2.2.1 (dt l x) s.2.2.2.2[j]) (by omega) rfl ⟨rfl,rfl,rfl,rfl,fun j h h1=>by cases h1⟩ fun i s hi hs hJ=>?_
 obtain⟨c,R',o',G,V⟩:=s;obtain⟨j1,j2,j3,j4,j5⟩:=hJ;dsimp only at hs j1 j2 j3 j4 j5;subst hs j1 j2
 refine Wp.dec (fun aj=>?_) fun hge=>?_
 .have aj:i<R'.length:=by dsimp only at aj;omega
  obtain⟨j,hj,p,hy⟩:=hRm _ (al0 aj);obtain⟨⟨dk,hdk,_,tv⟩,tg⟩:=rK vf hj (TU.2.2.2.2.2.2.1 j hj);have J1:=vf.2.2.2.2.2 _ (al0 hj)
  have eg:R'[i].2.2.2.2.2.1=x.2.2.2.2[j].2.2.2.2.2.1:=by rw[hy];rfl
  have ev:R'[i].2.2.2.2.2.2.1=x.2.2.2.2[j].2.2.2.2.2.2.1:=by rw[hy];rfl
  dsimp only;rw[ah aj,alS,wp_bind]
  have wg:Wp (M.bG aB R'[i].2.2.2.2.2.1) fun y=>Hk R'[i].2.2.2.2.2.1 (dt l x) y:=by
   by_cases h0:R'[i].2.2.2.2.2.1.length=0
   .unfold M.bG;rw[if_pos (by rw[decide_eq_true_eq];omega)];exact .some (.inl ⟨h0,rfl⟩)
   .obtain⟨r,h1,h2,_⟩:=tg (by rw[<-eg];omega);rw[eg]at h0⊢
    exact(P.V.G7 J1.2.2.2.2.2.1.2 h1 h2).mono fun y hy=> .inr ⟨by omega,hy⟩
  refine wg.mono fun y hyg=>?_
  rw[bh (by simp;omega),alS,wp_bind];obtain⟨r,h1,h2,_⟩:=tv
  have wv:Wp (M.bG aB R'[i].2.2.2.2.2.2.1) fun z=>P.V.Code R'[i].2.2.2.2.2.2.1 (dt l x) z:=by
   rw[ev];exact P.V.G7 J1.2.2.2.2.2.2.1.2 h1 h2
  refine wv.mono fun z hz=>?_
  rw[bh (by simp;omega),alS];refine .some ⟨aj,bV (m:=R'.length) (by omega) aj,rfl,rfl,by simp[j3],by simp[j4],fun q h h1 h2=>?_⟩;dsimp only at h1 h2⊢;by_cases hq:q<i
  .rw[al5 (by omega),al5 (by omega)];exact j5 q h (by omega) (by omega)
  .have hq:q=i:=by simp at h1;omega
   subst hq;rw[ame (by omega),ame (by omega)];simp only[j3,j4,Nat.sub_self,List.getElem_cons_zero];exact⟨hyg,hz⟩
 .have hge:i=R'.length:=by dsimp only at hge;omega
  exact .some ⟨⟨hRe,e1,e2,e3,by dsimp only;omega,by dsimp only;omega,j5⟩,trivial⟩
end L
end Go.Proofs.YtmihpkfkbfgigaaGreatDoor
end
section
open _root_.Int renaming eq_ofNat_of_zero_le->al8,le_refl->am7,toNat_natCast->al1
open _root_.Go.IntKind renaming i64->alT
open _root_.List renaming getElem?_eq_getElem->alV,getElem_mem->al0,length_map->amm,mem_append->amf,mem_cons->amg,mem_cons_self->amQ,mem_map->anq,pairwise_cons->anf
open _root_.Nat renaming le_refl->alZ,zero_le->amj
open _root_.Option renaming bind_some->alS
open _root_.Sum renaming inr->amP
namespace Go.Proofs.YtmihpkfkbfgigaaGreatDoor
open Go Go.RowKit
set_option maxRecDepth 100000
set_option linter.unusedSimpArgs false
set_option linter.unusedVariables false
namespace L
def kR{α β:Type}(a:Option α)(b:Option β)(Q:α->β->Prop):Prop:=∃x y,a=some x/\b=some y/\Q x y
theorem kR.some{α β:Type}{x:α}{y:β}{Q:α->β->Prop}(h:Q x y):kR (some x) (some y) Q:=⟨x,y,rfl,rfl,h⟩
theorem kR.bind{α β γ δ:Type}{a:Option α}{b:Option β}{f:α->Option γ}{g:β->Option δ}{Q:γ->δ->Prop}(h:kR a b fun x y=>kR (f x) (g y) Q):kR (a.bind f) (b.bind g) Q:=by
 obtain⟨x,y,rfl,rfl,h⟩:=h;exact h
theorem kR.mono{α β:Type}{a:Option α}{b:Option β}{Q Q':α->β->Prop}(h:kR a b Q)(i:∀x y,Q x y->Q' x y):kR a b Q':=by
 obtain⟨x,y,e,e',h⟩:=h;exact⟨x,y,e,e',i _ _ h⟩
theorem kR.seq{α β γ δ:Type}{a:Option α}{b:Option β}{f:α->Option γ}{g:β->Option δ}{Q:γ->δ->Prop}(A:α->β->Prop)(h:kR a b A)(k:∀x y,A x y->kR (f x) (g y) Q):kR (a.bind f) (b.bind g) Q:= .bind (h.mono k)
theorem kR.same{α γ δ:Type}{a:Option α}{f:α->Option γ}{g:α->Option δ}{Q:γ->δ->Prop}{A:α->Prop}(h:Wp a A)(k:∀x,A x->kR (f x) (g x) Q):kR (a.bind f) (a.bind g) Q:=by
 obtain⟨x,rfl,h⟩:=h;exact k x h
def JH{J J' R R':Type}(A:J->J'->Prop)(B:R->R'->Prop):J⊕R->J'⊕R'->Prop
 | .inl j, .inl j'=>A j j'
 | .inr r, .inr r'=>B r r'
 |_,_=>False
theorem kR.join{J J' R R':Type}{a:Option (J⊕R)}{b:Option (J'⊕R')}{k:J->Option R}{k':J'->Option R'}{Q:R->R'->Prop}(h:kR a b (JH (fun j j'=>kR (k j) (k' j') Q) Q)):kR (bE a k) (bE b k') Q:=by
 obtain⟨x,y,rfl,rfl,h⟩:=h
 cases x<;>cases y
 .exact h
 .exact h.elim
 .exact h.elim
 .exact⟨_,_,rfl,rfl,h⟩
theorem kR.loop{S S' X X':Type}{f:S->Option (S⊕X)}{g:S'->Option (S'⊕X')}{Q:X->X'->Prop}{n:Nat}(J:Nat->S->S'->Prop)(step:∀k s s',k<=n->J k s s'->kR (f s) (g s') (JH (fun t t'=>k<n/\J (k+1) t t') Q)):∀(N k:Nat)(s:S)(s':S'),k<=n->n-k<N->J k s s'->kR (Loop f N s) (Loop g N s') Q
 |0,k,s,s',_,h,_=>by omega
 |N+1,k,s,s',hk,hN,h=>by
  obtain⟨x,y,e,e',hs⟩:=step k s s' hk h;unfold Loop;rw[e,e']
  cases x<;>cases y
  .exact kR.loop J step N (k+1) _ _ hs.1 (by have:=hs.1;omega) hs.2
  .exact hs.elim
  .exact hs.elim
  .exact⟨_,_,rfl,rfl,hs⟩
theorem kR.count{S S' X X':Type}{f:S->Option (S⊕X)}{g:S'->Option (S'⊕X')}{Q:X->X'->Prop}{s:S}{s':S'}(n:Nat)(J:Nat->S->S'->Prop)(hn:n<=9223372036854775807)(h0:J 0 s s')(step:∀k s s',k<=n->J k s s'->kR (f s) (g s') (JH (fun t t'=>k<n/\J (k+1) t t') Q)):kR (Loop f aB s) (Loop g aB s') Q:=kR.loop J step aB 0 s s' (amj _) (by unfold aB;omega) h0
theorem kR.dec{α β:Type}{c:Prop}[Decidable c]{a a':Option α}{b b':Option β}{Q:α->β->Prop}(ha:c->kR a b Q)(hb:¬c->kR a' b' Q):kR (if decide c=true then a else a') (if decide c=true then b else b') Q:=by
 by_cases h:c
 .rw[if_pos (decide_eq_true h),if_pos (decide_eq_true h)];exact ha h
 .rw[if_neg (by simpa using h),if_neg (by simpa using h)];exact hb h
theorem uo{α:Type}{l:List α}{i:Int}(h0:0<=i)(h1:i<(l.length:Int)):∃x,idx l i=some x/\x∈l:=by
 obtain⟨k,rfl⟩:=al8 h0
 have hk:k<l.length:=by omega
 exact⟨_,ah hk,al0 hk⟩
theorem fh{α:Type}(l:List α)(i:Int)(y:α):(aH l i y).length=l.length:=by unfold aH;simp
def ids(P:Nat->Bool)(k:Nat):List Int:=((List.range k).filter P).map fun i:Nat=>(i:Int)
theorem xH(P:Nat->Bool)(k:Nat):ids P (k+1)=ids P k++(if P k=true then[(k:Int)]else[]):=by
 unfold ids;rw[List.range_succ,List.filter_append,List.map_append];by_cases h:P k=true
 .rw[if_pos h];simp[h]
 .rw[if_neg h];simp[h]
theorem lz{P:Nat->Bool}{k:Nat}{j:Int}:j∈ids P k↔∃i:Nat,i<k/\P i=true/\j=(i:Int):=by
 unfold ids;simp only[anq,List.mem_filter,List.mem_range];constructor
 .rintro⟨i,⟨h1,h2⟩,rfl⟩;exact⟨i,h1,h2,rfl⟩
 .rintro⟨i,h1,h2,rfl⟩;exact⟨i,⟨h1,h2⟩,rfl⟩
theorem sU(P:Nat->Bool)(k:Nat):(ids P k).length<=k:=by
 unfold ids;rw[amm];exact Nat.le_trans (List.length_filter_le ..) (by simp)
theorem Bf(P:Nat->Bool)(k:Nat):(ids P k).Pairwise (· < ·):=by
 induction k with
 |zero=>exact .nil
 |succ k ih=>
  rw[xH,List.pairwise_append];refine⟨ih,by split<;>simp,fun a ha b hb=>?_⟩;obtain⟨i,h1,_,rfl⟩:=lz.1 ha;split at hb
  .obtain rfl:b=(k:Int):=by simpa using hb
   omega
  .cases hb
theorem Hl:∀{a b:List Int},a.Pairwise (· < ·)->b.Pairwise (· < ·)->(∀x,x∈a↔x∈b)->a=b
 |[],[],_,_,_=>rfl
 |[],y::b,_,_,h=>absurd ((h y).2 (amQ ..)) (by simp)
 |x::a,[],_,_,h=>absurd ((h x).1 (amQ ..)) (by simp)
 |x::a,y::b,ha,hb,h=>by
  rw[anf]at ha hb
  have xR:x=y:=by
   rcases amg.1 ((h x).1 (amQ ..))with e|h1
   .exact e
   .rcases amg.1 ((h y).2 (amQ ..))with e|h2
    .exact e.symm
    .have:=hb.1 x h1;have:=ha.1 y h2;omega
  subst xR;rw[Hl ha.2 hb.2 fun z=>⟨fun hz=>?_,fun hz=>?_⟩]
  .rcases amg.1 ((h z).1 (List.mem_cons_of_mem _ hz))with e|g
   .have:=ha.1 z hz;omega
   .exact g
  .rcases amg.1 ((h z).2 (List.mem_cons_of_mem _ hz))with e|g
   .have:=hb.1 z hz;omega
   .exact g
def kp(rules:List jK)(Pr:jK->Bool)(i:Nat):Bool:=match rules[i]? with
 |some r=>Pr r
 |none=>false
theorem pZ{rules:List jK}{Pr:jK->Bool}{i:Nat}(h:i<rules.length):kp rules Pr i=Pr rules[i]:=by
 unfold kp;rw[alV h]
theorem Nd{rules:List jK}{K:jK->Int->Int->Option (Bool×Int×Int)}{Pr:jK->Bool}{a d:Int}(hK:∀r,K r a d=some (Pr r,a,d))(hl:rules.length<=100000):
 Wp ((lB (rules.length:Int) (0:Int)).bind fun l1=>
Loop (S:=Int×Int×Int×(List Int)×(List Int)×List Int) (X:=Int×Int×(List Int)×List Int) (fun s2=>
(if(decide (s2.1<(rules.length:Int)))=true then
((idx rules s2.1).bind fun x4=>
(((if(decide ((0:Int)<=x4.2.2.1))=true then
some (decide (x4.2.2.1<s2.1))
else
some false):Option (Bool)).bind fun j6=>
(if j6=true then
(idx s2.2.2.2.1 x4.2.2.1).bind fun x7=>
some x7
else
some (-1:Int)):Option (Int)).bind fun j5=>
(idx s2.2.2.2.1 s2.1).bind fun x8=>
(K x4 s2.2.1 s2.2.2.1).bind fun y9=>
(if y9.1=true then
(idx (aH s2.2.2.2.1 s2.1 j5) s2.1).bind fun qn=>
(bZ s2.2.2.2.2.1 ([s2.1]:List Int)).bind fun E6=>
(bZ s2.2.2.2.2.2 ([j5]:List Int)).bind fun DX=>
some (y9.2.1,y9.2.2,aH (aH s2.2.2.2.1 s2.1 j5) s2.1 (s2.2.2.2.2.1.length:Int),E6,DX)
else
some (y9.2.1,y9.2.2,aH s2.2.2.2.1 s2.1 j5,s2.2.2.2.2.1,s2.2.2.2.2.2)):Option (Int×Int×(List Int)×(List Int)×List Int)).bind fun j3=>
some (Sum.inl (alT.wrap (s2.1+(1:Int)),j3.1,j3.2.1,j3.2.2.1,j3.2.2.2.1,j3.2.2.2.2))
else
some (amP (s2.2.1,s2.2.2.1,s2.2.2.2.2.1,s2.2.2.2.2.2)))) aB ((0:Int),a,d,l1,([]:List Int),([]:List Int))) fun r=>r.1=a/\r.2.1=d/\r.2.2.1=ids (kp rules Pr) rules.length/\r.2.2.2.length=r.2.2.1.length:=by
 rw[wp_bind];refine rr.2 ⟨by omega,?_⟩;rw[al1]
 refine Wp.count (fun s=>s.1) rules.length (fun k s=>s.2.1=a/\s.2.2.1=d/\s.2.2.2.1.length=rules.length/\s.2.2.2.2.1=ids (kp rules Pr) k/\s.2.2.2.2.2.length=s.2.2.2.2.1.length) (by omega) rfl ⟨rfl,rfl,by simp,rfl,rfl⟩ fun k s hk hs hJ=>?_
 obtain⟨i,a',d',near,li,pa⟩:=s;obtain⟨j1,j2,j3,j4,j5⟩:=hJ;dsimp only at hs j1 j2 j3 j4 j5;subst hs j1 j2
 refine Wp.dec (fun aj=>?_) fun hge=>?_
 .have aj:k<rules.length:=by dsimp only at aj;omega
  have G5:=sU (kp rules Pr) k;dsimp only
  refine Wp.seq (fun j=>j.1=a'/\j.2.1=d'/\j.2.2.1.length=rules.length/\j.2.2.2.1=ids (kp rules Pr) (k+1)/\j.2.2.2.2.length=j.2.2.2.1.length) ?_ fun j hj=> .some ⟨aj,bV (m:=rules.length) (by omega) aj,hj⟩
  rw[ah aj,alS]
  refine Wp.seq (fun _=>True) ?_ fun v _=>?_
  .refine Wp.seq (fun j=>j=true->(0:Int)<=rules[k].2.2.1/\(rules[k].2.2.1:Int)<(k:Int)) ?_ fun j h6=>?_
   .refine Wp.dec (fun h=> .some fun g=>⟨h,of_decide_eq_true g⟩) fun h=> .some fun g=>by cases g
   .cases j with
    |true=>
     obtain⟨g1,g2⟩:=h6 rfl;obtain⟨x,hx,_⟩:=uo (l:=near) (i:=rules[k].2.2.1) g1 (Int.lt_trans g2 (show(k:Int)<(near.length:Int) by omega));rw[if_pos rfl,hx];exact .some trivial
    |false=>
     rw[if_neg (by decide)];exact .some trivial
  .rw[ah (show k<near.length by omega),alS,hK,alS,xH,pZ aj];dsimp only;by_cases hp:Pr rules[k]=true
   .rw[if_pos hp,if_pos hp,ah (show k<(aH near (k:Int) v).length by rw[fh];omega),alS,bh (by simp[j4];omega),alS,bh (by simp[j5,j4];omega),alS];exact .some ⟨rfl,rfl,by rw[fh,fh];exact j3,by rw[j4],by simp[j5]⟩
   .rw[if_neg hp,if_neg hp];exact .some ⟨rfl,rfl,by rw[fh];exact j3,by rw[j4];simp,j5⟩
 .have hge:k=rules.length:=by dsimp only at hge;omega
  exact .some ⟨rfl,rfl,by rw[<-hge];exact j4,j5⟩
def Xe(a d:Int)(r:jK):Bool:=decide ((r.2.1:Int)=a/\uQ r.2.2.2.2.1 d)
def Nf(rules:List jK)(a d:Int):List Int:=ids (kp rules (Xe a d)) rules.length
theorem Ng{r:jK}{a d:Int}{β:Type}{k:Bool->Option β}:(((if(decide (r.2.1=a))=true then(some (decide (uQ r.2.2.2.2.1 d)):Option Bool)else some false):Option Bool).bind k)=k (Xe a d r):=by
 unfold Xe;by_cases h:(r.2.1:Int)=a
 .rw[if_pos (by simpa using h),alS]
  congr 1
  simp[h]
 .rw[if_neg (by simpa using h),alS]
  congr 1
  simp[h]
theorem Xf(a d:Int)(r:jK):M.eJ aB r a d=some (Xe a d r,a,d):=by
 unfold M.eJ;simp only[Ba,alS];exact Ng
theorem Xg(a d:Int)(r:jK):M.fb aB r a d=some (Xe a d r,a,d):=by
 unfold M.fb;simp only[Ba,alS];exact Ng
theorem FM(x:gw)(a d:Int)(hl:x.2.2.2.2.length<=100000):M.iJ aB x a d=some (Nf x.2.2.2.2 a d):=by
 apply Wp.eq;unfold M.iJ M.gU
 refine Wp.seq _ (Nd (Xf a d) hl) fun y hy=> .some hy.2.2.1
theorem JI(x:gw)(a d:Int)(hl:x.2.2.2.2.length<=100000):Wp (M.gD aB x a d) fun r=>r.1=Nf x.2.2.2.2 a d/\r.2.1.length=r.1.length/\r.2.2.length=r.1.length:=by
 unfold M.gD M.gV
 refine Wp.seq _ (Nd (Xg a d) hl) fun y hy=>?_
 obtain⟨y1,y2,li,pa⟩:=y;obtain⟨_,_,h3,h4⟩:=hy;dsimp only at h3 h4⊢
 have hle:li.length<=x.2.2.2.2.length:=by rw[h3];exact sU ..
 refine Wp.seq (fun p=>p.length=li.length) ?_ fun p hp=> .some ⟨h3,h4,hp⟩
 refine Wp.count (fun s=>s.1) li.length (fun k s=>s.2.length=k) (by omega) rfl rfl fun k s hk hs hJ=>?_
 obtain⟨i,l⟩:=s;dsimp only at hs hJ;subst hs
 refine Wp.dec (fun aj=>?_) fun hge=>?_
 .have aj:k<li.length:=by dsimp only at aj;omega
  dsimp only
  have JF:∀z∈li,z∈Nf x.2.2.2.2 a d:=fun z hz=>by
   rw[h3]at hz;exact hz
  obtain⟨j,hj,_,hje⟩:=lz.1 (JF _ (al0 aj));rw[ah aj,alS,hje,ah hj,alS,bh (by simp;omega),alS];exact .some ⟨aj,bV (m:=li.length) (by omega) aj,by simp[hJ]⟩
 .have hge:k=li.length:=by dsimp only at hge;omega
  exact .some (show l.length=li.length by omega)
def Pl(n:Nat)(v:Int):Prop:=v= -1\/v= -2\/0<=v/\v<(n:Int)
theorem DK(p:List Int)(i:Int)(hl:p.length<=8):Wp (M.iL aB p i) fun r=>r.length<=p.length/\∀x∈r,(0:Int)<=x/\x<(p.length:Int):=by
 unfold M.iL
 refine Wp.count (fun s=>s.1) p.length (fun k s=>s.2.length<=k/\∀x∈s.2,(0:Int)<=x/\x<(p.length:Int)) (by omega) rfl ⟨alZ _,fun x h=>by cases h⟩ fun k s hk hs hJ=>?_
 obtain⟨c,l⟩:=s;obtain⟨j1,j2⟩:=hJ;dsimp only at hs j1 j2;subst hs
 refine Wp.dec (fun aj=>?_) fun hge=> .some ⟨by dsimp only;omega,j2⟩
 have aj:k<p.length:=by dsimp only at aj;omega
 dsimp only
 refine Wp.seq (fun j=>j.length<=k+1/\∀x∈j,(0:Int)<=x/\x<(p.length:Int)) ?_ fun j hj=> .some ⟨aj,bV (m:=p.length) (by omega) aj,hj⟩
 rw[ah aj,alS]
 refine Wp.dec (fun _=>?_) fun _=> .some ⟨by omega,j2⟩
 rw[bh (by simp;omega),alS];refine .some ⟨by simp;omega,fun x hx=>?_⟩
 rcases amf.1 hx with h|h
 .exact j2 x h
 .obtain rfl:x=(k:Int):=by simpa using h
  omega
theorem PN{p q r:List Int}(i:Int)(hl:p.length<=8)(hq:q.length=p.length)(hr:r.length=p.length):Wp (M.gW aB (p,(q,r)) i) fun b=>∀x∈b,(0:Int)<=x/\x<(p.length:Int):=by
 unfold M.gW
 refine Wp.seq _ (DK p i hl) fun y hy=>?_
 obtain⟨y1,y2⟩:=hy
 refine Wp.count (fun s=>s.1) y.length (fun k s=>s.2.length<=k/\∀x∈s.2,(0:Int)<=x/\x<(p.length:Int)) (by omega) rfl ⟨alZ _,fun x h=>by cases h⟩ fun k s hk hs hJ=>?_
 obtain⟨c,l⟩:=s;obtain⟨j1,j2⟩:=hJ;dsimp only at hs j1 j2;subst hs
 refine Wp.dec (fun aj=>?_) fun hge=> .some j2
 have aj:k<y.length:=by dsimp only at aj;omega
 dsimp only
 refine Wp.seq (fun j=>j.length<=k+1/\∀x∈j,(0:Int)<=x/\x<(p.length:Int)) ?_ fun j hj=> .some ⟨aj,bV (m:=y.length) (by omega) aj,hj⟩
 have hv:=y2 _ (al0 aj);rw[ah aj,alS];generalize y[k]=v at hv⊢
 have at_:∀{l:List Int}{u:Int},l.length=p.length->(0:Int)<=u/\u<(p.length:Int)->∃z,idx l u=some z:=fun{l u}h h'=>by
  obtain⟨z,hz,_⟩:=uo (l:=l) (i:=u) h'.1 (by omega);exact⟨z,hz⟩
 obtain⟨z1,e1⟩:=at_ hr hv;obtain⟨z2,e2⟩:=at_ hq hv
 have hd:∀{l:List Int},0<l.length->(∀x∈l,(0:Int)<=x/\x<(p.length:Int))->∃u z,idx l (0:Int)=some u/\idx q u=some z:=fun{l}h h'=>by
  obtain⟨u,hu,hm⟩:=uo (l:=l) (i:=0) (am7 _) (by omega);obtain⟨z,hz⟩:=at_ hq (h' u hm);exact⟨u,z,hu,hz⟩
 rw[e1,alS]
 refine Wp.dec (fun _=> .some ⟨by omega,j2⟩) fun _=>?_
 refine Wp.seq (fun j=>j.length<=k/\∀x∈j,(0:Int)<=x/\x<(p.length:Int)) ?_ fun l6 h6=>?_
 .refine Wp.seq (fun _=>True) ?_ fun j7 _=>?_
  .refine Wp.dec (fun h=>?_) fun _=> .some trivial
   obtain⟨u,z,hu,hz⟩:=hd (l:=l) (by omega) j2;rw[e2,alS,hu,alS,hz];exact .some trivial
  .refine Wp.ite (fun _=>?_) fun _=> .some ⟨j1,j2⟩
   rw[lk (l:=l) (i:=0) (j:=0) 0 0 rfl rfl (alZ _) (amj _),alS];exact .some ⟨by simp,by simp⟩
 .obtain⟨g1,g2⟩:=h6
  refine Wp.seq (fun _=>True) ?_ fun AH _=>?_
  .refine Wp.dec (fun _=> .some trivial) fun h=>?_
   obtain⟨u,z,hu,hz⟩:=hd (l:=l6) (by omega) g2;rw[e2,alS,hu,alS,hz];exact .some trivial
  .refine Wp.ite (fun _=>?_) fun _=> .some ⟨by omega,g2⟩
   rw[bh (by simp;omega),alS];refine .some ⟨by simp;omega,fun x hx=>?_⟩
   rcases amf.1 hx with h|h
   .exact g2 x h
   .obtain rfl:x=v:=by simpa using h
    exact hv
theorem Hm{p q r:List Int}(i:Int)(hl:p.length<=8)(hq:q.length=p.length)(hr:r.length=p.length)(hp:∀x∈r,Pl p.length x):Wp (M.dw aB (p,(q,r)) i) (Pl p.length):=by
 unfold M.dw
 refine Wp.seq _ (PN i hl hq hr) fun b hb=>?_
 refine Wp.dec (fun _=> .some (.inl rfl)) fun h0=>?_
 refine Wp.dec (fun h1=>?_) fun _=> .some (.inr (.inl rfl))
 obtain⟨u,hu,hm⟩:=uo (l:=b) (i:=0) (am7 _) (by omega);have:=hb u hm;obtain⟨z,hz,hzm⟩:=uo (l:=r) (i:=u) this.1 (by omega);rw[hu,alS];dsimp only;rw[hz,alS];exact .some (hp z hzm)
theorem DL{α:Type}{l:List α}{i:Int}{y x:α}(h:x∈aH l i y):x∈l\/x=y:=by
 unfold aH at h;exact List.mem_or_eq_of_mem_set h
theorem PO{p q:List Int}{a:List Bool}(hl:p.length<=8)(hq:q.length=p.length)(ha:a.length=p.length):Wp (M.iM aB p q a) fun r=>r.length=p.length/\∀x∈r,Pl p.length x:=by
 unfold M.iM;rw[wp_bind];refine rr.2 ⟨by omega,?_⟩;rw[al1]
 have hw:∀n:Nat,n<=8->alT.wrap ((n:Int)-1)=(n:Int)-1:=fun n h=>aJ (by omega) (by omega)
 refine Wp.loop (fun s=>(∃k:Nat,s.1=(k:Int)-1/\k<=p.length)/\s.2.length=p.length/\∀x∈s.2,Pl p.length x) (fun s=>(s.1+1).toNat) ⟨⟨p.length,hw _ hl,alZ _⟩,by simp,fun x hx=>?_⟩ ?_ ?_
 .rw[List.mem_replicate]at hx;exact .inr (.inr ⟨by omega,by omega⟩)
 .dsimp only;rw[hw _ hl];unfold aB;omega
 .rintro⟨c,l⟩ ⟨⟨k,hk,G5⟩,j1,j2⟩
  dsimp only at hk j1 j2;subst hk
  refine Wp.dec (fun aj=>?_) fun hge=> .some ⟨j1,j2⟩
  obtain⟨m,rfl⟩:∃m,k=m+1:=⟨k-1,by dsimp only at aj;omega⟩
  have hm:(((m+1:Nat):Int)-1)=(m:Int):=by omega
  rw[hm]
  have FZ:m<p.length:=by omega
  dsimp only
  refine Wp.seq (fun j=>j.length=p.length/\∀x∈j,Pl p.length x) ?_ fun j hj=> .some ⟨⟨⟨m,by rw[hw _ (by omega)],by omega⟩,hj⟩,by dsimp only;rw[hw _ (by omega)];omega⟩
  refine Wp.seq _ (Hm (m:Int) hl hq j1 j2) fun v hv=>?_
  have s1:(aH l (m:Int) v).length=p.length:=by rw[fh];exact j1
  have s2:∀x∈aH l (m:Int) v,Pl p.length x:=fun x hx=>by
   rcases DL hx with h|rfl
   .exact j2 x h
   .exact hv
  rw[ah (show m<l.length by omega),alS]
  refine Wp.seq (fun _=>True) ?_ fun j6 _=>?_
  .rw[ah (show m<(aH l (m:Int) v).length by omega),alS]
   refine Wp.dec (fun _=>?_) fun _=> .some trivial
   rw[ah (show m<a.length by omega),alS];exact .some trivial
  .refine Wp.ite (fun _=>?_) fun _=> .some ⟨s1,s2⟩
   rw[ah (show m<(aH l (m:Int) v).length by omega),alS];refine .some ⟨by rw[fh];exact s1,fun x hx=>?_⟩
   rcases DL hx with h|rfl
   .exact s2 x h
   .exact .inr (.inr ⟨by omega,by omega⟩)
theorem JJ(p q:List Int)(a:List Bool)(hp:p.length<=100000):Wp (M.ik aB p q a) (Pl p.length):=by
 unfold M.ik
 have hV:Wp (M.iK aB p q) fun c=>c=0->p.length<=8/\q.length=p.length:=by
  unfold M.iK
  refine Wp.jz (fun _=> .some fun h=>by cases h) fun h1=>?_
  refine Wp.dec (fun _=> .some fun h=>by cases h) fun h2=>?_
  have hq:q.length=p.length:=by omega
  refine Wp.count (fun s=>s) p.length (fun _ _=>True) (by omega) rfl trivial fun k s hk hs _=>?_
  obtain rfl:s=_:=hs
  refine Wp.dec (fun aj=>?_) fun hge=> .some fun _=>⟨by omega,hq⟩
  have aj:k<p.length:=by omega
  rw[ah aj,alS]
  refine Wp.seq (fun _=>True) (Wp.dec (fun _=> .some trivial) fun _=> .some trivial) fun j3 _=>?_
  refine Wp.ite (fun _=> .some fun h=>by cases h) fun _=>?_
  refine Wp.seq (fun _=>True) ?_ fun j4 _=>?_
  .rw[ah (show k<q.length by omega),alS]
   exact Wp.dec (fun _=> .some trivial) fun _=> .some trivial
  .exact Wp.ite (fun _=> .some fun h=>by cases h) fun _=> .some ⟨aj,bV (m:=p.length) (by omega) aj,trivial⟩
 refine Wp.seq (fun j=>j=false->p.length<=8/\q.length=p.length/\a.length=p.length) ?_ fun j hj=>?_
 .refine Wp.seq _ hV fun c hc=>?_
  refine Wp.jz (fun _=> .some fun h=>by cases h) fun h=> .some fun g=>?_
  obtain⟨h1,h2⟩:=hc h;refine⟨h1,h2,?_⟩
  have:(a.length:Int)=(p.length:Int):=by simpa using g
  omega
 .cases j with
  |true=>rw[if_pos rfl];exact .some (.inl rfl)
  |false=>
   obtain⟨h1,h2,h3⟩:=hj rfl;rw[if_neg (by decide)]
   refine Wp.seq _ (PO h1 h2 h3) fun r hr=>?_
   rw[wp_bind]
   exact(Hm (-1) h1 h2 hr.1 hr.2).mono fun y hy=> .some hy
end L
end Go.Proofs.YtmihpkfkbfgigaaGreatDoor
end
section
open _root_.Int renaming toNat_natCast->al1
open _root_.Go.IntKind renaming i64->alT,u64->al3
open _root_.List renaming append_nil->amK,getElem?_eq_getElem->alV,getElem_mem->al0,length_append->alY,length_take->amd,mem_append->amf,take_length->amc
open _root_.Nat renaming le_refl->alZ,zero_le->amj
open _root_.Option renaming bind_some->alS,getD_some->amu
namespace Go.Proofs.YtmihpkfkbfgigaaGreatDoor
open Go Go.RowKit
set_option maxRecDepth 100000
set_option linter.unusedSimpArgs false
set_option linter.unusedVariables false
namespace L
def inD(d:Int)(r:jK):Bool:=decide (uQ r.2.2.2.2.1 d)
def vi(rules:List jK)(d:Int):List Int:=ids (kp rules (inD d)) rules.length
theorem xI(rules:List jK)(d:Int):(fc d rules).2.1=vi rules d:=by
 suffices∀k,k<=rules.length->(fc d (rules.take k)).2.1=ids (kp rules (inD d)) k by
  have:=this rules.length (alZ _)
  rwa [amc]at this
 intro k
 induction k with
 |zero=>intro _;rfl
 |succ k ih=>
  intro hk
  have aj:k<rules.length:=by omega
  have fi:fc d (rules.take (k+1))=dq d (fc d (rules.take k)) rules[k]:=by
   unfold fc;rw[List.take_add_one,alV aj,List.foldl_append];rfl
  have hl:=(mw d (rules.take k)).1
  have Mh:(rules.take k).length=k:=by rw[amd];omega
  rw[fi,xH,pZ aj,<-ih (by omega)];unfold dq inD;by_cases h:uQ rules[k].2.2.2.2.1 d
  .rw[if_pos h,if_pos (decide_eq_true h),hl,Mh]
  .rw[if_neg h,if_neg (show¬decide (uQ rules[k].2.2.2.2.1 d)=true by simpa using h),amK]
theorem JK{rules:List jK}{d:Int}{i:Nat}(h:i<(bT rules d).length)(h':i<(vi rules d).length):∃j,∃hj:j<rules.length,(vi rules d)[i]=(j:Int)/\uQ rules[j].2.2.2.2.1 d/\∃p:Int,(bT rules d)[i]=yq rules[j] p:=by
 obtain⟨j,hj,hp,he⟩:=lz.1 (al0 h');rw[pZ hj]at hp;refine⟨j,hj,he,of_decide_eq_true hp,?_⟩
 have hi:i<(fc d rules).2.1.length:=by rw[xI];exact h'
 have hi2:i<(fc d rules).2.2.length:=by rw[(mw d rules).2.2];exact hi
 refine⟨(fc d rules).2.2[i],?_⟩
 have e1:(fc d rules).2.1[i]=(j:Int):=by
  rw[<-he];exact List.getElem_of_eq (xI rules d) hi
 have:(bT rules d)[i]=uR rules ((fc d rules).2.1[i],(fc d rules).2.2[i]):=by
  simp only[bT,List.getElem_map,List.getElem_zip]
 rw[this,e1];unfold uR;simp only[al1,alV hj,amu]
theorem Nh{l:List Int}(hl:l.length<=1000000)(hn:l.Nodup):∃r,M.cn aB l=some r/\r.Pairwise (· < ·)/\∀y,y∈r↔y∈l:=by
 refine⟨ol l,?_,?_,fun y=>List.mem_mergeSort⟩
 .unfold M.cn zg;rw[if_pos (by omega)]
 .have h1:(ol l).Pairwise fun a b=>decide (a<=b)=true:=List.pairwise_mergeSort (fun a b c h1 h2=>by simp at*;omega) (fun a b=>by simp;omega) l
  have h2:(ol l).Nodup:=(List.mergeSort_perm l _).symm.nodup hn
  refine(h1.and h2).imp fun{a b}h=>?_
  have:=h.1;have:=h.2;simp at*;omega
theorem PP{a b:Nat}(h:a+b<=2000000):alT.wrap (gp .u64 (al3.wrap (alT.wrap ((a:Int)+(b:Int)))) (1:Int))=(((a+b)/2:Nat):Int):=by
 rw[aJ (n:=(a:Int)+(b:Int)) (by omega) (by omega)]
 have h1:al3.wrap ((a:Int)+(b:Int))=(a:Int)+(b:Int):=by
  simp[IntKind.wrap,IntKind.bits,IntKind.signed];omega
 rw[h1]
 have h2:gp .u64 ((a:Int)+(b:Int)) 1=(((a+b)/2:Nat):Int):=by
  unfold gp
  show((a:Int)+(b:Int)).fdiv 2=_
  rw[Int.fdiv_eq_ediv_of_nonneg _ (by decide)];omega
 rw[h2,aJ (by omega) (by omega)]
theorem JL{l:List Int}{i:Nat}(hl:l.length<=1000000)(hs:l.Pairwise (· < ·))(hi:i<l.length):∃b,M.cQ aB l l[i]=some ((i:Int),b):=by
 have aj:∀{a b:Nat}(ha:a<l.length)(hb:b<l.length),a<b->l[a]<l[b]:=fun ha hb h=>List.pairwise_iff_getElem.1 hs _ _ ha hb h
 have Xh:∀a b:Int,M.cmp_Less_int aB a b=some (decide (a<b)):=fun a b=>by
  unfold M.cmp_Less_int M.cmp_isNaN_int;simp
 have:Wp (M.cQ aB l l[i]) fun r=>r.1=(i:Int):=by
  unfold M.cQ
  refine Wp.seq (fun p=>p=(i:Int)) ?_ fun p hp=>?_
  .refine Wp.loop (fun s=>∃a b:Nat,s=((a:Int),(b:Int))/\a<=i/\i<=b/\b<=l.length/\(b=i\/i<b)) (fun s=>(s.2-s.1).toNat) ⟨0,l.length,rfl,by omega,by omega,by omega,by omega⟩ (by dsimp only;unfold aB;omega) ?_
   rintro s ⟨a,b,rfl,h1,h2,h3,h4⟩
   dsimp only
   refine Wp.dec (fun h=>?_) fun h=> .some (show((a:Nat):Int)=(i:Int) by omega)
   have hm:(a+b)/2<l.length:=by omega
   rw[PP (by omega)]
   refine Wp.seq (fun j=>∃a' b':Nat,j=((a':Int),(b':Int))/\a'<=i/\i<=b'/\b'<=l.length/\b'-a'<b-a) ?_ fun j hj=>?_
   .rw[ah hm,alS,Xh,alS]
    refine Wp.dec (fun g=> .some ⟨(a+b)/2+1,b,?_,?_,h2,h3,by omega⟩) fun g=> .some ⟨a,(a+b)/2,rfl,h1,?_,by omega,by omega⟩
    .rw[bV (m:=l.length) (by omega) hm]
    .by_cases e:i<=(a+b)/2
     .rcases Nat.lt_or_eq_of_le e with e|e
      .have:=aj hi hm e;omega
      .subst e;omega
     .omega
    .by_cases e:(a+b)/2<i
     .exact absurd (aj hm hi e) g
     .omega
   .obtain⟨a',b',rfl,g1,g2,g3,g4⟩:=hj;exact .some ⟨⟨a',b',rfl,g1,g2,g3,by omega⟩,by dsimp only;omega⟩
  .subst hp
   refine Wp.seq (fun r=>r.1=(i:Int)) ?_ fun r hr=> .some hr
   refine Wp.dec (fun _=>?_) fun h=>absurd (show((i:Nat):Int)<(l.length:Int) by omega) h
   rw[ah hi,alS]
   exact Wp.dec (fun _=> .some rfl) fun h=>absurd rfl h
 obtain⟨⟨r1,r2⟩,e,h⟩:=this;dsimp only at h;exact⟨r2,by rw[e,h]⟩
abbrev NK:=bc.den
structure yr(l:Lw)(x:gw)(d:Int)(m:NK):Prop where
 scope:m.1=x
 inds:m.2.2=vi x.2.2.2.2 d
 prg:Prg l x d (m.2.1.2.1,m.2.1.1,m.2.1.2.2.1,m.2.1.2.2.2)
theorem xJ(l:Lw)(hw:WF bU l)(kh:gZ l)(hv:Valid l)(k:Nat)(hk:k<l.2.2.length)(d:Int):Wp (M.cq aB l (k:Int) d) (yr l l.2.2[k] d):=by
 have rM:=kh.2.2.2.2.2 _ (al0 hk);have TU:=hv.scope k hk;have vf:=hw.2.2.2 _ (al0 hk);unfold M.cq;rw[ah hk,alS]
 refine Wp.seq _ (FL l hw kh hv k hk d) fun p hp=>?_
 obtain⟨x,hx⟩:∃x,x=l.2.2[k]:=⟨_,rfl⟩
 rw[<-hx]at rM TU vf hp⊢;have SX:=rM.2.2.2.1;have Db:=rM.2.2.1
 have ad5:∀j(hj:j<x.2.2.2.2.length),∃c,c<x.2.2.2.1.length/\(x.2.2.2.2[j].2.1:Int)=(c:Int):=fun j hj=>by
  obtain⟨⟨c,hc,e,_⟩,_⟩:=rK vf hj (TU.2.2.2.2.2.2.1 j hj);exact⟨c,hc,e⟩
 refine Wp.seq (fun j=>j.1=p.2.1/\j.2.1=p.2.2.1/\j.2.2.1=p.2.2.2/\j.2.2.2.1=x/\j.2.2.2.2.1=p.1/\j.2.2.2.2.2.length<=100000/\j.2.2.2.2.2.Nodup/\∀y,y∈j.2.2.2.2.2↔y∈vi x.2.2.2.2 d) ?_ fun j hj=>?_
 .refine Wp.count (fun s=>s.1) x.2.2.2.1.length (fun k s=>s.2.1=p.2.1/\s.2.2.1=p.2.2.1/\s.2.2.2.1=p.2.2.2/\s.2.2.2.2.1=x/\s.2.2.2.2.2.1=p.1/\s.2.2.2.2.2.2.length<=k*60/\s.2.2.2.2.2.2.Nodup/\∀y,y∈s.2.2.2.2.2.2↔∃c,c<k/\y∈Nf x.2.2.2.2 (c:Int) d) (by omega) rfl ⟨rfl,rfl,rfl,rfl,rfl,amj _, .nil,fun y=>⟨fun h=>(by cases h),fun⟨c,h,_⟩=>(by omega)⟩⟩ fun q s hq hs hJ=>?_
  obtain⟨c,o,G,V,x',R,li⟩:=s;obtain⟨j1,j2,j3,j4,j5,j6,j7,j8⟩:=hJ;dsimp only at hs j1 j2 j3 j4 j5 j6 j7 j8;subst hs j1 j2 j3 j4 j5
  refine Wp.dec (fun aj=>?_) fun hge=>?_
  .have aj:q<x'.2.2.2.1.length:=by dsimp only at aj;omega
   dsimp only;have hle:(Nf x'.2.2.2.2 (q:Int) d).length<=60:=Nat.le_trans (sU ..) (by omega);rw[FM x' (q:Int) d (by omega),alS,bh (by omega),alS];refine .some ⟨aj,bV (m:=x'.2.2.2.1.length) (by omega) aj,rfl,rfl,rfl,rfl,rfl,by dsimp only;rw[alY];omega,?_,fun y=>?_⟩
   .rw[List.nodup_append];refine⟨j7,(Bf ..).imp fun h=>by omega,fun a ha b hb=>?_⟩;obtain⟨c,hc,hm⟩:=(j8 a).1 ha;obtain⟨i,hi,F7,rfl⟩:=lz.1 hm;obtain⟨i',gr,Ns,rfl⟩:=lz.1 hb;rw[pZ hi]at F7;rw[pZ gr]at Ns;have e1:=(of_decide_eq_true F7).1;have e2:=(of_decide_eq_true Ns).1;intro he
    obtain rfl:i=i':=by omega
    have e3:(c:Int)=(q:Int):=e1.symm.trans e2;omega
   .dsimp only;rw[amf,j8];constructor
    .rintro(⟨c,hc,hm⟩|hm)
     .exact⟨c,by omega,hm⟩
     .exact⟨q,by omega,hm⟩
    .rintro⟨c,hc,hm⟩
     by_cases h:c<q
     .exact .inl ⟨c,h,hm⟩
     .obtain rfl:c=q:=by omega
      exact .inr hm
  .have hge:q=x'.2.2.2.1.length:=by dsimp only at hge;omega
   refine .some ⟨rfl,rfl,rfl,rfl,rfl,by dsimp only;omega,j7,fun y=>?_⟩;dsimp only;rw[j8];constructor
   .rintro⟨c,hc,hm⟩
    obtain⟨i,hi,F7,rfl⟩:=lz.1 hm;rw[pZ hi]at F7;refine lz.2 ⟨i,hi,?_,rfl⟩;rw[pZ hi];exact decide_eq_true (of_decide_eq_true F7).2
   .intro hm;obtain⟨i,hi,F7,rfl⟩:=lz.1 hm;rw[pZ hi]at F7;obtain⟨c,hc,e⟩:=ad5 i hi;refine⟨c,by omega,lz.2 ⟨i,hi,?_,rfl⟩⟩;rw[pZ hi];exact decide_eq_true ⟨e,of_decide_eq_true F7⟩
 .obtain⟨o,G,V,x',R,li⟩:=j;obtain⟨j1,j2,j3,j4,j5,j6,j7,j8⟩:=hj;dsimp only at j1 j2 j3 j4 j5 j6 j7 j8⊢;subst j1 j2 j3 j4 j5;obtain⟨r,e,h1,h2⟩:=Nh (by omega) j7;rw[e,alS];refine .some ⟨rfl,?_,hp⟩
  exact Hl h1 (Bf ..) fun y=>(h2 y).trans (j8 y)
theorem yr.Ni{l:Lw}{x:gw}{d:Int}{m:NK}(h:yr l x d m)(hs:iE x){i:Nat}(hi:i<(vi x.2.2.2.2 d).length):M.cB aB m (vi x.2.2.2.2 d)[i]=some (i:Int):=by
 unfold M.cB;rw[h.inds];have SX:=hs.2.2.2.1;have hle:(vi x.2.2.2.2 d).length<=60:=Nat.le_trans (sU ..) (by omega);obtain⟨b,e⟩:=JL (l:=vi x.2.2.2.2 d) (by omega) (Bf ..) hi;rw[e];rfl
end L
end Go.Proofs.YtmihpkfkbfgigaaGreatDoor
end
section
open _root_.Int renaming eq_ofNat_of_zero_le->al8,toNat_natCast->al1
open _root_.List renaming getElem?_eq_getElem->alV,getElem?_eq_some_iff->alW,getElem?_map->amD,getElem_mem->al0,getElem_of_mem->amb,replicate->alX
open _root_.Option renaming bind_some->alS,getD_some->amu,map_eq_some_iff->amY
open _root_.Option.some renaming inj->alU
namespace Go.Proofs.YtmihpkfkbfgigaaGreatDoor
open Go Go.RowKit
set_option maxRecDepth 100000
set_option linter.unusedSimpArgs false
set_option linter.unusedVariables false
namespace L.P.V
theorem PQ{e:List Ty}{s:Sg}(Jf:∀n∈e,WF aa n){r:Ty×Int×Int}(hT:M.fS aB e s=some r)(h0:r.2.2=0){env:cz.den}(he:im env)(ag:SI s env):Wp (M.iy aB e env) (mo r.1):=by
 obtain⟨r',er,hr⟩:=zx (s:=s) Jf;rw[hT]at er;obtain rfl:=alU er;obtain⟨st,w,ty,FX,Jo⟩:=hr h0;have nO:0<e.length:=List.length_pos_iff.2 w.ne;rw[xj w he Jf,FX];exact .some (rz w he ag Jo e.length (e.length-1) (by omega) (by omega))
end L.P.V
namespace L
abbrev Vl:Type:=af.den
def Tn(vs:List Vl)(fs:List Fd):Prop:=vs.length=fs.length/\∀(k:Nat)(v:Vl)(f:Fd),vs[k]? =some v->fs[k]? =some f->P.jR v f.2
def NL(vs:List Vl)(fs:List Fd):Prop:=vs.length=fs.length/\∀(k:Nat)(v:Vl)(f:Fd),vs[k]? =some v->fs[k]? =some f->P.jR v f.2\/(v.1:Int)=0
def X5(l:Lw):Prop:=l.1.length<=8/\∀e∈l.1,e.2.length<=16
theorem Valid.enl{l:Lw}(h:Valid l):X5 l:=by
 obtain⟨h1,_,_,h4,_⟩:=h.scopes;refine⟨h1,fun e he=>?_⟩;obtain⟨k,hk,rfl⟩:=amb he;have:=h4 k hk;unfold nL at this;rw[alV hk]at this;dsimp only at this;split at this
 .cases this
 split at this
 .cases this
 split at this
 .cases this
 split at this
 .cases this
 omega
theorem To{l:Lw}(hE:X5 l){t:Ty}{v:Vl}(h1:(v.1:Int)=t.1)(h2:(v.2.1:Int)=t.2)(h3:¬((v.2.2:Int)<(Bl t l.1).1\/(Bl t l.1).2<(v.2.2:Int))):P.jR v t:=by
 obtain⟨(a:Int),(b:Int),(n:Int)⟩:=v;obtain⟨(k:Int),(e:Int)⟩:=t;dsimp only[ae,Row.den]at*;subst h1 h2;unfold Bl at h3;by_cases hv:jM (a,b) l.1.length
 .rw[if_neg (fun g=>g hv)]at h3;refine⟨?_,rfl,rfl⟩;unfold P.dp;unfold jM at hv;dsimp only[ae,Row.den]at*;by_cases c1:a=1
  .rw[if_pos c1]at h3;dsimp only at h3;omega
  rw[if_neg c1]at h3;by_cases c2:a=2
  .rw[if_pos c2]at h3;dsimp only at h3;omega
  rw[if_neg c2]at h3;by_cases c3:a=3
  .rw[if_pos c3]at h3;dsimp only at h3;omega
  rw[if_neg c3]at h3;by_cases c4:a=4
  .rw[if_pos c4]at h3;dsimp only at h3;omega
  rw[if_neg c4]at h3;by_cases c5:a=5
  .rw[if_pos c5]at h3;dsimp only at h3;omega
  rw[if_neg c5]at h3;dsimp only at h3;have h8:=hE.1
  have hb:(0:Int)<=b/\b<(l.1.length:Int):=by omega
  have hbl:b.toNat<l.1.length:=by omega
  have WN:=hE.2 _ (al0 hbl);rw[alV hbl]at h3;dsimp only[Option.map_some,amu]at h3;rw[aJ (by omega) (by omega)]at h3;omega
 .rw[if_pos hv]at h3;dsimp only at h3;omega
theorem p3{l:Lw}(hE:X5 l)(vs:List Vl)(fs:List Fd)(h1:vs.length<=100000)(h2:fs.length<=100000):Wp (M.eB aB l vs fs) fun r=>r.2=0->Tn vs fs:=by
 unfold M.eB
 refine Wp.dec (fun _=> .some fun h=>by cases h) fun c1=>?_
 refine Wp.dec (fun _=> .some fun h=>by cases h) fun c2=>?_
 have hl:vs.length=fs.length:=by omega
 refine Wp.count (fun s=>s) vs.length (fun k _=>∀(j:Nat)(v:Vl)(f:Fd),j<k->vs[j]? =some v->fs[j]? =some f->P.jR v f.2) (by omega) rfl (fun j v f h=>by omega) fun k s hk hs hJ=>?_
 obtain rfl:s=_:=hs
 refine Wp.dec (fun aj=>?_) fun hge=> .some fun _=>⟨hl,fun j v f hv hf=>hJ j v f ?_ hv hf⟩
 .have aj:k<vs.length:=by omega
  rw[ah aj,alS,ah (show k<fs.length by omega),alS]
  refine Wp.seq (fun j=>j=false->(vs[k].1:Int)=fs[k].2.1/\(vs[k].2.1:Int)=fs[k].2.2) ?_ fun j hj=>?_
  .exact Wp.jz (fun _=> .some fun h=>by cases h) fun h=> .some fun g=>⟨h,by simpa using g⟩
  refine Wp.ite (fun _=> .some fun h=>by cases h) fun c3=>?_
  obtain⟨g1,g2⟩:=hj (by simpa using c3);rw[A4,alS]
  refine Wp.seq (fun j=>j=false->¬((vs[k].2.2:Int)<(Bl fs[k].2 l.1).1\/(Bl fs[k].2 l.1).2<(vs[k].2.2:Int))) ?_ fun j hj=>?_
  .exact Wp.dec (fun _=> .some fun h=>by cases h) fun h=> .some fun g=>fun o=>o.elim h (by simpa using g)
  refine Wp.ite (fun _=> .some fun h=>by cases h) fun c4=> .some ⟨aj,bV (m:=vs.length) (by omega) aj,fun j v f Ep hv hf=>?_⟩
  by_cases e:j<k
  .exact hJ j v f e hv hf
  .obtain rfl:j=k:=by omega
   rw[alV aj]at hv;rw[alV (show j<fs.length by omega)]at hf;obtain rfl:=alU hv;obtain rfl:=alU hf;exact To hE g1 g2 (hj (by simpa using c4))
 .have:=(alW.1 hv).1;omega
structure Xi(l:Lw)(x:gw)(c:eY.den):Prop where
 inp:Tn c.2.1 x.2.2.1
 le:c.2.2.length<=8
 mem:∀vs∈c.2.2,∃k,∃hk:k<l.2.2.length,(x.2.1:Int)=(k:Int)/\Tn vs l.2.2[k].2.2.1
theorem PR{l:Lw}(hE:X5 l)(kh:gZ l){k:Nat}(hk:k<l.2.2.length)(c:eY.den)(h1:c.2.1.length<=14)(h2:c.2.2.length<=10)(h3:∀vs∈c.2.2,vs.length<=14):Wp (M.eI aB l (k:Int) c) fun r=>r.2.2=0->Xi l l.2.2[k] c:=by
 have rM:=kh.2.2.2.2.2 _ (al0 hk);unfold M.eI
 refine Wp.seq (fun _=>True) (Wp.dec (fun _=> .some trivial) fun _=> .some trivial) fun j1 _=>?_
 refine Wp.ite (fun _=> .some fun h=>by cases h) fun _=>?_
 refine Wp.seq (fun _=>True) (Wp.dec (fun _=> .some trivial) fun _=> .some trivial) fun j2 _=>?_
 refine Wp.ite (fun _=> .some fun h=>by cases h) fun _=>?_
 rw[ah hk,alS]
 refine Wp.seq _ (p3 hE c.2.1 l.2.2[k].2.2.1 (by omega) (by have:=rM.2.1;omega)) fun y4 hy4=>?_
 refine Wp.jz (fun h=> .some fun g=>absurd g h) fun c4=>?_
 have cx:=hy4 c4
 have QT:Wp (M.fG aB l (k:Int)) fun y=>(y.2:Int)<=8/\((y.2:Int)=0\/∃q,∃hq:q<l.2.2.length,(l.2.2[k].2.1:Int)=(q:Int)/\y.1=l.2.2[q].2.2.1)/\y.1.length<=14:=by
  unfold M.fG;rw[ah hk,alS]
  refine Wp.seq (fun j=>j=false->(0:Int)<=l.2.2[k].2.1/\(l.2.2[k].2.1:Int)<(l.2.2.length:Int)) ?_ fun j hj=>?_
  .refine Wp.dec (fun _=> .some fun h=>by cases h) fun h=> .some fun g=>?_
   have g:=of_decide_eq_false g;exact⟨Int.not_lt.1 h,Int.not_le.1 g⟩
  refine Wp.ite (fun _=> .some ⟨by show(0:Int)<=8;omega, .inl rfl,by simp⟩) fun c=>?_
  obtain⟨g1,g2⟩:=hj (by simpa using c);obtain⟨q,hq⟩:=al8 g1;have g3:(q:Int)<(l.2.2.length:Int):=hq▸g2
  have TV:q<l.2.2.length:=by omega
  have e:idx l.2.2 l.2.2[k].2.1=some l.2.2[q]:=by
   rw[show idx l.2.2 l.2.2[k].2.1=idx l.2.2 (q:Int)from congrArg _ hq,ah TV]
  rw[e,alS];exact .some ⟨by show(8:Int)<=8;omega, .inr ⟨q,TV,hq,rfl⟩,(kh.2.2.2.2.2 _ (al0 TV)).2.1⟩
 refine Wp.seq _ QT fun y5 hy5=>?_
 obtain⟨i1,i2,i3⟩:=hy5
 refine Wp.dec (fun _=> .some fun h=>by cases h) fun c5=>?_
 have h8:c.2.2.length<=8:=by omega
 refine Wp.count (fun s=>s) c.2.2.length (fun m _=>∀j(h:j<c.2.2.length),j<m->Tn c.2.2[j] y5.1) (by omega) rfl (fun j h g=>by omega) fun m s hm hs hJ=>?_
 obtain rfl:s=_:=hs
 refine Wp.dec (fun aj=>?_) fun hge=> .some fun _=>⟨cx,h8,fun vs TS=>?_⟩
 .have aj:m<c.2.2.length:=by omega
  rw[ah aj,alS]
  refine Wp.seq _ (p3 hE c.2.2[m] y5.1 (by have:=h3 _ (al0 aj);omega) (by omega)) fun y8 hy8=>?_
  refine Wp.jz (fun h=> .some fun g=>absurd g h) fun c8=> .some ⟨aj,bV (m:=c.2.2.length) (by omega) aj,fun j h hj=>?_⟩
  by_cases e:j<m
  .exact hJ j h e
  .obtain rfl:j=m:=by omega
   exact hy8 c8
 .obtain⟨j,hj,rfl⟩:=amb TS
  rcases i2 with i2|⟨q,hq,e1,e2⟩
  .omega
  .exact⟨q,hq,e1,e2▸hJ j hj (by omega)⟩
abbrev JM:=cz.den
structure FN(l:Lw)(x:gw)(d:Int)(env:JM):Prop where
 date:env.1=d
 inp:Tn env.2.1 x.2.2.1
 dfs:NL env.2.2.1 x.2.2.2.1
 mts:env.2.2.2.2.1=(dt l x).2.2.2.2.1
 lem:env.2.2.2.1.length<=100
 mem:∀D∈env.2.2.2.1,∀(k:Nat)(t:Ty),(dt l x).2.2.2.2.1[k]? =some t->∃v,D[k]? =some v/\(P.jR v t\/(v.1:Int)=0)
 tbs:env.2.2.2.2.2=l.2.1
theorem FN.ok{l:Lw}(hw:WF bU l){x:gw}{d:Int}{env:JM}(h:FN l x d env):P.im env:=by
 refine⟨h.lem,fun t ht=>?_⟩;rw[h.tbs]at ht;have:=(hw.2.1.2 t ht).2.2.2.1;unfold maxLen at this;exact this
theorem FN.agr{l:Lw}{x:gw}{d:Int}{env:JM}(h:FN l x d env):P.SI (dt l x) env:=by
 refine⟨fun k t hk=>?_,fun k t hk=>?_,fun k t hk=>?_,h.mem,fun k T hk=>?_⟩
 .have hk:(x.2.2.1.map (·.2))[k]? =some t:=hk;rw[amD]at hk;obtain⟨f,hf,rfl⟩:=amY.1 hk;have hl:=(alW.1 hf).1
  have r9:k<env.2.1.length:=by rw[h.inp.1];exact hl
  exact⟨_,alV r9,h.inp.2 k _ f (alV r9) hf⟩
 .have hk:(x.2.2.2.1.map (·.2))[k]? =some t:=hk;rw[amD]at hk;obtain⟨f,hf,rfl⟩:=amY.1 hk;have hl:=(alW.1 hf).1
  have r9:k<env.2.2.1.length:=by rw[h.dfs.1];exact hl
  exact⟨_,alV r9,h.dfs.2 k _ f (alV r9) hf⟩
 .rw[h.mts];exact hk
 .have hk:l.2.1[k]? =some T:=hk;rw[h.tbs];exact⟨T,hk,rfl,rfl⟩
structure Rl(l:Lw)(x:gw)(d:Int)(m:NK)(y:Int)(i j:Nat)(hj:j<x.2.2.2.2.length):Prop where
 num:y=(j:Int)
 pos:M.cB aB m y=some (i:Int)
 ind:idx m.2.2 (i:Int)=some y
 code:∃g v,idx m.2.1.2.2.1 (i:Int)=some g/\idx m.2.1.2.2.2 (i:Int)=some v/\Hk x.2.2.2.2[j].2.2.2.2.2.1 (dt l x) g/\P.V.Code x.2.2.2.2[j].2.2.2.2.2.2.1 (dt l x) v
theorem yr.PS{l:Lw}{x:gw}{d:Int}{m:NK}(h:yr l x d m)(hs:iE x){y:Int}(hy:y∈vi x.2.2.2.2 d):∃i j,∃hj:j<x.2.2.2.2.length,Rl l x d m y i j hj:=by
 obtain⟨i,hi,rfl⟩:=amb hy;have hp:=h.prg;have hr:=hp.rules;have h1:=hp.gl;have h2:=hp.vl;have hc:=hp.code;dsimp only at hr h1 h2 hc
 have hl:(bT x.2.2.2.2 d).length=(vi x.2.2.2.2 d).length:=by rw[kO,xI]
 have gr:i<(bT x.2.2.2.2 d).length:=by omega
 obtain⟨j,hj,e,_,p,ep⟩:=JK gr hi
 have hir:i<m.2.1.2.1.length:=by rw[hr];exact gr
 obtain⟨c1,c2⟩:=hc i hir (by omega) (by omega)
 have er:m.2.1.2.1[i]=yq x.2.2.2.2[j] p:=by
  rw[<-ep];exact List.getElem_of_eq hr hir
 rw[er]at c1 c2;exact⟨i,j,hj,e,h.Ni hs hi,by rw[h.inds];exact ah hi,_,_,ah (show i<m.2.1.2.2.1.length by omega),ah (show i<m.2.1.2.2.2.length by omega),c1,c2⟩
inductive Nj(l:Lw)(x:gw)(d:Int)(m:NK)(mem a:Int):Int×au.den->Int×au.den->Prop
 |err {r r':Int} {e:au.den}:(e.1:Int)≠0->Nj l x d m mem a (r,e) (r',e)
 |none {e:au.den} {r':Int}:(e.1:Int)=0->Nj l x d m mem a (-1,e) (r',((10:Int),(mem,(a,(-1:Int)))))
 |two {e:au.den} {r':Int}:(e.1:Int)=0->Nj l x d m mem a (-2,e) (r',((11:Int),(mem,(a,(-1:Int)))))
 |PS {e e':au.den} {y:Int} {i j:Nat} {hj:j<x.2.2.2.2.length}:(e.1:Int)=0->(e'.1:Int)=0->0<=y->(x.2.2.2.2[j].2.1:Int)=a->Rl l x d m y i j hj->Nj l x d m mem a (y,e) ((i:Int),e')
theorem Tp{l:Lw}(hw:WF bU l){x:gw}{d:Int}{m:NK}(hM:yr l x d m)(hs:iE x){env:JM}(hE:FN l x d env)(mem a:Int):kR (M.eV aB x env mem a) (M.bO aB m env mem a) (Nj l x d m mem a):=by
 have SX:=hs.2.2.2.1;have he:=hE.ok hw;have ag:=hE.agr;unfold M.eV M.bO;rw[hM.scope,hE.date]
 refine kR.same (JI x a d (by omega)) fun t ht=>?_
 obtain⟨li,pa,pr⟩:=t;obtain⟨t1,t2,t3⟩:=ht;dsimp only at t1 t2 t3⊢
 have hle:li.length<=60:=by rw[t1];exact Nat.le_trans (sU ..) (by omega)
 have JF:∀y∈li,0<=y/\∃i j,∃hj:j<x.2.2.2.2.length,Rl l x d m y i j hj/\(x.2.2.2.2[j].2.1:Int)=a:=fun y hy=>by
  rw[t1]at hy;obtain⟨j,hj,hp,rfl⟩:=lz.1 hy;rw[pZ hj]at hp;have hp:=of_decide_eq_true hp;have BV:((j:Nat):Int)∈vi x.2.2.2.2 d:=lz.2 ⟨j,hj,by rw[pZ hj];exact decide_eq_true hp.2,rfl⟩;obtain⟨i,j',Ep,hR⟩:=hM.PS hs BV
  obtain rfl:j=j':=by have:=hR.num;omega
  exact⟨by omega,i,j,Ep,hR,hp.1⟩
 have uB:lB (li.length:Int) false=some (alX li.length false):=by
  unfold lB;rw[if_pos (by omega),al1]
 rw[uB,alS,alS];refine kR.join ?_
 refine(kR.count (Q:=JH (fun b b'=>b=b'/\b.length=li.length) (fun r r'=>r=r'/\(r.2.1:Int)≠0)) li.length (fun k s s'=>s=s'/\s.1=(k:Int)/\s.2.length=li.length) (by omega) ⟨rfl,rfl,by simp⟩ fun k s s' hk hJ=>?_).mono fun u u' hu=>?_
 .obtain⟨c,b⟩:=s;obtain⟨j1,j2,j3⟩:=hJ;dsimp only at j2 j3;subst j1 j2
  refine kR.dec (fun aj=>?_) fun hge=> .some ⟨rfl,j3⟩
  have aj:k<li.length:=by dsimp only at aj;omega
  dsimp only;refine kR.join ?_;obtain⟨_,i,j,hj,hR,_⟩:=JF _ (al0 aj);obtain⟨g,v,e1,e2,cg,cv⟩:=hR.code
  have hx:idx x.2.2.2.2 li[k]=some x.2.2.2.2[j]:=by rw[hR.num];exact ah hj
  rw[ah aj,alS,alS,hx,alS,hR.pos,alS,alS,e1,alS]
  have hb:k<b.length:=by omega
  rcases cg with⟨c1,c2⟩|⟨c1,c2⟩
  .subst c2;rw[if_pos (decide_eq_true (show((x.2.2.2.2[j].2.2.2.2.2.1.length:Nat):Int)=0 by omega)),if_pos (by decide),ah hb,alS];exact .some (.some ⟨aj,rfl,bV (m:=li.length) (by omega) aj,by dsimp only;rw[fh];exact j3⟩)
  .have hg:=c2.pos;obtain⟨n,w,r1,r2⟩:=c2.run env he ag;rw[if_neg (by rw[decide_eq_true_eq];omega),if_neg (by rw[decide_eq_true_eq];omega),r1,r2,alS,alS];dsimp only;by_cases Xj:w.2=0
   .rw[if_neg (by simpa using Xj),ah hb,alS];exact .some (.some ⟨aj,rfl,bV (m:=li.length) (by omega) aj,by dsimp only;rw[fh];exact j3⟩)
   .rw[if_pos (by simpa using Xj)];exact .some ⟨rfl,Xj⟩
 .cases u<;>cases u'
  .obtain⟨rfl,hb⟩:=hu;rename_i b
   refine kR.same (JJ pa pr b (by omega)) fun r hr=>?_
   rw[t2]at hr
   rcases hr with rfl|rfl|⟨r1,r2⟩
   .exact .some (.none rfl)
   .exact .some (.two rfl)
   .obtain⟨y,hy,hm⟩:=uo r1 r2;obtain⟨h0,i,j,hj,hR,ha⟩:=JF y hm;rw[if_neg (by rw[decide_eq_true_eq];omega),if_neg (by rw[decide_eq_true_eq];omega),if_neg (by rw[decide_eq_true_eq];omega),hy,alS,alS,hR.pos,alS];exact .some (.PS rfl rfl h0 ha hR)
  .exact hu.elim
  .exact hu.elim
  .rename_i r r';obtain⟨rfl,hn⟩:=hu;obtain⟨r,e⟩:=r;exact .err hn
end L
end Go.Proofs.YtmihpkfkbfgigaaGreatDoor
end
