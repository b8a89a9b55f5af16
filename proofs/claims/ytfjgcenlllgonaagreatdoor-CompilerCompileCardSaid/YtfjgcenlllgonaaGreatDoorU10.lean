/- Joined texts: RX KL PV PT KD KE PT2 KM KM2 KM3. -/
import Derived.Test.YtfjgcenlllgonaaGreatDoorU9
import Derived.Test.YtfjgcenlllgonaaGreatDoorU8
import Derived.Test.YtfjgcenlllgonaaGreatDoorU1
import Derived.Lib.Mul64
import Derived.Laws.Bits64b
open _root_.Bool renaming false->ag,true->af,false_eq_true->aoC,eq_iff_iff->aoO,not_false->apd,not_true->aoX,and_eq_true->apQ
open _root_.Option renaming none->ae,some->aa,bind_some->aoy,getD_some->ao8
open _root_.Int renaming eq_ofNat_of_zero_le->aoU,toNat_natCast->aoF,reduceEq->apG,tdiv->aoM,toNat_of_nonneg->apI,natCast_mul->apy,tdiv_eq_ediv_of_nonneg->aoN,tmod_eq_emod_of_nonneg->aoQ,tmod->aoP,lt_or_le->apZ,mul_le_mul_of_nonneg_right->aqg
open _root_.Go.IntKind renaming i64->aoz,u64->aoD
open _root_.List renaming append_assoc->ape,append_nil->apq,getD->apb,getElem?_append_left->apc,getElem?_eq_getElem->aoA,getElem?_eq_some_iff->aoI,getElem?_map->apD,getElem_append_left->aoK,getElem_append_right->ao1,getElem_map->apB,getElem_mem->aoG,getElem_of_mem->aoS,length_append->aoH,length_cons->apa,length_eq_zero_iff->apL,length_map->ao5,length_take->ao0,map_append->apj,mem_map->apY,mem_singleton->aoY,mem_take_iff_getElem->apN,range->ap1,replicate->aoE,replicate_succ->apr,set_append_right->apw,take_add_one->apS,take_length->ao3,map_cons->aqi,drop_eq_getElem_cons->ao2,all_eq_true->aqf
open _root_.Nat renaming le_refl->aoJ,zero_le->aoR,beq->aoL,div_div_eq_div_mul->aqy,div_lt_iff_lt_mul->apo,mul_comm->apt,mul_le_mul_right->aoZ,pow_add->aqs,add_mul->apl,div_add_mod->apX,mod_lt->ap0,add_zero->apO,div_le_self->apP,lt_of_lt_of_le->api,zero_add->apn
open _root_.Sum renaming inl->ao4,inr->aoV
open _root_.Decidable renaming not_not->apT
namespace Go.Proofs.YtfjgcenlllgonaaGreatDoor
open Go Go.RowKit
set_option maxRecDepth 100000
set_option linter.unusedSimpArgs false
set_option linter.unusedVariables false
set_option linter.defProp false
namespace L
def wK(r:Ty)(d:Int):Prop:=VR r/\(r.1:Int)<=d/\d<(r.2:Int)
instance(r:Ty)(d:Int):Decidable (wK r d):=by unfold wK;infer_instance
theorem Qb(r:Ty)(d:Int):M.bV aG r d=aa (decide (wK r d)):=by
 obtain⟨(r1:Int),(r2:Int)⟩:=r;apply Wp.eq;unfold M.bV;simp only[IK,W_,au,av,reduceCtorEq];unfold wK;dsimp only[aB,Row.den]
 by_cases h:VR ((r1,r2):Ty)<;>simp only[h,W_,au,av,reduceCtorEq]
 omega
def vq:Ty:=((0:Int),(109573:Int))
def gf(rows:List Rw)(d:Int):List Rw:=(rows.filter λx=>decide (wK x.1 d)).map λx=>(vq,x.2)
theorem Qc{α β:Type}(l:List α)(p:α->Bool)(F:α->β){body:Int×List β->Option ((Int×List β)⊕List β)}(hl:l.length<=4294967295)
 (hb:∀k,∀h:k<l.length,∀o:List β,o.length<=k->body ((k:Int),o)=aa (.inl (aoz.wrap ((k:Int)+1),if p l[k]=af then o++[F l[k]]else o)))
 (he:∀o:List β,body ((l.length:Int),o)=aa (.inr o)):Loop body aG ((0:Int),[])=aa ((l.filter p).map F):=by
 have FX:l.length<aG:=by unfold aG;omega
 refine yK (λk=>((k:Int),((l.take k).filter p).map F)) l.length _ (by simp) (λk hk=>?_) (by rw[he,ao3]) FX
 have hle:(((l.take k).filter p).map F).length<=k:=by
  rw[ao5];exact Nat.le_trans (List.length_filter_le _ _) (by simp;omega)
 rw[hb k hk _ hle,bX (m:=l.length) (by omega) hk,apS,aoA hk];rw[List.filter_append,apj];by_cases h:p l[k]=af
 .rw[aj h]
  have:([l[k]]:List α).filter p=[l[k]]:=by simp[h]
  show aa (ao4 (_,_))=aa (ao4 (_,_++(List.filter p [l[k]]).map F))
  rw[this];rfl
 .rw[ai h]
  have:([l[k]]:List α).filter p=[]:=by simp[h]
  show aa (ao4 (_,_))=aa (ao4 (_,_++(List.filter p [l[k]]).map F))
  rw[this,List.map_nil,apq]
theorem IV(t:xQ)(d:Int)(hl:t.2.2.2.length<=1048576):M.ik aG t d=aa (t.1,t.2.1,t.2.2.1,gf t.2.2.2 d):=by
 unfold M.ik
 have:=Qc t.2.2.2 (λx=>decide (wK x.1 d)) (λx:Rw=>((vq,x.2):Rw)) (body:=λs2=>(if(decide (s2.1<(t.2.2.2.length:Int)))=af then((idx t.2.2.2 s2.1).bind λx4=>(M.bV aG x4.1 d).bind λy5=>(if y5=af then(M.eE aG).bind λy6=>(bR s2.2 ([(y6,x4.2)]:List dM.den)).bind λl7=>aa l7 else aa s2.2):Option (List dM.den)).bind λj3=>aa (ao4 (aoz.wrap (s2.1+(1:Int)),j3))else aa (aoV s2.2))) (by omega)
  (λk hk o ho=>by
    have ea:M.eE aG=aa vq:=rfl;simp only[dW hk,aD hk,Qb,ea,aoy,if_true,bF (show o.length+[((vq,t.2.2.2[k].2):Rw)].length<=4294967296 by simp;omega)];by_cases h:wK t.2.2.2[k].1 d
    .simp only[ao h,if_true,aoy]
    .simp only[aq h,aoC,if_false,aoy])
  (λo=>by simp only[dB,decide_false,aoC,if_false])
 rw[this];rfl
theorem Kz:VR vq:=by decide
theorem Qd{x y:Rw}{d:Int}(hx:wK x.1 d)(hy:wK y.1 d)(h:nN ((vq,x.2):Rw) ((vq,y.2):Rw)):nN x y:=by
 obtain⟨⟨(x1:Int),(x2:Int)⟩,(x3:Int),(x4:Int),(x5:Int)⟩:=x;obtain⟨⟨(y1:Int),(y2:Int)⟩,(y3:Int),(y4:Int),(y5:Int)⟩:=y;unfold nN at h⊢;unfold wK at hx hy;dsimp only[aB,Row.den]at*;exact⟨hx.1,hy.1,by omega,h.2.2.2⟩
theorem Qe{x:Rw}{t:xQ}{E:List En}{rows:List Rw}(h:¬pc x t E):¬pc ((vq,x.2):Rw) ((t.1,(t.2.1,(t.2.2.1,rows))):xQ) E:=by
 intro g;apply h;unfold pc at g⊢
 rcases g with g|g|g
 .exact absurd Kz g
 .exact absurd (show(0:Int)=109573 from g) (by decide)
 .exact .inr (.inr g)
theorem xr{α:Type}{p:α->Bool}:∀{l:List α}{k:Nat}(h:k<(l.filter p).length),∃j,∃hj:j<l.length,(l.filter p)[k]=l[j]/\p l[j]=af/\∀i,∀hi:i<(l.filter p).length,i<k->∃m,∃hm:m<l.length,m<j/\(l.filter p)[i]=l[m]/\p l[m]=af
 |[],k,h=>absurd h (by simp)
 |a::l,k,h=>by
  by_cases ha:p a=af
  .have e:(a::l).filter p=a::l.filter p:=List.filter_cons_of_pos ha
   cases k with
   |zero=>exact⟨0,by simp,by simp[e],ha,λi _ hi=>by omega⟩
   |succ k=>
    have hk:k<(l.filter p).length:=by rw[e]at h;simpa using h
    obtain⟨j,hj,h1,h2,h3⟩:=xr (l:=l) hk;refine⟨j+1,by simpa using hj,by simpa[e]using h1,h2,λi hi hik=>?_⟩
    cases i with
    |zero=>exact⟨0,by simp,by omega,by simp[e],ha⟩
    |succ i=>
     obtain⟨m,hm,h4,h5,h6⟩:=h3 i (by rw[e]at hi;simpa using hi) (by omega);exact⟨m+1,by simpa using hm,by omega,by simpa[e]using h5,h6⟩
  .have e:(a::l).filter p=l.filter p:=List.filter_cons_of_neg ha
   have hk:k<(l.filter p).length:=by rw[e]at h;exact h
   obtain⟨j,hj,h1,h2,h3⟩:=xr (l:=l) hk;refine⟨j+1,by simpa using hj,by simpa[e]using h1,h2,λi hi hik=>?_⟩;obtain⟨m,hm,h4,h5,h6⟩:=h3 i (by rw[e]at hi;exact hi) hik;exact⟨m+1,by simpa using hm,by omega,by simpa[e]using h5,h6⟩
theorem Cp{rows:List Rw}{d:Int}{k:Nat}(h:k<(gf rows d).length)(h':k<(rows.filter λx=>decide (wK x.1 d)).length):(gf rows d)[k]=((vq,(rows.filter λx=>decide (wK x.1 d))[k].2):Rw):=apB ..
theorem W1{t:xQ}{E:List En}(d:Int)(h:(mJ t E).2=0):(mJ ((t.1,(t.2.1,(t.2.2.1,gf t.2.2.2 d))):xQ) E).2=0:=by
 obtain⟨h1,h2,h3⟩:=DM.1 h;refine DM.2 ⟨?_,h2,λk hk=>?_⟩
 .show(gf t.2.2.2 d).length<=64
  unfold gf;rw[ao5];exact Nat.le_trans (List.length_filter_le _ _) h1
 .have dT:k<(t.2.2.2.filter λx=>decide (wK x.1 d)).length:=by
   have:k<(gf t.2.2.2 d).length:=hk;unfold gf at this
   rwa [ao5]at this
  obtain⟨j,hj,e,hp,aaj⟩:=xr dT;have vD:(gf t.2.2.2 d)[k]'hk=((vq,t.2.2.2[j].2):Rw):=(Cp hk dT).trans (by rw[e])
  show¬pc ((gf t.2.2.2 d)[k]'hk) _ E/\¬∃y∈(gf t.2.2.2 d).take k,nN y ((gf t.2.2.2 d)[k]'hk)
  rw[vD];refine⟨Qe (h3 j hj).1,?_⟩
  rintro⟨y,hy,hc⟩
  obtain⟨i,hi,rfl⟩:=apN.1 hy
  have gh:i<(t.2.2.2.filter λx=>decide (wK x.1 d)).length:=by omega
  obtain⟨m,hm,hmj,e2,Uh⟩:=aaj i gh (by omega);have agU:(gf t.2.2.2 d)[i]'(by omega)=((vq,t.2.2.2[m].2):Rw):=(Cp _ gh).trans (by rw[e2]);rw[agU]at hc;exact(h3 j hj).2 ⟨_,apN.2 ⟨m,by omega,rfl⟩,Qd (ak Uh) (ak hp) hc⟩
def eC(d:Int)(c:List Int×List Int×List Int)(r:jC):List Int×List Int×List Int:=
 if wK r.2.2.2.2.1 d then(c.1++[(c.2.1.length:Int)],c.2.1++[(c.1.length:Int)],c.2.2++[if 0<=(r.2.2.1:Int)/\(r.2.2.1:Int)<(c.1.length:Int)then c.1.getD (r.2.2.1:Int).toNat (-1)else-1])
 else(c.1++[if 0<=(r.2.2.1:Int)/\(r.2.2.1:Int)<(c.1.length:Int)then c.1.getD (r.2.2.1:Int).toNat (-1)else-1],c.2.1,c.2.2)
def iZ(d:Int)(rules:List jC):List Int×List Int×List Int:=rules.foldl (eC d) ([],[],[])
theorem rk(d:Int)(rules:List jC):(iZ d rules).1.length=rules.length/\(iZ d rules).2.1.length<=rules.length/\(iZ d rules).2.2.length=(iZ d rules).2.1.length:=by
 unfold iZ
 suffices∀(rules:List jC)(c:List Int×List Int×List Int),c.2.2.length=c.2.1.length->(rules.foldl (eC d) c).1.length=c.1.length+rules.length/\(rules.foldl (eC d) c).2.1.length<=c.2.1.length+rules.length/\(rules.foldl (eC d) c).2.2.length=(rules.foldl (eC d) c).2.1.length by simpa using this rules ([],[],[]) rfl
 intro rules
 induction rules with
 |nil=>intro c h;exact⟨rfl,aoJ _,h⟩
 |cons r rules ih=>
  intro c h;rw[List.foldl_cons,apa]
  have h1:(eC d c r).1.length=c.1.length+1:=by unfold eC;split<;>simp
  have h2:(eC d c r).2.1.length<=c.2.1.length+1:=by unfold eC;split<;>simp
  have h3:(eC d c r).2.2.length=(eC d c r).2.1.length:=by unfold eC;split<;>simp[h]
  obtain⟨g1,g2,g3⟩:=ih _ h3;exact⟨by omega,by omega,g3⟩
theorem Aa(l:List Int)(m:Nat)(v:Int):be (l++aoE (m+1) (0:Int)) (l.length:Int) v=(l++[v])++aoE m (0:Int):=by
 unfold be;rw[aoF,apw _ _ (aoJ _),Nat.sub_self,apr,List.set_cons_zero];simp
theorem Qf(l:List Int)(m:Nat)(u v:Int):be ((l++[u])++aoE m (0:Int)) (l.length:Int) v=(l++[v])++aoE m (0:Int):=by
 unfold be;rw[aoF,ape,apw _ _ (aoJ _),Nat.sub_self];simp
theorem DO(rules:List jC)(d:Int)(hl:rules.length<=100000):M.fY aG rules d=aa (d,(iZ d rules).2.1,(iZ d rules).2.2):=by
 apply Wp.eq;unfold M.fY;rw[wp_bind];refine zP.2 ⟨by omega,?_⟩;rw[aoF]
 refine Wp.count (λs=>s.1) rules.length (λk s=>s.2=(d,(iZ d (rules.take k)).1++aoE (rules.length-k) 0,(iZ d (rules.take k)).2.1,(iZ d (rules.take k)).2.2)) (by omega) rfl (by simp[iZ]) λk s hk hs hJ=>?_
 obtain⟨i,s2⟩:=s;dsimp only at hs hJ;subst hs hJ;simp only[W_,au,av,reduceCtorEq,aQ,aO];refine⟨λaJ=>?_,λhge=>?_⟩
 .have aJ:k<rules.length:=by omega
  obtain⟨l1,l2,l3⟩:=rk d (rules.take k)
  have Ro:(rules.take k).length=k:=by rw[ao0];omega
  rw[Ro]at l1 l2
  have lm:iZ d (rules.take (k+1))=eC d (iZ d (rules.take k)) rules[k]:=by
   unfold iZ;rw[apS,aoA aJ,List.foldl_append];rfl
  obtain⟨m,hm⟩:∃m,rules.length-k=m+1:=⟨rules.length-k-1,by omega⟩
  have NA:rules.length-(k+1)=m:=by omega
  rw[lm,hm,NA];generalize iZ d (rules.take k)=c at*;obtain⟨near,li,pa⟩:=c;dsimp only at l1 l2 l3⊢;subst l1;rw[aD aJ];refine .some ?_;generalize rules[near.length]=r at*
  have hc:M.eI aG r d=aa (decide (wK r.2.2.2.2.1 d),d):=by
   unfold M.eI;rw[Qb,aoy]
  have hw:aoz.wrap ((near.length:Int)+1)=((near.length+1:Nat):Int):=bX (m:=rules.length) (by omega) aJ
  have tail:∀a:Int,a=(if 0<=(r.2.2.1:Int)/\(r.2.2.1:Int)<(near.length:Int)then near.getD (r.2.2.1:Int).toNat (-1)else-1)->
   Wp (idx (near++aoE (m+1) (0:Int)) (near.length:Int)) λ_=>Wp (M.eI aG r d) λx=>(x.1=af->Wp (idx (be (near++aoE (m+1) (0:Int)) (near.length:Int) a) (near.length:Int)) λ_=>Wp (bR li [(near.length:Int)]) λx4=>Wp (bR pa [a]) λx5=>near.length<rules.length/\aoz.wrap ((near.length:Int)+1)=((near.length+1:Nat):Int)/\(x.2,be (be (near++aoE (m+1) (0:Int)) (near.length:Int) a) (near.length:Int) (li.length:Int),x4,x5)=(d,(eC d (near,li,pa) r).1++aoE m 0,(eC d (near,li,pa) r).2.1,(eC d (near,li,pa) r).2.2))/\
    (x.1=ag->near.length<rules.length/\aoz.wrap ((near.length:Int)+1)=((near.length+1:Nat):Int)/\(x.2,be (near++aoE (m+1) (0:Int)) (near.length:Int) a,li,pa)=(d,(eC d (near,li,pa) r).1++aoE m 0,(eC d (near,li,pa) r).2.1,(eC d (near,li,pa) r).2.2)):=by
   intro a ha;refine ee.2 ⟨by simp;omega,?_⟩;rw[hc];refine .some ⟨λh=>?_,λh=>?_⟩
   .have h:wK r.2.2.2.2.1 d:=ak h;refine ee.2 ⟨by rw[Aa];simp;omega,lB.2 ⟨by simp;omega,lB.2 ⟨by simp;omega,aJ,hw,?_⟩⟩⟩;rw[Aa,Qf];unfold eC;rw[aj h,ha]
   .have h:¬wK r.2.2.2.2.1 d:=al h;refine⟨aJ,hw,?_⟩;rw[Aa];unfold eC;rw[ai h,ha]
  obtain⟨(p:Int),hp⟩:∃p:Int,p=r.2.2.1:=⟨_,rfl⟩
  simp only[<-hp]at tail⊢;refine⟨λh0=>⟨λh1=>?_,λh1=>tail _ (by rw[ai λg=>h1 g.2])⟩,λh0=>tail _ (by rw[ai λg=>h0 g.1])⟩;obtain⟨c,rfl⟩:=aoU h0;have AN:c<near.length:=Int.ofNat_lt.1 h1;refine ee.2 ⟨by simp;omega,tail _ ?_⟩;rw[aj ⟨h0,h1⟩];simp only[aoF];rw[aoK AN];simp[apb,AN]
 .obtain rfl:k=rules.length:=by omega
  rw[ao3]
theorem Cq(d:Int)(rules:List jC)(r:jC):iZ d (rules++[r])=eC d (iZ d rules) r:=by
 unfold iZ;rw[List.foldl_append];rfl
def XV(rules:List jC)(li:List Int)(b:Nat)(df:Int)(a:Int):Prop:=a= -1\/∃j:Nat,a=(j:Int)/\j<b/\∃i,∃h:i<rules.length,li[j]? =aa (i:Int)/\(rules[i].2.1:Int)=df
structure KA(d:Int)(rules:List jC)(c:List Int×List Int×List Int):Prop where
 near:c.1.length=rules.length
 same:c.2.2.length=c.2.1.length
 nr:∀i,∀h:i<rules.length,∀h':i<c.1.length,XV rules c.2.1 c.2.1.length rules[i].2.1 c.1[i]
 li:∀j,∀h:j<c.2.1.length,∃i,∃hi:i<rules.length,c.2.1[j]=(i:Int)/\wK rules[i].2.2.2.2.1 d/\∀h':j<c.2.2.length,XV rules c.2.1 j rules[i].2.1 c.2.2[j]
 inc:c.2.1.Pairwise (· < ·)
theorem XV.more{rules:List jC}{li:List Int}{b b':Nat}{df a:Int}(r:jC)(l':List Int)(hb:b<=b')(h:XV rules li b df a):XV (rules++[r]) (li++l') b' df a:=by
 rcases h with h|⟨j,h1,h2,i,hi,h3,h4⟩
 .exact .inl h
 .refine .inr ⟨j,h1,by omega,i,by simp;omega,?_,?_⟩
  .rw[apc (aoI.1 h3).1];exact h3
  .rw[aoK hi];exact h4
theorem oP.init{rules:List jC}{r:jC}(h:oP (rules++[r])):oP rules:=λi hi=>by
 have:=h i (by simp;omega);rw[aoK hi]at this
 rcases this with g|⟨p,hp,g1,g2⟩
 .exact .inl g
 .refine .inr ⟨p,hp,g1,?_⟩;rw[aoK (show p<rules.length by omega)]at g2;exact g2
theorem KA.snoc{d:Int}{rules:List jC}{r:jC}{c:List Int×List Int×List Int}(h:KA d rules c)(hp:oP (rules++[r])):KA d (rules++[r]) (eC d c r):=by
 obtain⟨near,li,pa⟩:=c;obtain⟨h1,h2,h3,h4,h5⟩:=h;dsimp only at h1 h2 h3 h4 h5
 have last:(rules++[r])[rules.length]'(by simp)=r:=by simp
 have Qg:XV rules li li.length r.2.1 (if 0<=(r.2.2.1:Int)/\(r.2.2.1:Int)<(near.length:Int)then near.getD (r.2.2.1:Int).toNat (-1)else-1):=by
  have:=hp rules.length (by simp);rw[last]at this
  rcases this with g|⟨p,pU,g1,g2⟩
  .rw[ai (λq=>by rw[g]at q;exact absurd q.1 (by decide))];exact .inl rfl
  .have Ef:near.length=rules.length:=h1;rw[g1,aj ⟨Int.natCast_nonneg p,Int.ofNat_lt.2 (by omega)⟩,aoF];rw[aoK pU]at g2
   have hpn:p<near.length:=by omega
   have:=h3 p pU hpn;rw[g2]at this;simpa[apb,hpn]using this
 have aJ:∀x∈li,x<(rules.length:Int):=λx hx=>by
  obtain⟨j,hj,rfl⟩:=aoS hx;obtain⟨i,hi,e,_⟩:=h4 j hj;omega
 unfold eC;dsimp only;generalize(if 0<=(r.2.2.1:Int)/\(r.2.2.1:Int)<(near.length:Int)then near.getD (r.2.2.1:Int).toNat (-1)else-1)=a at Qg⊢;by_cases eK:wK r.2.2.2.2.1 d
 .rw[aj eK];refine⟨by simp[h1],by simp[h2],λi hi gh=>?_,λj hj=>?_,?_⟩
  .dsimp only at gh⊢;by_cases e:i<rules.length
   .rw[aoK e,aoK (show i<near.length by omega)];exact(h3 i e (by omega)).more r [_] (by simp)
   .obtain rfl:i=rules.length:=by simp at hi;omega
    rw[last]
    have:(near++[(li.length:Int)])[rules.length]'gh=(li.length:Int):=by
     rw[ao1 (by omega)];simp
    rw[this];exact .inr ⟨li.length,rfl,by simp,rules.length,by simp,by simp[h1],by rw[last]⟩
  .dsimp only at hj⊢;by_cases e:j<li.length
   .obtain⟨i,hi,g1,g2,g3⟩:=h4 j e;refine⟨i,by simp;omega,by rw[aoK e];exact g1,by rw[aoK hi];exact g2,λh'=>?_⟩;rw[aoK hi,aoK (show j<pa.length by omega)];exact(g3 (by omega)).more r [_] (aoJ _)
   .obtain rfl:j=li.length:=by simp at hj;omega
    refine⟨rules.length,by simp,by rw[ao1 (by omega)];simp[h1],by rw[last];exact eK,λh'=>?_⟩;rw[last]
    have:(pa++[a])[li.length]? =aa a:=by rw[<-h2];simp
    have:=(aoI.1 this).2;rw[this];exact Qg.more r [_] (aoJ _)
  .exact List.pairwise_append.2 ⟨h5,List.pairwise_singleton ..,λx hx y hy=>by
    rw[aoY.1 hy];have:=aJ x hx;have Ef:near.length=rules.length:=h1
    show x<(near.length:Int)
    omega⟩
 .rw[ai eK];refine⟨by simp[h1],h2,λi hi gh=>?_,λj hj=>?_,h5⟩
  .dsimp only at gh⊢;by_cases e:i<rules.length
   .rw[aoK e,aoK (show i<near.length by omega)];have:=(h3 i e (by omega)).more r [] (aoJ _)
    rwa [apq]at this
   .obtain rfl:i=rules.length:=by simp at hi;omega
    rw[last]
    have:(near++[a])[rules.length]? =aa a:=by rw[<-h1];simp
    have:=(aoI.1 this).2;rw[this];have:=Qg.more r [] (aoJ _)
    rwa [apq]at this
  .dsimp only at hj⊢;obtain⟨i,hi,g1,g2,g3⟩:=h4 j hj;refine⟨i,by simp;omega,g1,by rw[aoK hi];exact g2,λh'=>?_⟩;rw[aoK hi];have:=(g3 h').more r [] (aoJ _)
   rwa [apq]at this
theorem wh(d:Int):∀(n:Nat)(rules:List jC),rules.length=n->oP rules->KA d rules (iZ d rules)
 |0,rules,hn,_=>by
  obtain rfl:=apL.1 hn;exact⟨rfl,rfl,λi h=>absurd h (by simp),λj h=>absurd h (by simp[iZ]), .nil⟩
 |n+1,rules,hn,hp=>by
  obtain⟨rs,r,rfl⟩:∃rs r,rules=rs++[r]:=by
   have dS:rules≠[]:=λe=>by rw[e]at hn;cases hn
   exact⟨rules.dropLast,rules.getLast dS,(List.dropLast_concat_getLast dS).symm⟩
  rw[Cq];exact(wh d n rs (by simpa using hn) hp.init).snoc hp
theorem wi(l:List Ty)(h:l.length<=1048576):M.aI aG l=aa l:=by
 unfold M.aI;rw[bF (by simp;omega),List.nil_append,aoy];split
 .rename_i h0;obtain rfl:=apL.1 (beq_true h0);exact xn
 .rfl
theorem uR(l:List Fd)(h:l.length<=1048576):M.bI aG l=aa l:=by
 unfold M.bI;rw[bF (by simp;omega),List.nil_append,aoy];split
 .rename_i h0;obtain rfl:=apL.1 (beq_true h0);exact xn
 .rfl
def Ge(r:jC)(p:Int):jC:=(r.1,(r.2.1,(p,(r.2.2.2.1,(vq,(r.2.2.2.2.2.1,(r.2.2.2.2.2.2.1,r.2.2.2.2.2.2.2)))))))
def wj(rules:List jC)(p:Int×Int):jC:=Ge (rules[p.1.toNat]?.getD (⟨#[]⟩,((0:Int),((0:Int),((0:Int),(((0:Int),(0:Int)),([],([],⟨#[]⟩)))))))) p.2
def cK(rules:List jC)(d:Int):List jC:=((iZ d rules).2.1.zip (iZ d rules).2.2).map (wj rules)
theorem IW(x:kF)(d:Int)(hs:lD x)(hp:oP x.2.2.2.2):M.il aG x d=aa (x.1,x.2.1,x.2.2.1,x.2.2.2.1,cK x.2.2.2.2 d):=by
 have WN:=hs.2.2.2.1;have Rq:=hs.2.1;have agK:=hs.2.2.1;have hru:=hs.2.2.2.2.2.2;unfold M.il;rw[DO _ _ (by omega),aoy,uR _ (by omega),uR _ (by omega)];have sJ:=wh d _ x.2.2.2.2 rfl hp;have hlen:=rk d x.2.2.2.2;unfold cK;generalize iZ d x.2.2.2.2=c at*;obtain⟨near,li,pa⟩:=c;have oC:pa.length=li.length:=sJ.same;have FV:=sJ.li;dsimp only at hlen FV⊢
 have hz:(li.zip pa).length=li.length:=by rw[List.length_zip];omega
 have:=Ks (li.zip pa) (wj x.2.2.2.2) (body:=λs3=>(if(decide (s3.1<(li.length:Int)))=af then(idx li s3.1).bind λx4=>(idx x.2.2.2.2 x4).bind λx5=>(idx pa s3.1).bind λx6=>(M.eE aG).bind λy7=>(M.aI aG x5.2.2.2.2.2.1).bind λy8=>(M.aI aG x5.2.2.2.2.2.2.1).bind λy9=>(bR s3.2 ([(x5.1,(x5.2.1,(x6,(x5.2.2.2.1,(y7,(y8,(y9,x5.2.2.2.2.2.2.2)))))))]:List bn.den)).bind λsE=>aa (ao4 (aoz.wrap (s3.1+(1:Int)),sE))else aa (aoV s3.2))) (by omega)
  (λk hk o ho=>by
    have Ei:k<li.length:=by omega
    have Ta:k<pa.length:=by omega
    obtain⟨i,hi,e1,_⟩:=FV k Ei;have ea:M.eE aG=aa vq:=rfl;have hri:=hru _ (aoG hi);simp only[dW Ei,aD Ei,e1,aD hi,aD Ta,ea,wi _ (show x.2.2.2.2[i].2.2.2.2.2.1.length<=1048576 by omega),wi _ (show x.2.2.2.2[i].2.2.2.2.2.2.1.length<=1048576 by omega),aoy,if_true];rw[bF (by simp;omega),aoy,List.getElem_zip,e1];unfold wj Ge
    simp only[aoF,aoA hi,ao8])
  (λo=>by rw[hz];simp only[dB,decide_false,aoC,if_false])
 rw[this];rfl
def kH(t:xQ)(d:Int):xQ:=(t.1,(t.2.1,(t.2.2.1,gf t.2.2.2 d)))
def gR(x:kF)(d:Int):kF:=(x.1,(x.2.1,(x.2.2.1,(x.2.2.2.1,cK x.2.2.2.2 d))))
theorem Gf(l:Lw)(d:Int)(hm:PW l)(oC:lE l)(hp:∀x∈l.2.2,oP x.2.2.2.2):M.jz aG l d=aa (l.1,l.2.1.map (kH · d),l.2.2.map (gR · d)):=by
 have h1:=hm.en';have h2:=hm.tb';have h3:=hm.sc';unfold M.jz
 have e1:Loop (S:=Int×List bA.den) (X:=List bA.den) (λs2=>(if(decide (s2.1<(l.1.length:Int)))=af then(idx l.1 s2.1).bind λx3=>(M.cS aG x3.2).bind λy4=>(bR s2.2 ([(x3.1,y4)]:List bA.den)).bind λl5=>aa (ao4 (aoz.wrap (s2.1+(1:Int)),l5))else aa (aoV s2.2))) aG ((0:Int),([]:List bA.den))=aa l.1:=by
  have:=Ks (l:=l.1) (F:=λx:En=>x) (body:=λs2=>(if(decide (s2.1<(l.1.length:Int)))=af then(idx l.1 s2.1).bind λx3=>(M.cS aG x3.2).bind λy4=>(bR s2.2 ([(x3.1,y4)]:List bA.den)).bind λl5=>aa (ao4 (aoz.wrap (s2.1+(1:Int)),l5))else aa (aoV s2.2))) (by omega)
   (λk hk o ho=>by simp only[dW hk,aD hk,Gd _ (hm.en _ (aoG hk)),aoy,if_true,bF (show o.length+[l.1[k]].length<=4294967296 by simp;omega)])
   (λo=>by simp only[dB,decide_false,aoC,if_false])
  rw[List.map_id']at this;exact this
 rw[e1,aoy]
 have e2:=tq l.2.1 (kH · d) (λi o=>((i,l.1,o):Int×(List bA.den)×List aP.den)) (λo=>(l.1,o)) (body:=λs7=>(if(decide (s7.1<(l.2.1.length:Int)))=af then(idx l.2.1 s7.1).bind λx8=>(M.ik aG x8 d).bind λy9=>(bR s7.2.2 ([(y9.1,(y9.2.1,(y9.2.2.1,y9.2.2.2)))]:List aP.den)).bind λsE=>aa (ao4 (aoz.wrap (s7.1+(1:Int)),s7.2.1,sE))else aa (aoV (s7.2.1,s7.2.2)))) (by omega)
  (λk hk o ho=>by
    simp only[dW hk,aD hk,IV _ d (hm.tb _ (aoG hk)),aoy,if_true];rw[bF (by simp;omega),aoy]
    rfl)
  (λo=>by simp only[dB,decide_false,aoC,if_false])
 rw[e2,aoy]
 have e3:=tq l.2.2 (gR · d) (λi o=>((i,l.1,l.2.1.map (kH · d),o):Int×(List bA.den)×(List aP.den)×List aU.den)) (λo=>(l.1,l.2.1.map (kH · d),o)) (body:=λnW=>(if(decide (nW.1<(l.2.2.length:Int)))=af then(idx l.2.2 nW.1).bind λnK=>(M.il aG nK d).bind λlz=>(bR nW.2.2.2 ([(lz.1,(lz.2.1,(lz.2.2.1,(lz.2.2.2.1,lz.2.2.2.2))))]:List aU.den)).bind λWe=>aa (ao4 (aoz.wrap (nW.1+(1:Int)),nW.2.1,nW.2.2.1,We))else aa (aoV (nW.2.1,nW.2.2.1,nW.2.2.2)))) (by omega)
  (λk hk o ho=>by
    have hx:=aoG hk;simp only[dW hk,aD hk,IW _ d (oC.2.2.2.2.2 _ hx) (hp _ hx),aoy,if_true];rw[bF (by simp;omega),aoy]
    rfl)
  (λo=>by simp only[dB,decide_false,aoC,if_false])
 rw[e3];rfl
noncomputable def lS(l:Lw)(d:Int):Lw:=(l.1,(l.2.1.map (kH · d),l.2.2.map (gR · d)))
theorem Ab{β γ:Type}{l:List (ByteArray×β)}{f:ByteArray×β->ByteArray×γ}(hf:∀x,(f x).1=x.1)(nm:ByteArray):eB (l.map f) nm↔eB l nm:=by
 unfold eB;constructor
 .rintro⟨y,hy,e⟩
  obtain⟨x,hx,rfl⟩:=apY.1 hy;exact⟨x,hx,by rw[<-hf];exact e⟩
 .rintro⟨x,hx,e⟩
  exact⟨f x,apY.2 ⟨x,hx,rfl⟩,by rw[hf];exact e⟩
theorem Td(l:Lw)(d:Int)(k:Nat)(hk:k<l.2.1.length)(h:pW l k=ae):pW (lS l d) k=ae:=by
 have dT:k<(l.2.1.map (kH · d)).length:=by simpa using hk
 have e:(l.2.1.map (kH · d))[k]=kH l.2.1[k] d:=apB ..;unfold pW at h⊢;rw[aoA hk]at h;rw[show(lS l d).2.1=l.2.1.map (kH · d)from rfl,aoA dT,e];dsimp only at h⊢;rw[<-List.map_take];split at h
 .cases h
 split at h
 .cases h
 split at h
 case isFalse=>cases h
 rename_i h1 h2 h3;have n1:(kH l.2.1[k] d).1=l.2.1[k].1:=rfl;rw[ai (by rw[n1];exact h1),ai,aj (show(mJ (kH l.2.1[k] d) (lS l d).1).2=0 from W1 d h3)];rw[n1]
 rintro(g|g)
 .exact h2 (.inl g)
 .exact h2 (.inr ((Ab (f:=λx:xQ=>kH x d) (λ_=>rfl) _).1 g))
theorem Te{α β:Type}(l:List α)(f:α->β)(i:Int):idx (l.map f) i=(idx l i).map f:=by
 rw[P5,P5];split
 .rw[apD]
 .rfl
theorem MT(n:Ty)(l:List Ty)(s:rv)(f:xQ->xQ)(hf:∀t,(f t).2.1=t.2.1/\(f t).2.2.1=t.2.2.1):M.bg aG n l ((s.1,(s.2.1.map f,s.2.2)):rv)=M.bg aG n l s:=by
 have e1:M.jt aG n ((s.1,(s.2.1.map f,s.2.2)):rv)=M.jt aG n s:=rfl
 have e2:M.bH aG n ((s.1,(s.2.1.map f,s.2.2)):rv)=M.bH aG n s:=by
  unfold M.bH;simp only[ao5]
 have e3:M.cy aG n ((s.1,(s.2.1.map f,s.2.2)):rv)=M.cy aG n s:=rfl
 have e4:∀a,M.cN aG n a ((s.1,(s.2.1.map f,s.2.2)):rv)=M.cN aG n a s:=λa=>by
  unfold M.cN;simp only[Te,Option.bind_map,Function.comp_def,λt=>(hf t).1,λt=>(hf t).2]
 unfold M.bg;simp only[e1,e2,e3,e4]
theorem W2(e:List Ty)(s:rv)(f:xQ->xQ)(hf:∀t,(f t).2.1=t.2.1/\(f t).2.2.1=t.2.2.1):Hm e ((s.1,(s.2.1.map f,s.2.2)):rv)=Hm e s:=by
 have h:∀n l,Kl n l ((s.1,(s.2.1.map f,s.2.2)):rv)=Kl n l s:=λn l=>by
  unfold Kl;rw[MT n l s f hf]
 have hr:∀(e:List Ty)(i:Nat)(ny:List Ty),nx ((s.1,(s.2.1.map f,s.2.2)):rv) e i ny=nx s e i ny:=by
  intro e
  induction e with
  |nil=>intro i ny;rfl
  |cons n e ih=>
   intro i ny;rw[nx,nx,h,ih]
 unfold Hm;rw[hr]
structure Kept(rules:List jC)(d:Int)(j:Nat)(y:jC)(i:Nat):Prop where
 lt:i<rules.length
 at_:(iZ d rules).2.1[j]? =aa (i:Int)
 rul:∃p,y=Ge (rules[i]'lt) p/\(p= -1\/∃q:Nat,p=(q:Int)/\q<j/\∃i',∃h:i'<rules.length,(iZ d rules).2.1[q]? =aa (i':Int)/\(rules[i'].2.1:Int)=(rules[i]'lt).2.1)
theorem oQ(rules:List jC)(d:Int):(cK rules d).length=(iZ d rules).2.1.length:=by
 have:=(rk d rules).2.2;unfold cK;rw[ao5,List.length_zip];omega
theorem oa{rules:List jC}(d:Int)(hp:oP rules){j:Nat}(h:j<(cK rules d).length):∃i,Kept rules d j (cK rules d)[j] i:=by
 have sJ:=wh d _ rules rfl hp;have hl:=oQ rules d
 have hj:j<(iZ d rules).2.1.length:=by omega
 have yk:j<(iZ d rules).2.2.length:=by have:=sJ.same;omega
 obtain⟨i,hi,e,_,ha⟩:=sJ.li j hj
 have ez:(cK rules d)[j]=wj rules ((iZ d rules).2.1[j],(iZ d rules).2.2[j]):=by
  have hz:j<((iZ d rules).2.1.zip (iZ d rules).2.2).length:=by rw[List.length_zip];omega
  show(((iZ d rules).2.1.zip (iZ d rules).2.2).map (wj rules))[j]'(by simpa using hz)=_
  rw[apB,List.getElem_zip]
 have er:(cK rules d)[j]=Ge rules[i] ((iZ d rules).2.2[j]):=by
  rw[ez,e];unfold wj;simp only[aoF,aoA hi,ao8]
 exact⟨i,hi,by rw[aoA hj,e],_,er,ha yk⟩
theorem Kept.UP{rules:List jC}{d:Int}(hp:oP rules){j j' i i':Nat}{y y':jC}(h:Kept rules d j y i)(h':Kept rules d j' y' i')(hj:j'<j):i'<i:=by
 have sJ:=(wh d _ rules rfl hp).inc;obtain⟨h1,e1⟩:=aoI.1 h.at_;obtain⟨h2,e2⟩:=aoI.1 h'.at_;have:=List.pairwise_iff_getElem.1 sJ j' j h2 h1 hj;rw[e1,e2]at this;omega
theorem Kept.eqs{rules:List jC}{d:Int}{j i:Nat}{y:jC}(h:Kept rules d j y i):y.1=(rules[i]'h.lt).1/\(y.2.1:Int)=(rules[i]'h.lt).2.1:=by
 obtain⟨p,e,_⟩:=h.rul;have e1:y.1=(Ge (rules[i]'h.lt) p).1:=aw (λr:jC=>r.1) e;have e2:(y.2.1:Int)=(Ge (rules[i]'h.lt) p).2.1:=aw (λr:jC=>(r.2.1:Int)) e;exact⟨e1,e2⟩
theorem vr{α:Type}(l:List α)(q:α->Bool):∀n,n<=l.length->(l.take n).countP q=(((ap1 n).filter λa=>((l[a]?).map q).getD ag).map λa:Nat=>(a:Int)).length
 |0,_=>by simp
 |n+1,h=>by
  have hl:n<l.length:=by omega
  rw[List.range_succ,List.filter_append,apj,aoH,<-vr l q n (by omega),apS,List.countP_append,aoA hl]
  congr 1
  simp only[Option.toList_some,List.countP_cons,List.countP_nil,ao5];by_cases hq:q l[n]=af
  .rw[aj hq,List.filter_cons_of_pos (by rw[aoA hl];exact hq)];rfl
  .rw[ai hq,List.filter_cons_of_neg (by rw[aoA hl];exact hq)];rfl
theorem Tf{x:kF}{d:Int}(hp:oP x.2.2.2.2){j i:Nat}(h:j<(cK x.2.2.2.2 d).length)(hk:Kept x.2.2.2.2 d j (cK x.2.2.2.2 d)[j] i)(df:Int):yq (gR x d) j df<=yq x i df:=by
 unfold yq
 show((cK x.2.2.2.2 d).take j).countP _<=_
 rw[vr _ _ j (by omega),vr _ _ i (by have:=hk.lt;omega)];have agV:=(wh d _ x.2.2.2.2 rfl hp).inc;generalize hL:(ap1 j).filter (λa=>(((cK x.2.2.2.2 d)[a]?).map λr:jC=>decide ((r.2.1:Int)=df)).getD ag)=L
 have hLp:L.Pairwise (· < ·):=by rw[<-hL];exact List.pairwise_lt_range.filter _
 have NI:∀a∈L,a<j/\∃h:a<(cK x.2.2.2.2 d).length,((cK x.2.2.2.2 d)[a].2.1:Int)=df:=λa ha=>by
  rw[<-hL]at ha;obtain⟨h1,h2⟩:=List.mem_filter.1 ha;have hj:=List.mem_range.1 h1
  have hl:a<(cK x.2.2.2.2 d).length:=by omega
  rw[aoA hl]at h2;exact⟨hj,hl,ak h2⟩
 have hlen:=oQ x.2.2.2.2 d;rw[show(L.map λa:Nat=>(a:Int)).length=(L.map λa=>(iZ d x.2.2.2.2).2.1.getD a 0).length by simp]
 refine uh ?_ λy hy=>?_
 .refine List.pairwise_map.2 (hLp.imp_of_mem λ{a b}ha hb LQ=>?_);obtain⟨_,h1,_⟩:=NI a ha;obtain⟨_,h2,_⟩:=NI b hb;have:=List.pairwise_iff_getElem.1 agV a b (by omega) (by omega) LQ;simp only[List.getD_eq_getElem?_getD,aoA (show a<(iZ d x.2.2.2.2).2.1.length by omega),aoA (show b<(iZ d x.2.2.2.2).2.1.length by omega),ao8];omega
 .obtain⟨a,ha,rfl⟩:=apY.1 hy;obtain⟨haj,OJ,hdf⟩:=NI a ha;obtain⟨i',dT⟩:=oa d hp OJ;have aJ:=hk.UP hp dT haj;have yp:=dT.lt;rw[List.getD_eq_getElem?_getD,dT.at_,ao8];refine apY.2 ⟨i',List.mem_filter.2 ⟨List.mem_range.2 aJ,?_⟩,rfl⟩;rw[aoA yp];exact ao (dT.eqs.2.symm.trans hdf)
theorem Ti(l:Lw)(x:kF)(d:Int):fx (lS l d) (gR x d)=((fx l x).1,((fx l x).2.1.map (kH · d),(fx l x).2.2)):=by
 unfold fx lS gR;dsimp only;rw[ao5,apD]
 cases l.2.2[(x.2.1:Int).toNat]? with
 |none=>rfl
 |some y=>rfl
theorem KB(l:Lw)(x:kF)(d:Int)(e:List Ty)(t:Ty):rf e (fx (lS l d) (gR x d)) t=rf e (fx l x) t:=by
 unfold rf;rw[Ti,W2 e (fx l x) (kH · d) λ_=>⟨rfl,rfl⟩]
theorem Tj{l:Lw}{x:kF}(d:Int)(h:∀i,∀hi:i<x.2.2.2.2.length,uC l x i x.2.2.2.2[i]=0)(j:Nat)(hj:j<(cK x.2.2.2.2 d).length):uC (lS l d) (gR x d) j (cK x.2.2.2.2 d)[j]=0:=by
 have hp:=IU h;obtain⟨i,hk⟩:=oa d hp hj;have yp:=hk.lt;obtain⟨h1,h2,h3,h4,h5,h6,h7,h8,h9⟩:=DN.1 (h i yp);have agW:=Tf hp hj hk x.2.2.2.2[i].2.1;obtain⟨p,e,Ui⟩:=hk.rul
 have agX:∀j' i':Nat,∀h':j'<(cK x.2.2.2.2 d).length,j'<j->Kept x.2.2.2.2 d j' (cK x.2.2.2.2 d)[j'] i'->i'<i:=λj' i' _ Tk dT=>hk.UP hp dT Tk
 rw[e];refine DN.2 ⟨h1,λg=>h2 ?_,h3,λg=>?_,λg=>?_,Nat.lt_of_le_of_lt agW h6,h7,λg=>?_,?_⟩
 .obtain⟨j',yk,Tk,e'⟩:=n8.1 g;have aak:j'<(cK x.2.2.2.2 d).length:=yk;obtain⟨i',dT⟩:=oa d hp aak;refine n8.2 ⟨i',dT.lt,agX j' i' aak Tk dT,?_⟩;rw[<-dT.eqs.1];exact e'
 .obtain⟨g1,g2⟩:=g;have g1:p≠-1:=g1;have g2:p<0\/(j:Int)<=p\/∃y,(cK x.2.2.2.2 d)[p.toNat]? =aa y/\(y.2.1:Int)≠x.2.2.2.2[i].2.1:=g2
  rcases Ui with Ui|⟨q,rfl,hqj,i',gh,e1,e2⟩
  .exact g1 Ui
  .rcases g2 with g2|g2|⟨y,gy,g2⟩
   .omega
   .omega
   .rw[aoF]at gy;obtain⟨hq,rfl⟩:=aoI.1 gy;obtain⟨i2,Js⟩:=oa d hp hq;have e3:=Js.at_;rw[e1]at e3;have:i'=i2:=Int.ofNat_inj.1 (by simpa using e3);subst this;exact g2 (Js.eqs.2.trans e2)
 .exact absurd g (by
   rintro(g|g|g|g)
   .exact h5 (.inl g)
   .exact h5 (.inr (.inl g))
   .exact g Kz
   .exact absurd (show(0:Int)=109573 from g) (by decide))
 .rw[KB];exact h8 g
 .simp only[KB];exact h9
theorem IP.mono{D E:Int->Int->Prop}(h:∀a b,D a b->E a b){a b:Int}(r:IP D a b):IP E a b:=by
 induction r with
 |one g=>exact .one (h _ _ g)
 |step _ g ih=>exact .step ih (h _ _ g)
theorem aal{x:kF}(d:Int)(hp:oP x.2.2.2.2)(a b:Int)(h:Dp (gR x d) a b):Dp x a b:=by
 obtain⟨h1,r,hr,h2,h3⟩:=(z7 _ _ _).1 h;have hr:r∈cK x.2.2.2.2 d:=hr;obtain⟨j,hj,rfl⟩:=aoS hr;obtain⟨i,hk⟩:=oa d hp hj;refine(z7 _ _ _).2 ⟨h1,_,aoG hk.lt,hk.eqs.2.symm.trans h2,?_⟩;obtain⟨p,e,_⟩:=hk.rul;rw[e]at h3;exact h3
theorem xS{f:Nat->Option (Int×Int)}{m:Nat}(h:∀k,k<m->f k=ae):cF f m=ae:=bC.2 h
theorem Tl{l:Lw}(h:Valid l)(d:Int)(k:Nat)(hk:k<l.2.2.length):rY (lS l d) k=ae:=by
 have qC:=h.scopes.2.2.2.2.2 k hk;obtain⟨v1,v2,v3,v4,v5,v6,v7,v8⟩:=h.scope k hk;have hp:=IU v7
 have e:(lS l d).2.2[k]? =aa (gR l.2.2[k] d):=by
  show(l.2.2.map (gR · d))[k]? =_
  rw[apD,aoA hk];rfl
 unfold rY at qC⊢;rw[aoA hk]at qC;rw[e];dsimp only at qC⊢;generalize l.2.2[k]=x at*;split at qC
 .cases qC
 rename_i h1;split at qC
 .cases qC
 rename_i h2;clear qC;have n1:(gR x d).1=x.1:=rfl;rw[n1,ai h1,ai,ai,ai (show¬12<(gR x d).2.2.1.length from by show¬12<x.2.2.1.length;omega),ai (show¬12<(gR x d).2.2.2.1.length from by show¬12<x.2.2.2.1.length;omega)]
 .rw[Option.or_eq_none_iff,Option.or_eq_none_iff];refine⟨⟨v6,xS λj hj=>?_⟩,xS λc hc=>?_⟩
  .have hj:j<(cK x.2.2.2.2 d).length:=hj;unfold xm;rw[show(gR x d).2.2.2.2=cK x.2.2.2.2 d from rfl,aoA hj];dsimp only;rw[ai (λg=>g (Tj d v7 j hj))]
  .unfold yr;rw[ai];rw[yM]
   exact λg=>v8 c hc ((yM _ _ _).2 (g.mono (aal d hp)))
 .rintro⟨g1,g2⟩
  refine v3 ⟨g1,?_⟩
  rcases g2 with g2|g2|⟨y,gy,g2⟩
  .exact .inl g2
  .exact .inr (.inl g2)
  .have gy:(l.2.2.map (gR · d))[(x.2.1:Int).toNat]? =aa y:=gy;rw[apD]at gy;obtain⟨z,hz,rfl⟩:=Option.map_eq_some_iff.1 gy;exact .inr (.inr ⟨z,hz,g2⟩)
 .intro g;apply h2
  rcases g with g|g|g
  .exact .inl g
  .exact .inr (.inl ((Ab (f:=λx:xQ=>kH x d) (λ_=>rfl) _).1 g))
  .refine .inr (.inr ?_);have g:eB ((l.2.2.map (gR · d)).take k) x.1:=g;rw[<-List.map_take]at g;exact(Ab (f:=λx:kF=>gR x d) (λ_=>rfl) _).1 g
theorem Valid.on{l:Lw}(h:Valid l)(d:Int):sF (lS l d)=Rp:=by
 obtain⟨a1,a2,a3,a4,a5,a6⟩:=h.scopes;unfold sF
 have e1:cF (λk=>(oN (lS l d) k).map λe=>(k,e)) (lS l d).1.length=ae:=bC.2 λk hk=>WO (show oN (lS l d) k=ae from a4 k hk)
 have e2:cF (λk=>(pW (lS l d) k).map λe=>(k,e)) (lS l d).2.1.length=ae:=bC.2 λk hk=>by
  have hk:k<(l.2.1.map (kH · d)).length:=hk
  have hk:k<l.2.1.length:=by simpa using hk
  exact WO (Td l d k hk (a5 k hk))
 have e3:cF (λk=>(rY (lS l d) k).map λe=>(k,e)) (lS l d).2.2.length=ae:=bC.2 λk hk=>by
  have hk:k<(l.2.2.map (gR · d)).length:=hk
  have hk:k<l.2.2.length:=by simpa using hk
  exact WO (Tl h d k hk)
 rw[ai (show¬8<(lS l d).1.length from by show¬8<l.1.length;omega),e1];dsimp only;rw[ai (show¬8<(lS l d).2.1.length from by show¬8<(l.2.1.map (kH · d)).length;simp;omega),e2];dsimp only;rw[ai (show¬4<(lS l d).2.2.length from by show¬4<(l.2.2.map (gR · d)).length;simp;omega),e3]
theorem xT{rules:List jC}(d:Int)(hp:oP rules){y:jC}(h:y∈cK rules d):∃r∈rules,∃p:Int,y=Ge r p/\-1<=p/\p<(rules.length:Int):=by
 obtain⟨j,hj,rfl⟩:=aoS h;obtain⟨i,hk⟩:=oa d hp hj;obtain⟨p,e,Ui⟩:=hk.rul;refine⟨_,aoG hk.lt,p,e,?_⟩;have h1:=oQ rules d;have h2:=(rk d rules).2.1
 rcases Ui with rfl|⟨q,rfl,hq,_⟩<;>omega
theorem lD.on{x:kF}(h:lD x)(d:Int)(hp:oP x.2.2.2.2):lD (gR x d):=by
 obtain⟨h1,h2,h3,h4,h5,h6,h7⟩:=h;refine⟨h1,h2,h3,?_,h5,h6,λr hr=>?_⟩
 .show(cK x.2.2.2.2 d).length<=60
  have g1:=oQ x.2.2.2.2 d;have g2:=(rk d x.2.2.2.2).2.1;omega
 .obtain⟨r',yZ,p,rfl,_⟩:=xT d hp hr;exact h7 r' yZ
theorem lE.on{l:Lw}(h:lE l)(d:Int)(hp:∀x∈l.2.2,oP x.2.2.2.2):lE (lS l d):=by
 obtain⟨h1,h2,h3,h4,h5,h6⟩:=h;refine⟨h1,?_,?_,h4,λt ht=>?_,λs hs=>?_⟩
 .show(l.2.1.map (kH · d)).length<=9
  rw[ao5];exact h2
 .show(l.2.2.map (gR · d)).length<=5
  rw[ao5];exact h3
 .obtain⟨t',Jw,rfl⟩:=apY.1 ht;exact h5 t' Jw
 .obtain⟨s',vh,rfl⟩:=apY.1 hs;exact(h6 s' vh).on d (hp s' vh)
end L
namespace L
def Gg(rules:List jC)(d:Int)(i:Nat):Bool:=match rules[i]? with
 |some r=>decide (wK r.2.2.2.2.1 d)
 |none=>ag
def jT(rules:List jC)(d:Int)(n:Nat):List Nat:=(ap1 n).filter (Gg rules d)
def kept(rules:List jC)(d:Int)(n:Nat):List Int:=(jT rules d n).map λi:Nat=>(i:Int)
def ix(l:List Int)(n:Int):Int:=gV (λx=>decide (x=n)) l
theorem W3{l:List Int}{n:Int}:0<=ix l n↔n∈l:=by
 unfold ix;rw[qp];constructor
 .rintro⟨x,hx,h⟩
  exact(ak h)▸hx
 .exact λh=>⟨n,h,ao rfl⟩
theorem Qh{rules:List jC}{d:Int}{n i:Nat}:(i:Int)∈kept rules d n↔i<n/\Gg rules d i=af:=by
 unfold kept jT;rw[apY];constructor
 .rintro⟨j,hj,e⟩
  obtain rfl:j=i:=by omega
  rw[List.mem_filter,List.mem_range]at hj;exact hj
 .intro h;exact⟨i,List.mem_filter.2 ⟨List.mem_range.2 h.1,h.2⟩,rfl⟩
theorem pP(rules:List jC)(d:Int)(n:Nat):jT rules d (n+1)=if Gg rules d n=af then jT rules d n++[n]else jT rules d n:=by
 unfold jT;rw[List.range_succ,List.filter_append];by_cases h:Gg rules d n=af
 .rw[aj h,List.filter_cons_of_pos h,List.filter_nil]
 .rw[ai h,List.filter_cons_of_neg h,List.filter_nil,apq]
theorem Ac(rules:List jC)(d:Int)(n:Nat):∀m,∃t,jT rules d (n+m)=jT rules d n++t
 |0=>⟨[],by simp⟩
 |m+1=>by
  obtain⟨t,ht⟩:=Ac rules d n m;rw[<-Nat.add_assoc,pP];split
  .exact⟨t++[n+m],by rw[ht,ape]⟩
  .exact⟨t,ht⟩
theorem Gh{rules:List jC}{d:Int}{n i:Nat}(h:i∈jT rules d n):i<n/\Gg rules d i=af:=by
 unfold jT at h;rw[List.mem_filter,List.mem_range]at h;exact h
theorem Tm{rules:List jC}{d:Int}{n k:Nat}(hk:k<n)(h:Gg rules d k=af):ix (kept rules d n) (k:Int)=((jT rules d k).length:Int):=by
 obtain⟨t,ht⟩:=Ac rules d (k+1) (n-(k+1));rw[show k+1+(n-(k+1))=n by omega,pP,aj h]at ht
 have e:kept rules d n=(jT rules d k).map (λi:Nat=>(i:Int))++((k:Int)::t.map λi:Nat=>(i:Int)):=by
  unfold kept;rw[ht,apj,apj];simp
 have hl:((jT rules d k).map λi:Nat=>(i:Int)).length=(jT rules d k).length:=ao5 _;unfold ix
 refine Dz (k:=(jT rules d k).length) (by rw[e];simp) ?_ λj hj yk=>?_
 .rw[ax];simp only[e];rw[ao1 (by omega)];simp
 .apply aq;simp only[e];rw[aoK (by omega),apB];have:=(Gh (aoG (by omega:j<(jT rules d k).length))).1;omega
def IX(rules:List jC)(L:List Int):Nat->Nat->Int
 |0,_=> -1
 |f+1,i=>match rules[i]? with
  |none=> -1
  |some r=>if 0<=(r.2.2.1:Int)/\(r.2.2.1:Int)<(i:Int)then(if 0<=ix L r.2.2.1 then ix L r.2.2.1 else IX rules L f (r.2.2.1:Int).toNat)else-1
theorem Cr(rules:List jC)(L:List Int):∀f f' i,i<f->i<f'->IX rules L f i=IX rules L f' i
 |0,_,_,h,_=>absurd h (Nat.not_lt_zero _)
 |_+1,0,_,_,h=>absurd h (Nat.not_lt_zero _)
 |f+1,f'+1,i,h,h'=>by
  unfold IX
  cases rules[i]? with
  |none=>rfl
  |some r=>
   dsimp only
   obtain⟨(p:Int),hpe⟩:∃p:Int,p=r.2.2.1:=⟨_,rfl⟩
   simp only[<-hpe];by_cases hp:0<=p/\p<(i:Int)
   .rw[aj hp,aj hp];by_cases h0:0<=ix L p
    .rw[aj h0,aj h0]
    .rw[ai h0,ai h0];exact Cr rules L f f' _ (by omega) (by omega)
   .rw[ai hp,ai hp]
def xu(rules:List jC)(L:List Int)(i:Nat):Int:=IX rules L (i+1) i
theorem KC{rules:List jC}{L:List Int}{i:Nat}(hi:i<rules.length):xu rules L i=if 0<=(rules[i].2.2.1:Int)/\(rules[i].2.2.1:Int)<(i:Int)then(if 0<=ix L rules[i].2.2.1 then ix L rules[i].2.2.1 else xu rules L (rules[i].2.2.1:Int).toNat)else-1:=by
 show IX rules L (i+1) i=_
 unfold IX;rw[aoA hi];dsimp only
 obtain⟨(p:Int),hpe⟩:∃p:Int,p=rules[i].2.2.1:=⟨_,rfl⟩
 simp only[<-hpe];by_cases hp:0<=p/\p<(i:Int)
 .rw[aj hp,aj hp];by_cases h0:0<=ix L p
  .rw[aj h0,aj h0]
  .rw[ai h0,ai h0];exact Cr rules L _ _ _ (by omega) (by omega)
 .rw[ai hp,ai hp]
def nr(rules:List jC)(d:Int)(L:List Int)(i:Nat):Int:=if Gg rules d i=af then ix L i else xu rules L i
theorem Ct(rules:List jC)(d:Int):∀k,k<=rules.length->iZ d (rules.take k)=((ap1 k).map (nr rules d (kept rules d rules.length)),kept rules d k,(jT rules d k).map (xu rules (kept rules d rules.length)))
 |0,_=>rfl
 |k+1,hk=>by
  have dT:k<rules.length:=by omega
  rw[apS,aoA dT]
  show iZ d (rules.take k++[rules[k]])=_
  rw[Cq,Ct rules d k (by omega)];generalize hL:kept rules d rules.length=L
  have Qg:(if 0<=(rules[k].2.2.1:Int)/\(rules[k].2.2.1:Int)<((((ap1 k).map (nr rules d L)).length:Nat):Int)then((ap1 k).map (nr rules d L)).getD (rules[k].2.2.1:Int).toNat (-1)else-1)=xu rules L k:=by
   rw[KC dT]
   have e:((ap1 k).map (nr rules d L)).length=k:=by simp
   rw[e]
   obtain⟨(p:Int),hp⟩:∃p:Int,p=rules[k].2.2.1:=⟨_,rfl⟩
   rw[<-hp];by_cases h:0<=p/\p<(k:Int)
   .rw[aj h,aj h];obtain⟨q,rfl⟩:=aoU h.1
    have hq:q<k:=by omega
    rw[aoF,List.getD_eq_getElem?_getD,aoA (by simpa using hq),ao8,apB,List.getElem_range];unfold nr
    have:0<=ix L (q:Int)↔Gg rules d q=af:=by
     rw[W3,<-hL,Qh];exact⟨λh=>h.2,λh=>⟨by omega,h⟩⟩
    by_cases hq:Gg rules d q=af
    .rw[aj hq,aj (this.2 hq)]
    .rw[ai hq,ai (λg=>hq (this.1 g))]
   .rw[ai h,ai h]
  have Ta:Gg rules d k=decide (wK rules[k].2.2.2.2.1 d):=by
   unfold Gg;rw[aoA dT]
  unfold eC;rw[Qg,List.range_succ,apj,pP];unfold kept;rw[pP];by_cases h:wK rules[k].2.2.2.2.1 d
  .have h':Gg rules d k=af:=by rw[Ta];exact ao h
   rw[aj h,aj h',apj,apj]
   have e1:((ap1 k).map (nr rules d L)).length=k:=by simp
   have e2:nr rules d L k=(((jT rules d k).map λi:Nat=>(i:Int)).length:Int):=by
    unfold nr;rw[aj h',<-hL,Tm dT h',ao5]
   simp only[e1,aqi,List.map_nil,e2]
  .have h':¬Gg rules d k=af:=by rw[Ta,ax];exact h
   rw[ai h,ai h']
   have e2:nr rules d L k=xu rules L k:=by
    unfold nr;rw[ai h']
   simp only[aqi,List.map_nil,e2]
theorem Tn(rules:List jC)(d:Int):(iZ d rules).2=(kept rules d rules.length,(jT rules d rules.length).map (xu rules (kept rules d rules.length))):=by
 have:=Ct rules d rules.length (aoJ _);rw[ao3]at this;rw[this]
theorem Gi(rules:List jC)(d:Int):cK rules d=(jT rules d rules.length).map λi:Nat=>wj rules ((i:Int),xu rules (kept rules d rules.length) i):=by
 unfold cK;rw[Tn];unfold kept;dsimp only;generalize xu rules ((jT rules d rules.length).map λi:Nat=>(i:Int))=f
 induction jT rules d rules.length with
 |nil=>rfl
 |cons x l ih=>rw[aqi,aqi,List.zip_cons_cons,aqi,aqi,ih]
theorem Gj(r:Ty)(d:Int):M.eZ aG r d=aa (decide (wK r d)):=by
 obtain⟨(r1:Int),(r2:Int)⟩:=r;apply Wp.eq;unfold M.eZ;simp only[Kh,W_,au,av,reduceCtorEq];unfold wK;dsimp only[aB,Row.den]
 by_cases h:VR ((r1,r2):Ty)<;>simp only[h,W_,au,av,reduceCtorEq]
 omega
theorem IY(l:List Int)(n:Int)(hl:l.length<=100000):M.qj aG l n=aa (ix l n):=by
 unfold M.qj ix;refine DA (by unfold maxLen;omega) (λk h=>?_) ?_
 .rw[dW h,aj rfl,aD h,aoy]
 .simp only[dB,decide_false,aoC,if_false]
theorem Gk(x:kF)(L:List Int)(hL:L.length<=100000)(i:Nat)(hi:i<x.2.2.2.2.length)(gh:i<=100000):M.nv aG x L (i:Int)=aa (xu x.2.2.2.2 L i):=by
 obtain⟨rules,hr⟩:∃r:List jC,r=x.2.2.2.2:=⟨_,rfl⟩
 apply Wp.eq;unfold M.nv;rw[<-hr]at hi⊢;rw[aD hi,aoy];refine Wp.loop (λs=>∃j:Nat,∃hj:j<rules.length,s=((j:Int),rules[j].2.2.1)/\xu rules L i=xu rules L j/\j<=i) (λs=>s.1.toNat) ⟨i,hi,rfl,rfl,aoJ _⟩ (by unfold aG;dsimp only;omega) ?_
 rintro s ⟨j,hj,rfl,hp,hji⟩
 dsimp only
 obtain⟨(p:Int),hpe⟩:∃p:Int,p=rules[j].2.2.1:=⟨_,rfl⟩
 rw[hp,KC hj,<-hpe]
 refine Wp.seq (λb=>b=decide (0<=p/\p<(j:Int))) ?_ λb hb=>?_
 .refine Wp.dec (λh=> .some ?_) λh=> .some ?_
  .simp only[h,true_and]
  .rw[aq (λg=>h g.1)]
 .subst hb
  refine Wp.dec (λh=>?_) λh=> .some ?_
  .rw[aj h,IY _ _ hL,aoy]
   refine Wp.dec (λg=> .some ?_) λg=>?_
   .show ix L p=_
    rw[aj g]
   .obtain⟨q,rfl⟩:=aoU h.1
    have hq:q<j:=by omega
    have hql:q<rules.length:=by omega
    rw[aD hql,aoy];refine .some ⟨⟨q,hql,rfl,?_,by omega⟩,by dsimp only;omega⟩;rw[ai g,aoF]
  .show(-1:Int)=_
   rw[ai h]
theorem Gl:M.rc aG=aa vq:=rfl
theorem Gm(rules:List jC)(d:Int)(n:Nat):(kept rules d n).length<=n:=by
 unfold kept jT;rw[ao5];exact Nat.le_trans (List.length_filter_le _ _) (by simp)
theorem Qi{rules:List jC}{d:Int}(hl:rules.length<=100000):Loop (S:=Int×List Int) (X:=List Int) (λs2=>
(if(decide (s2.1<(rules.length:Int)))=af then
((idx rules s2.1).bind λx4=>
(M.eZ aG x4.2.2.2.2.1 d).bind λy5=>
(if y5=af then
(bR s2.2 ([s2.1]:List Int)).bind λl6=>
some l6
else
some s2.2):Option (List Int)).bind λj3=>
some (ao4 (aoz.wrap (s2.1+(1:Int)),j3))
else
some (aoV s2.2))) aG ((0:Int),([]:List Int))=aa (kept rules d rules.length):=by
 apply Wp.eq
 refine Wp.count (λs=>s.1) rules.length (λk s=>s.2=kept rules d k) (by omega) rfl rfl λk s hk hs hJ=>?_
 obtain⟨c,o⟩:=s;dsimp only at hs hJ;subst hs hJ
 refine Wp.dec (λaJ=>?_) λhge=>?_
 .have aJ:k<rules.length:=by dsimp only at aJ;omega
  have Ei:=Gm rules d k
  have Ta:Gg rules d k=decide (wK rules[k].2.2.2.2.1 d):=by
   unfold Gg;rw[aoA aJ]
  dsimp only;rw[aD aJ,aoy,Gj,aoy,<-Ta]
  have e:((if Gg rules d k=af then(bR (kept rules d k) ([(k:Int)]:List Int)).bind λl6=>aa l6 else aa (kept rules d k)):Option (List Int))=aa (kept rules d (k+1)):=by
   unfold kept;rw[pP];by_cases h:Gg rules d k=af
   .rw[aj h,aj h,bF (by simp;unfold kept at Ei;simp at Ei;omega),aoy,apj];rfl
   .rw[ai h,ai h]
  rw[e,aoy];exact .some ⟨aJ,bX (m:=rules.length) (by omega) aJ,rfl⟩
 .obtain rfl:k=rules.length:=by dsimp only at hge;omega
  exact .some rfl
theorem IZ(x:kF)(d:Int)(hs:lD x):M.lP aG x d=aa (x.1,x.2.1,x.2.2.1,x.2.2.2.1,cK x.2.2.2.2 d):=by
 have WN:=hs.2.2.2.1;have Ei:=Gm x.2.2.2.2 d x.2.2.2.2.length;unfold M.lP;rw[Qi (by omega),aoy]
 have:=tq (l:=kept x.2.2.2.2 d x.2.2.2.2.length) (F:=λi:Int=>wj x.2.2.2.2 (i,xu x.2.2.2.2 (kept x.2.2.2.2 d x.2.2.2.2.length) i.toNat))
  (mk:=λc o=>((c,x.1,x.2.1,x.2.2.1,x.2.2.2.1,o):Int×ByteArray×Int×(List bi.den)×(List bi.den)×List bn.den)) (out:=λo=>((x.1,x.2.1,x.2.2.1,x.2.2.2.1,o):ByteArray×Int×(List bi.den)×(List bi.den)×List bn.den))
  (body:=λs8=>
(if(decide (s8.1<((kept x.2.2.2.2 d x.2.2.2.2.length).length:Int)))=af then
(idx (kept x.2.2.2.2 d x.2.2.2.2.length) s8.1).bind λx9=>
(idx x.2.2.2.2 x9).bind λmj=>
(idx (kept x.2.2.2.2 d x.2.2.2.2.length) s8.1).bind λnT=>
(M.nv aG x (kept x.2.2.2.2 d x.2.2.2.2.length) nT).bind λpJ=>
(M.rc aG).bind λpT=>
(bR s8.2.2.2.2.2 ([(mj.1,(mj.2.1,(pJ,(mj.2.2.2.1,(pT,mj.2.2.2.2.2)))))]:List bn.den)).bind λZO=>
some (ao4 (aoz.wrap (s8.1+(1:Int)),s8.2.1,s8.2.2.1,s8.2.2.2.1,s8.2.2.2.2.1,ZO))
else
some (aoV (s8.2.1,s8.2.2.1,s8.2.2.2.1,s8.2.2.2.2.1,s8.2.2.2.2.2)))) (by omega)
  (λk hk o ho=>by
    have IT:=aoG hk
    obtain⟨i,hi,hie⟩:∃i:Nat,i<x.2.2.2.2.length/\(kept x.2.2.2.2 d x.2.2.2.2.length)[k]=(i:Int):=by
     unfold kept at hk⊢
     have dT:k<(jT x.2.2.2.2 d x.2.2.2.2.length).length:=by rw[ao5]at hk;exact hk
     exact⟨_,(Gh (aoG dT)).1,apB ..⟩
    dsimp only;rw[dW hk,aj rfl,aD hk,aoy,hie,aD hi,aoy,aoy,Gk x _ (by omega) i hi (by omega),aoy,Gl,aoy,bF (by simp;omega),aoy];unfold wj Ge
    simp only[aoF,aoA hi,ao8])
  (λo=>by simp only[dB,decide_false,aoC,if_false])
 rw[this,aoy];dsimp only;rw[Gi];unfold kept;rw[List.map_map];rfl
theorem I0(t:xQ)(d:Int)(hl:t.2.2.2.length<=1048576):M.lO aG t d=aa (t.1,t.2.1,t.2.2.1,gf t.2.2.2 d):=by
 obtain⟨B,hB⟩:∃B:Nat,B=1048576:=⟨_,rfl⟩
 rw[<-hB]at hl;apply Wp.eq;unfold M.lO
 refine Wp.seq (λr=>r=(t.1,t.2.1,t.2.2.1,gf t.2.2.2 d)) ?_ λr hr=> .some (by rw[hr])
 refine Wp.count (λs=>s.1) t.2.2.2.length (λk s=>s.2=(t.1,t.2.1,t.2.2.1,gf (t.2.2.2.take k) d)) (by omega) rfl rfl λk s hk hs hJ=>?_
 obtain⟨c,o⟩:=s;dsimp only at hs hJ;subst hs hJ
 refine Wp.dec (λaJ=>?_) λhge=>?_
 .have aJ:k<t.2.2.2.length:=by dsimp only at aJ;omega
  have hle:(gf (t.2.2.2.take k) d).length<=k:=by
   unfold gf;rw[ao5];exact Nat.le_trans (List.length_filter_le _ _) (by simp;omega)
  have lm:gf (t.2.2.2.take (k+1)) d=if wK t.2.2.2[k].1 d then gf (t.2.2.2.take k) d++[(vq,t.2.2.2[k].2)]else gf (t.2.2.2.take k) d:=by
   unfold gf;rw[apS,aoA aJ,List.filter_append,apj];by_cases h:wK t.2.2.2[k].1 d
   .simp[h]
   .simp[h]
  dsimp only;rw[aD aJ,aoy,Gj,aoy]
  refine Wp.seq (λr=>r=(t.1,t.2.1,t.2.2.1,gf (t.2.2.2.take (k+1)) d)) ?_ λr hr=>?_
  .refine Wp.dec (λh=>?_) λh=> .some ?_
   .rw[aoy,Gl,aoy,bF (by simp;omega),aoy];refine .some ?_;rw[lm,aj h]
   .rw[lm,ai h]
  .subst hr;exact .some ⟨aJ,bX (m:=t.2.2.2.length) (by omega) aJ,rfl⟩
 .obtain rfl:k=t.2.2.2.length:=by dsimp only at hge;omega
  rw[ao3];exact .some rfl
theorem I1(l:Lw)(d:Int)(hm:PW l)(oC:lE l):M.qk aG l d=aa (l.1,l.2.1.map (kH · d),l.2.2.map (gR · d)):=by
 have h2:=hm.tb';have h3:=hm.sc';unfold M.qk
 have e1:=tq (l:=l.2.1) (F:=(kH · d)) (mk:=λc o=>((c,l.1,o):Int×(List bA.den)×List aP.den)) (out:=λo=>((l.1,o):(List bA.den)×List aP.den))
  (body:=λs2=>
(if(decide (s2.1<(l.2.1.length:Int)))=af then
(idx l.2.1 s2.1).bind λx3=>
(M.lO aG x3 d).bind λy4=>
(bR s2.2.2 ([(y4.1,(y4.2.1,(y4.2.2.1,y4.2.2.2)))]:List aP.den)).bind λl5=>
some (ao4 (aoz.wrap (s2.1+(1:Int)),s2.2.1,l5))
else
some (aoV (s2.2.1,s2.2.2)))) (by omega)
  (λk hk o ho=>by
    dsimp only;rw[dW hk,aj rfl,aD hk,aoy,I0 _ _ (hm.tb _ (aoG hk)),aoy,bF (by simp;omega),aoy]
    rfl)
  (λo=>by simp only[dB,decide_false,aoC,if_false])
 have e2:=tq (l:=l.2.2) (F:=(gR · d)) (mk:=λc o=>((c,l.1,l.2.1.map (kH · d),o):Int×(List bA.den)×(List aP.den)×List aU.den)) (out:=λo=>((l.1,l.2.1.map (kH · d),o):(List bA.den)×(List aP.den)×List aU.den))
  (body:=λs7=>
(if(decide (s7.1<(l.2.2.length:Int)))=af then
(idx l.2.2 s7.1).bind λx8=>
(M.lP aG x8 d).bind λy9=>
(bR s7.2.2.2 ([(y9.1,(y9.2.1,(y9.2.2.1,(y9.2.2.2.1,y9.2.2.2.2))))]:List aU.den)).bind λsE=>
some (ao4 (aoz.wrap (s7.1+(1:Int)),s7.2.1,s7.2.2.1,sE))
else
some (aoV (s7.2.1,s7.2.2.1,s7.2.2.2)))) (by omega)
  (λk hk o ho=>by
    dsimp only;rw[dW hk,aj rfl,aD hk,aoy,IZ _ _ (oC.2.2.2.2.2 _ (aoG hk)),aoy,bF (by simp;omega),aoy]
    rfl)
  (λo=>by simp only[dB,decide_false,aoC,if_false])
 rw[e1,aoy,e2,aoy]
end L
namespace L.P
abbrev Vl:Type:=aC.den
abbrev Ty:Type:=aA.den
theorem aK{α:Type}{c:Prop}[Decidable c]{a b:α}:(if c then aa a else aa b)=aa (if c then a else b):=by split<;>rfl
theorem jD(a b:Bool):(if a=af then af else b)=(a||b):=by cases a<;>rfl
theorem iy(a b:Bool):(if a=af then b else ag)=(a&&b):=by cases a<;>rfl
def bz(k e n:Int):Prop:=
 (k=1/\e=0/\0<=n/\n<=1)\/(k=2/\e=0/\-1000000000000<=n/\n<=1000000000000)\/(k=3/\e=0/\-1000000000000000<=n/\n<=1000000000000000)\/
 (k=4/\e=0/\-1000000000<=n/\n<=1000000000)\/(k=5/\e=0/\0<=n/\n<=109572)\/(k=6/\0<=e/\e<=7/\0<=n/\n<=15)
instance(k e n:Int):Decidable (bz k e n):=by unfold bz;infer_instance
theorem da(N:Nat)(v:Vl):M.ed N v=aa (decide (bz v.1 v.2.1 v.2.2)):=by
 revert v;rintro⟨(k:Int),(e:Int),(n:Int)⟩
 unfold M.ed;simp only[aK,aoy,jD,iy];refine aw aa ?_;by_cases h1:k=1
 .subst h1;rw[aoO];simp[bz];try(dsimp only[aB,Row.den]at*;omega)
 by_cases h2:k=2
 .subst h2;rw[aoO];simp[bz];try(dsimp only[aB,Row.den]at*;omega)
 by_cases h3:k=3
 .subst h3;rw[aoO];simp[bz];try(dsimp only[aB,Row.den]at*;omega)
 by_cases h4:k=4
 .subst h4;rw[aoO];simp[bz];try(dsimp only[aB,Row.den]at*;omega)
 by_cases h5:k=5
 .subst h5;rw[aoO];simp[bz];try(dsimp only[aB,Row.den]at*;omega)
 by_cases h6:k=6
 .subst h6;rw[aoO];simp[bz];try(dsimp only[aB,Row.den]at*;omega)
 simp[bz,h1,h2,h3,h4,h5,h6]
def xU(k e n a b:Int):Prop:=bz k e n/\k=a/\e=b
instance(k e n a b:Int):Decidable (xU k e n a b):=by unfold xU;infer_instance
abbrev Qj(v:Vl)(t:Ty):Prop:=xU v.1 v.2.1 v.2.2 t.1 t.2
theorem vt(N:Nat)(v:Vl)(t:Ty):M.mX N v t=aa (decide (Qj v t)):=by
 unfold M.mX;rw[da];simp only[aK,aoy,iy];refine aw aa ?_;rw[aoO];simp[xU]
def yt(op k e:Int):Prop:=e=0/\(if op=36 then k=2\/k=3 else if op=39 then 2<=k/\k<=5 else k=1)
instance(op k e:Int):Decidable (yt op k e):=by unfold yt;infer_instance
abbrev To(op:Int)(t:Ty):Prop:=yt op t.1 t.2
theorem gn(N:Nat)(k:Int):M.iD N k=aa (decide (2<=k/\k<=4)):=by
 unfold M.iD;simp only[aK,aoy,jD];refine aw aa ?_;rw[aoO];simp;omega
theorem rl(N:Nat)(op:Int)(t:Ty):M.gE N op t=aa (decide (To op t)):=by
 unfold M.gE;rw[gn];simp only[aK,aoy,jD,iy];refine aw aa ?_;obtain⟨(k:Int),(e:Int)⟩:=t;rw[aoO]
 show _↔decide (yt op k e)=af
 unfold yt
 by_cases h0:e=0<;>by_cases h1:op=36<;>by_cases h2:op=39<;>simp[h0,h1,h2]<;>try(dsimp only[aB,Row.den]at*;omega)
def fold(op acc n:Int)(first:Bool):Int:=
 if op=36 then acc+n else if op=37 then acc*n else if op=38 then(if acc<n then n else acc)else(if first=af\/acc<n then n else acc)
def nA(op:Int)(t:Ty)(j:Nat):List (List Vl)->Bool->Int->Int⊕Int
 |[],_,acc=> .inl acc
 |l::ms,first,acc=>match l[j]? with
  |none=> .inr 6
  |some v=>if(v.1:Int)=0 then .inr 6 else if Qj v t then
    (if bz t.1 0 (fold op acc v.2.2 first)then nA op t j ms ag (fold op acc v.2.2 first)else .inr 3)else .inr 8
def tA(op:Int):Int:=if op=37 then 1 else 0
def Qk(op:Int)(t:Ty)(j:Nat)(ms:List (List Vl)):Vl×Int:=
 if op=39/\ms=[]then((0,0,0),6)else match nA op t j ms af (tA op)with
  | .inl a=>((t.1,0,a),0)
  | .inr c=>((0,0,0),c)
def KD(op:Int)(t:Ty)(first:Bool)(acc:Int):Prop:=(op=39/\first=af/\acc=0)\/bz t.1 0 acc
theorem KE{op:Int}{t:Ty}(gx:op=36\/op=37\/op=38\/op=39)(ht:To op t):KD op t af (tA op):=by
 obtain⟨(k:Int),(e:Int)⟩:=t
 obtain⟨h0,h1⟩:=(show yt op k e from ht)
 show(op=39/\af=af/\tA op=0)\/bz k 0 (tA op)
 unfold bz tA
 rcases gx with rfl|rfl|rfl|rfl<;>simp at h1⊢<;>omega
theorem tB{N:Nat}(hN:100001<=N){op:Int}(gx:op=36\/op=37\/op=38\/op=39){j:Nat}{env:cz.den}(hj:j<env.2.2.2.2.1.length)(hm:env.2.2.2.1.length<=100)(ht:To op env.2.2.2.2.1[j]):
 M.gq N (op,(j:Int)) env=aa (Qk op env.2.2.2.2.1[j] j env.2.2.2.1):=by
 obtain⟨d,ip,df,ms,ts,tb⟩:=env;simp only at hj hm ht⊢;apply Wp.eq;unfold M.gq;simp only;rw[aD hj];simp only[aoy];generalize ts[j]=t at ht⊢;have JH:(t.2:Int)=0:=(show yt op t.1 t.2 from ht).1
 have e1:(if decide (op=37)=af then aa (t.1,t.2,(1:Int))else aa (t.1,t.2,(0:Int)):Option Vl)=aa (t.1,t.2,tA op):=by
  unfold tA;by_cases h:op=37<;>simp[h]
 rw[e1];simp only[aoy,aK,iy];unfold Qk
 refine Wp.ite (λh=>?_) λh=>?_
 .have:op=39/\ms=[]:=by simpa using h
  rw[aj this];exact .some rfl
 .have Rr:¬(op=39/\ms=[]):=by simpa using h
  rw[ai Rr]
  refine Wp.join (Wp.loop (λs:Int×Vl=>∃k:Nat,∃acc:Int,s=((k:Int),(t.1,t.2,acc))/\k<=ms.length/\KD op t (decide (k=0)) acc/\nA op t j (ms.drop k) (decide (k=0)) acc=nA op t j ms af (tA op)) (λs=>(ms.length-s.1).toNat)
   ⟨0,tA op,rfl,aoR _,KE gx ht,rfl⟩ (by simp only;omega) ?_)
  rintro _ ⟨k,acc,rfl,hk,MU,hf⟩
  simp only
  refine Wp.dec (λh=>?_) λh=> .some (.some ?_)
  case refine_2=>
   have hd:ms.drop k=[]:=List.drop_of_length_le (by omega);rw[hd]at hf;rw[<-hf];simp only[nA];rw[JH]
  have dT:k<ms.length:=by omega
  have hd:ms.drop k=ms[k]::ms.drop (k+1):=ao2 dT;rw[hd]at hf;rw[aD dT];simp only[aoy];rw[nA]at hf;by_cases hl:j<ms[k].length
  .rw[aoA hl]at hf;simp only at hf;rw[aD hl];simp only[aoy,aK,jD,vt,da];generalize ms[k][j]=v at hf⊢;by_cases hv:(v.1:Int)=0
   .rw[aj hv]at hf;rw[aj (by simp[hv])];refine .some ?_
    show _=_
    rw[<-hf]
   .rw[ai hv]at hf;rw[ai (by simp[hv];omega)];by_cases hh:Qj v t
    .rw[aj hh]at hf;rw[ai (by simp[hh])]
     obtain⟨hp,Md,Js⟩:=(show xU _ _ _ _ _ from hh)
     refine Wp.join ?_
     have key:∀a,fold op acc v.2.2 (decide (k=0))=a->bz t.1 0 a->FL (λs:Int×Vl=>∃k:Nat,∃acc:Int,s=((k:Int),(t.1,t.2,acc))/\k<=ms.length/\KD op t (decide (k=0)) acc/\nA op t j (ms.drop k) (decide (k=0)) acc=nA op t j ms af (tA op)) (λs=>(ms.length-s.1).toNat) ((k:Int),(t.1,t.2,acc)) (xP (λj4=>aa (j4,(0:Int))) λx=>x=match nA op t j ms af (tA op)with
      | .inl a=>((t.1,0,a),0)
      | .inr c=>((0,0,0),c)) (.inl (aoz.wrap ((k:Int)+1),(t.1,t.2,a))):=by
      intro a ha hpa;subst ha;rw[aj hpa]at hf;rw[aL (by omega)];refine⟨⟨k+1,_,rfl,dT, .inr hpa,?_⟩,by simp only;omega⟩;rw[show decide (k+1=0)=ag by simp];exact hf
     rcases gx with rfl|rfl|rfl|rfl
     all_goals simp only[decide_true,decide_false,if_true,if_false,apG,aoC,aoX,apd]
     .have aan:bz t.1 0 acc:=by
       rcases MU with h|h
       .exact absurd h.1 (by decide)
       .exact h
      have Rs:fold 36 acc v.2.2 (decide (k=0))=acc+v.2.2:=by simp[fold]
      have hw:aoz.wrap (acc+v.2.2)=acc+v.2.2:=by
       revert aan hp;generalize(v.2.2:Int)=n;generalize(v.1:Int)=vk;generalize(v.2.1:Int)=ve;generalize(t.1:Int)=tk;intro h1 h2;unfold bz at h1 h2;dsimp only[aB,Row.den]at*;exact aE (by omega) (by omega)
      rw[hw];rw[Rs]at hf;by_cases pU:bz t.1 0 (acc+v.2.2)
      .rw[ai (by rw[JH];simp[pU])];exact .some (.some (key _ Rs pU))
      .rw[aj (by rw[JH];simp[pU])];rw[ai pU]at hf;refine .some ?_
       show _=_
       rw[<-hf]
     .have hb:(0<=(v.2.2:Int)/\(v.2.2:Int)<=1)/\0<=acc/\acc<=1/\(t.1:Int)=1:=by
       have h1:=(show yt 37 t.1 t.2 from ht).2
       have h2:bz t.1 0 acc:=by
        rcases MU with h|h
        .exact absurd h.1 (by decide)
        .exact h
       rw[Md]at hp;revert h1 h2 hp;generalize(v.2.2:Int)=n;generalize(v.2.1:Int)=ve;generalize(t.1:Int)=tk;intro h3 h1 h2;unfold bz at h2 h3;simp at h1;dsimp only[aB,Row.den]at*;omega
      obtain⟨⟨b1,b2⟩,b3,b4,b5⟩:=hb
      have Rs:fold 37 acc v.2.2 (decide (k=0))=(if v.2.2<acc then v.2.2 else acc:Int):=by
       have b2':(v.2.2:Int)=0\/(v.2.2:Int)=1:=by revert b1 b2;generalize(v.2.2:Int)=n;intro b1 b2;dsimp only[aB,Row.den]at*;omega
       have b4':acc=0\/acc=1:=by omega
       rcases b2' with e1|e1<;>rcases b4' with e2|e2<;>simp[fold,e1,e2]
      refine .some (.some (key _ Rs ?_));refine .inl ⟨b5,rfl,?_⟩;revert b1 b2;generalize(v.2.2:Int)=n;intro b1 b2;dsimp only[aB,Row.den]at*
      split<;>omega
     .have Rs:fold 38 acc v.2.2 (decide (k=0))=(if acc<v.2.2 then v.2.2 else acc:Int):=by simp[fold]
      have h2:bz t.1 0 acc:=by
       rcases MU with h|h
       .exact absurd h.1 (by decide)
       .exact h
      refine .some (.some (key _ Rs ?_));rw[Md,Js,JH]at hp;split
      .exact hp
      .exact h2
     .have h3:bz t.1 0 v.2.2:=by rw[Md,Js,JH]at hp;exact hp
      by_cases hc:((k:Int)=0)\/acc<v.2.2
      .have Rs:fold 39 acc v.2.2 (decide (k=0))=v.2.2:=by
        have:k=0\/acc<v.2.2:=hc.imp (λh=>by omega) id;simp[fold,this]
       rw[aj (by simpa using hc)]
       have hv3:v=(t.1,t.2,v.2.2):=by rw[<-Md,<-Js]
       rw[hv3];exact .some (.some (key _ Rs h3))
      .have Rs:fold 39 acc v.2.2 (decide (k=0))=acc:=by
        have:¬(k=0\/acc<v.2.2):=λh=>hc (h.imp (λh=>by omega) id)
        simp[fold,this]
       rw[ai (by simpa using hc)];refine .some (.some (key _ Rs ?_))
       rcases MU with h|h
       .exact absurd h.2.1 (by simp;omega)
       .exact h
    .rw[ai hh]at hf;rw[aj (by simp[hh])];refine .some ?_
     show _=_
     rw[<-hf]
  .rw[List.getElem?_eq_none (by omega)]at hf;rw[aj (by simp;omega)];refine .some ?_
   show _=_
   rw[<-hf]
end L.P
namespace L.P
theorem kI{n:Int}(h0:0<=n)(h1:n<18446744073709551616):aoD.wrap n=n:=by
 simp[IntKind.wrap,IntKind.bits,IntKind.signed];omega
theorem jU(n:Int):aoD.wrap n=n%18446744073709551616:=by
 simp[IntKind.wrap,IntKind.bits,IntKind.signed]
theorem oA(n:Int):0<=aoD.wrap n/\aoD.wrap n<18446744073709551616:=by rw[jU];omega
theorem KF(a:Int):iA .u64 a 32=a/4294967296:=by
 unfold iA;rw[show min (32:Int).toNat aoD.bits=32 from rfl];exact Int.fdiv_eq_ediv_of_nonneg _ (by decide)
theorem aao(a:Int):iA .u64 a 16=a/65536:=by
 unfold iA;rw[show min (16:Int).toNat aoD.bits=16 from rfl];exact Int.fdiv_eq_ediv_of_nonneg _ (by decide)
theorem ag0(a:Int):iA .u64 a 8=a/256:=by
 unfold iA;rw[show min (8:Int).toNat aoD.bits=8 from rfl];exact Int.fdiv_eq_ediv_of_nonneg _ (by decide)
def DP:ByteArray:=(⟨#[0,1,2,2,3,3,3,3,4,4,4,4,4,4,4,4,5,5,5,5,5,5,5,5,5,5,5,5,5,5,5,5,6,6,6,6,6,6,6,6,6,6,6,6,6,6,6,6,6,6,6,6,6,6,6,6,6,6,6,6,6,6,6,6,7,7,7,7,7,7,7,7,7,7,7,7,7,7,7,7,7,7,7,7,7,7,7,7,7,7,7,7,7,7,7,7,7,7,7,7,7,7,7,7,7,7,7,7,7,7,7,7,7,7,7,7,7,7,7,7,7,7,7,7,7,7,7,7,8,8,8,8,8,8,8,8,8,8,8,8,8,8,8,8,8,8,8,8,8,8,8,8,8,8,8,8,8,8,8,8,8,8,8,8,8,8,8,8,8,8,8,8,8,8,8,8,8,8,8,8,8,8,8,8,8,8,8,8,8,8,8,8,8,8,8,8,8,8,8,8,8,8,8,8,8,8,8,8,8,8,8,8,8,8,8,8,8,8,8,8,8,8,8,8,8,8,8,8,8,8,8,8,8,8,8,8,8,8,8,8,8,8,8,8,8,8,8,8,8,8,8,8,8,8,8,8]⟩:ByteArray)
def UQ(n:Nat):Bool:=match lj DP n with
 |some k=>decide (0<=k)&&decide (k<=8)&&decide (n<2 ^ k.toNat)&&(aoL n 0||(decide (1<=k)&&decide (2 ^ (k.toNat-1)<=n)))
 |none=>ag
theorem Tp:(ap1 256).all UQ=af:=by kernel_rfl
theorem Dr{n:Nat}(h:n<256):∃k:Nat,lj DP n=aa (k:Int)/\k<=8/\n<2 ^ k/\(n≠0->1<=k/\2 ^ (k-1)<=n):=by
 have:=aqf.1 Tp n (List.mem_range.2 h);unfold UQ at this;split at this
 case h_2=>cases this
 rename_i k hk;simp only[apQ,Bool.or_eq_true,ax,Nat.beq_eq]at this;obtain⟨⟨⟨h1,h2⟩,h3⟩,h4⟩:=this;refine⟨k.toNat,by rw[hk,apI h1],by omega,h3,λhn=>?_⟩
 rcases h4 with h4|h4
 .exact absurd h4 hn
 .exact⟨by omega,h4.2⟩
theorem W6{m b k:Nat}(h:m/2 ^ b<2 ^ k):m<2 ^ (b+k):=by
 rw[apo (Nat.two_pow_pos b)]at h;rw[aqs,apt];exact h
theorem W9{m b k:Nat}(hk:1<=k)(h:2 ^ (k-1)<=m/2 ^ b):2 ^ (b+k-1)<=m:=by
 rw[Nat.le_div_iff_mul_le (Nat.two_pow_pos b)]at h;rw[show b+k-1=k-1+b by omega,aqs];exact h
theorem Gn{N m:Nat}(hm:m<18446744073709551616):∃L:Nat,M.ma N m=aa (L:Int)/\L<=64/\m<2 ^ L/\(m≠0->1<=L/\2 ^ (L-1)<=m):=by
 have fin:∀(b q:Nat)(w:Int),q=m/2 ^ b->w=b->b<=56->q<256->(m≠0->q≠0)->∃L:Nat,((lj DP (IntKind.u8.wrap (q:Int))).bind λx4=>aa (aoz.wrap (w+aoz.wrap x4)))=aa (L:Int)/\L<=64/\m<2 ^ L/\(m≠0->1<=L/\2 ^ (L-1)<=m):=by
  intro b q w hq hw hb h1 h2;subst hq;subst hw;obtain⟨k,g1,g2,g3,g4⟩:=Dr h1
  have hu:IntKind.u8.wrap ((m/2 ^ b:Nat):Int)=((m/2 ^ b:Nat):Int):=by
   simp only[IntKind.wrap,IntKind.bits,IntKind.signed];generalize m/2 ^ b=q at h1⊢;simp;omega
  refine⟨b+k,?_,by omega,W6 g3,λdS=>?_⟩
  .rw[hu,g1,aoy,FM (by omega),<-Int.natCast_add,FM (by omega)]
  .obtain⟨g5,g6⟩:=g4 (h2 dS);exact⟨by omega,W9 g5 g6⟩
 have e32:((m:Int)/4294967296)=((m/2 ^ 32:Nat):Int):=by rw[show(2 ^ 32:Nat)=4294967296 from rfl];omega
 have d48:m/2 ^ 32/2 ^ 16=m/2 ^ 48:=by rw[aqy,<-aqs]
 have d40:m/2 ^ 32/2 ^ 8=m/2 ^ 40:=by rw[aqy,<-aqs]
 have d56:m/2 ^ 48/2 ^ 8=m/2 ^ 56:=by rw[aqy,<-aqs]
 have d24:m/2 ^ 16/2 ^ 8=m/2 ^ 24:=by rw[aqy,<-aqs]
 have c16:∀q:Nat,((q:Int)/65536)=((q/2 ^ 16:Nat):Int):=λq=>by rw[show(2 ^ 16:Nat)=65536 from rfl];omega
 have c8:∀q:Nat,((q:Int)/256)=((q/2 ^ 8:Nat):Int):=λq=>by rw[show(2 ^ 8:Nat)=256 from rfl];omega
 unfold M.ma;rw[show(⟨#[0,1,2,2,3,3,3,3,4,4,4,4,4,4,4,4,5,5,5,5,5,5,5,5,5,5,5,5,5,5,5,5,6,6,6,6,6,6,6,6,6,6,6,6,6,6,6,6,6,6,6,6,6,6,6,6,6,6,6,6,6,6,6,6,7,7,7,7,7,7,7,7,7,7,7,7,7,7,7,7,7,7,7,7,7,7,7,7,7,7,7,7,7,7,7,7,7,7,7,7,7,7,7,7,7,7,7,7,7,7,7,7,7,7,7,7,7,7,7,7,7,7,7,7,7,7,7,7,8,8,8,8,8,8,8,8,8,8,8,8,8,8,8,8,8,8,8,8,8,8,8,8,8,8,8,8,8,8,8,8,8,8,8,8,8,8,8,8,8,8,8,8,8,8,8,8,8,8,8,8,8,8,8,8,8,8,8,8,8,8,8,8,8,8,8,8,8,8,8,8,8,8,8,8,8,8,8,8,8,8,8,8,8,8,8,8,8,8,8,8,8,8,8,8,8,8,8,8,8,8,8,8,8,8,8,8,8,8,8,8,8,8,8,8,8,8,8,8,8,8,8,8,8,8,8,8]⟩:ByteArray)=DP from rfl];simp only[KF,aao,ag0,e32,c16,c8];by_cases h1:4294967296<=m
 .have a1:decide ((4294967296:Int)<=(m:Int))=af:=by simp;omega
  simp only[a1,if_true,aoy,c16,d48];by_cases h2:65536<=m/2 ^ 32
  .have a2:decide ((65536:Int)<=((m/2 ^ 32:Nat):Int))=af:=by simp;omega
   simp only[a2,if_true,aoy,c8,d56];by_cases h3:256<=m/2 ^ 48
   .have a3:decide ((256:Int)<=((m/2 ^ 48:Nat):Int))=af:=by simp;omega
    simp only[a3,if_true,aoy];exact fin 56 _ _ rfl (by kernel_rfl) (by omega) (by omega) (by omega)
   .have a3:decide ((256:Int)<=((m/2 ^ 48:Nat):Int))=ag:=by simp;omega
    simp only[a3,aoC,if_false,aoy];exact fin 48 _ _ rfl (by kernel_rfl) (by omega) (by omega) (by omega)
  .have a2:decide ((65536:Int)<=((m/2 ^ 32:Nat):Int))=ag:=by simp;omega
   simp only[a2,aoC,if_false,aoy,c8,d40];by_cases h3:256<=m/2 ^ 32
   .have a3:decide ((256:Int)<=((m/2 ^ 32:Nat):Int))=af:=by simp;omega
    simp only[a3,if_true,aoy];exact fin 40 _ _ rfl (by kernel_rfl) (by omega) (by omega) (by omega)
   .have a3:decide ((256:Int)<=((m/2 ^ 32:Nat):Int))=ag:=by simp;omega
    simp only[a3,aoC,if_false,aoy];exact fin 32 _ _ rfl (by kernel_rfl) (by omega) (by omega) (by omega)
 .have a1:decide ((4294967296:Int)<=(m:Int))=ag:=by simp;omega
  simp only[a1,aoC,if_false,aoy,c16];by_cases h2:65536<=m
  .have a2:decide ((65536:Int)<=(m:Int))=af:=by simp;omega
   simp only[a2,if_true,aoy,c8,d24];by_cases h3:256<=m/2 ^ 16
   .have a3:decide ((256:Int)<=((m/2 ^ 16:Nat):Int))=af:=by simp;omega
    simp only[a3,if_true,aoy];exact fin 24 _ _ rfl (by kernel_rfl) (by omega) (by omega) (by omega)
   .have a3:decide ((256:Int)<=((m/2 ^ 16:Nat):Int))=ag:=by simp;omega
    simp only[a3,aoC,if_false,aoy];exact fin 16 _ _ rfl (by kernel_rfl) (by omega) (by omega) (by omega)
  .have a2:decide ((65536:Int)<=(m:Int))=ag:=by simp;omega
   simp only[a2,aoC,if_false,aoy,c8];by_cases h3:256<=m
   .have a3:decide ((256:Int)<=(m:Int))=af:=by simp;omega
    simp only[a3,if_true,aoy];exact fin 8 _ _ rfl (by kernel_rfl) (by omega) (by omega) (by omega)
   .have a3:decide ((256:Int)<=(m:Int))=ag:=by simp;omega
    simp only[a3,aoC,if_false,aoy];exact fin 0 m _ (by simp) (by kernel_rfl) (by omega) (by omega) (λh=>h)
theorem aap(rh:Int)(h:0<=rh):(if rh<4294967296 then(4294967296-rh).toNat else 4294967297)<aG:=by
 unfold aG
 split<;>omega
theorem MV{hi lo y:Int}(h0:0<=hi)(h1:hi<y)(h2:y<18446744073709551616):∃r,M.dE aG hi lo y=aa r:=by
 have key:Wp (M.dE aG hi lo y) λ_=>True:=by
  unfold M.dE;rw[ai (by simp;omega),ai (by simp;omega)]
  refine Wp.dec (λ_=>?_) λdS=>?_
  .unfold nG sQ;rw[ai (by omega),ai (by omega)];exact .some trivial
  .obtain⟨m,rfl⟩:∃m:Nat,y=m:=⟨y.toNat,by omega⟩
   obtain⟨L,g1,g2,g3,g4⟩:=Gn (N:=aG) (m:=m) (by omega);obtain⟨g4,g5⟩:=g4 (by omega);unfold M.fD;rw[g1]
   have hL:aoD.wrap (aoz.wrap ((64:Int)-(L:Int)))=((64-L:Nat):Int):=by
    rw[aE (by omega) (by omega),kI (by omega) (by omega)];omega
   have hL2:aoD.wrap ((64:Int)-((64-L:Nat):Int))=(L:Int):=by rw[kI (by omega) (by omega)];omega
   simp only[aoy,hL,hL2]
   have iP:∀a:Int,Hw .u64 a ((64-L:Nat):Int)=aa (yh .u64 a ((64-L:Nat):Int)):=λa=>ai (by omega)
   have Dw:∀a:Int,Eu .u64 a (L:Int)=aa (iA .u64 a (L:Int)):=λa=>ai (by omega)
   have Xa:∀a:Int,Eu .u64 a ((64-L:Nat):Int)=aa (iA .u64 a ((64-L:Nat):Int)):=λa=>ai (by omega)
   simp only[iP,Dw,Xa,aoy,KF]
   have hy:9223372036854775808<=yh .u64 (m:Int) ((64-L:Nat):Int)/\yh .u64 (m:Int) ((64-L:Nat):Int)<18446744073709551616:=by
    unfold yh;rw[show min (((64-L:Nat):Int).toNat) aoD.bits=64-L by simp[IntKind.bits]]
    have e1:m*2 ^ (64-L)<2 ^ 64:=by
     calc m*2 ^ (64-L)<2 ^ L*2 ^ (64-L):=Nat.mul_lt_mul_of_pos_right g3 (Nat.two_pow_pos _)
      _=2 ^ 64:=by rw[<-aqs];congr 1;omega
    have e2:2 ^ 63<=m*2 ^ (64-L):=by
     calc 2 ^ 63=2 ^ (L-1)*2 ^ (64-L):=by rw[<-aqs];congr 1;omega
      _<=m*2 ^ (64-L):=aoZ _ g5
    have e3:((m:Int)*2 ^ (64-L))=((m*2 ^ (64-L):Nat):Int):=by simp
    rw[e3,kI (by omega) (by omega)];omega
   generalize yh .u64 (m:Int) ((64-L:Nat):Int)=x4 at hy⊢
   have hyn:0<x4/4294967296/\x4/4294967296<4294967296:=by omega
   generalize x4/4294967296=yn at hyn⊢
   have quo:∀a:Int,nG a yn=aa (aoM a yn):=λa=>ai (by omega)
   simp only[quo,aoy]
   have inv:∀rh:Int,0<=rh->rh<18446744073709551616->¬4294967296<=aoD.wrap (rh+yn)->(if aoD.wrap (rh+yn)<4294967296 then(4294967296-aoD.wrap (rh+yn)).toNat else 4294967297)<(if rh<4294967296 then(4294967296-rh).toNat else 4294967297):=by
    intro rh i1 i2 hc;rw[aj (by omega)];by_cases hr:rh<4294967296
    .rw[aj hr];have:aoD.wrap (rh+yn)=rh+yn:=kI (by omega) (by omega);rw[this]at hc⊢;omega
    .rw[ai hr];have:=oA (rh+yn);omega
   simp only[aK,jD,aoy]
   refine Wp.seq (λ_=>True) (Wp.seq (λ_=>True) (Wp.loop (λs:Int×Int=>0<=s.2/\s.2<18446744073709551616) (λs=>if s.2<4294967296 then(4294967296-s.2).toNat else 4294967297) (oA _) (aap _ (oA _).1) ?_) λ_ _=> .some trivial) λj9 _=>?_
   .rintro⟨q,rh⟩ ⟨i1,i2⟩
    refine .some ?_;split
    .split
     .trivial
     .rename_i hc;exact⟨oA _,inv rh i1 i2 (by simpa using hc)⟩
    .trivial
   refine Wp.seq (λ_=>True) (Wp.seq (λ_=>True) (Wp.loop (λs:Int×Int=>0<=s.1/\s.1<18446744073709551616) (λs=>if s.1<4294967296 then(4294967296-s.1).toNat else 4294967297) (oA _) (aap _ (oA _).1) ?_) λ_ _=> .some trivial) λAQ _=> .some trivial
   .rintro⟨rh,q⟩ ⟨i1,i2⟩
    refine .some ?_;split
    .split
     .trivial
     .rename_i hc;exact⟨oA _,inv rh i1 i2 (by simpa using hc)⟩
    .trivial
 obtain⟨x,hx,_⟩:=key;exact⟨x,hx⟩
theorem pt(N:Nat)(m:Int):M.fT N m=aa (decide (0<=m)&&decide (m<=5)):=by
 unfold M.fT;simp only[aK,aoy,iy]
theorem uj(N:Nat)(n l:Int):M.eP N n l=aa (decide (l<n)||decide (n<aoz.wrap (0-l))):=by
 unfold M.eP;simp only[aK,aoy,jD]
theorem lf(N:Nat){n:Int}(h: -4611686018427387904<=n/\n<=4611686018427387904):M.eo N n=aa (if n<0 then-n else n):=by
 unfold M.eo;simp only[aK];refine aw aa ?_;by_cases hn:n<0
 .rw[aj (by simpa using hn),aj hn,jU n,jU];omega
 .rw[ai (by simpa using hn),ai hn,kI (by omega) (by omega)]
end L.P
namespace L.P
theorem I2{B y1 y0 u v q r:Nat}(hy:0<y1*B+y0)(hqr:q*y1+r=u)(hge:(u*B+v)/(y1*B+y0)<=q)(Xb:q*y0<=B*r+v):q=(u*B+v)/(y1*B+y0):=by
 refine Nat.le_antisymm ?_ hge;rw[Nat.le_div_iff_mul_le hy,Nat.mul_add]
 have e1:q*(y1*B)+B*r=u*B:=by rw[<-hqr,apl,Nat.mul_assoc,apt B r]
 omega
theorem Gp{B y1 y0 u v q r:Nat}(hy:0<y1*B+y0)(hqr:q*y1+r=u)(By:B*r+v<q*y0):(u*B+v)/(y1*B+y0)<q:=by
 rw[apo hy,Nat.mul_add]
 have e1:q*(y1*B)+B*r=u*B:=by rw[<-hqr,apl,Nat.mul_assoc,apt B r]
 omega
theorem Ad{B y u v:Nat}(hu:u<y)(hv:v<B):(u*B+v)/y<B:=by
 rw[apo (by omega)];have:(u+1)*B<=y*B:=aoZ B hu;rw[apl]at this;rw[apt B y];omega
theorem Gq{B y1 y0 u v:Nat}(hy1:0<y1)(hB:0<B)(hv:v<B):(u*B+v)/(y1*B+y0)<=u/y1:=by
 have hy:0<y1*B+y0:=by have:=Nat.mul_pos hy1 hB;omega
 refine Nat.le_of_lt_succ ?_;rw[apo hy,Nat.mul_add]
 have h1:u<(u/y1+1)*y1:=by
  have:=apX u y1;have:=ap0 u hy1;rw[apl,Nat.one_mul,apt];omega
 have h2:(u+1)*B<=(u/y1+1)*y1*B:=aoZ B h1;rw[apl]at h2;have h3:(u/y1+1)*(y1*B)=(u/y1+1)*y1*B:=(Nat.mul_assoc ..).symm;have h4:0<=(u/y1+1)*y0:=aoR _
 show u*B+v<(u/y1).succ*(y1*B)+(u/y1).succ*y0
 show u*B+v<(u/y1+1)*(y1*B)+(u/y1+1)*y0
 omega
theorem Ae{B y1 y0 u:Nat}(hy1:0<y1)(h2:B<=2*y1)(h0:y0<B)(hu:u<y1*B+y0):u/y1<=B+1:=by
 refine Nat.le_of_lt_succ ?_;rw[apo hy1]
 show u<(B+1+1)*y1
 have:(B+1+1)*y1=y1*B+2*y1:=by rw[apl,apl,apt B y1];omega
 omega
end L.P
namespace L.P
theorem Gr{a:Nat}(ha:a<18446744073709551616):fU .and .u64 (a:Int) 4294967295=((a%4294967296:Nat):Int):=by
 have h:=bits_and_u64_nat a 4294967295 ha (by omega);rw[show a&&& 4294967295=a%4294967296 from Nat.and_two_pow_sub_one_eq_mod a 32]at h;exact h
theorem orN{a b:Nat}(ha:a<18446744073709551616)(hb:b<18446744073709551616):fU .or .u64 (a:Int) (b:Int)=((a|||b:Nat):Int):=bits_or_u64_nat a b ha hb
theorem aar(a:Nat){s:Nat}(hs:s<=64):iA .u64 (a:Int) (s:Int)=((a/2 ^ s:Nat):Int):=by
 unfold iA;rw[show min ((s:Int).toNat) aoD.bits=s by simp[IntKind.bits];omega];rw[Int.fdiv_eq_ediv_of_nonneg _ (by exact Int.le_of_lt (Int.pow_pos (by decide)))];simp
theorem ag4(a:Nat){s:Nat}(hs:s<=64):yh .u64 (a:Int) (s:Int)=((a*2 ^ s%18446744073709551616:Nat):Int):=by
 unfold yh;rw[show min ((s:Int).toNat) aoD.bits=s by simp[IntKind.bits];omega];rw[jU,show((a:Int)*2 ^ s)=((a*2 ^ s:Nat):Int) by simp];omega
theorem sG(a b:Nat)(h:b≠0):nG (a:Int) (b:Int)=aa ((a/b:Nat):Int):=by
 unfold nG;rw[ai (by omega),aoN (by omega)];simp
theorem DQ(a b:Nat)(h:b≠0):sQ (a:Int) (b:Int)=aa ((a%b:Nat):Int):=by
 unfold sQ;rw[ai (by omega),aoQ (by omega)];simp
theorem qH{a:Nat}(h:a<18446744073709551616):aoD.wrap (a:Int)=(a:Int):=kI (by omega) (by omega)
theorem wk(N:Nat){x y:Nat}(hx:x<18446744073709551616)(hy:y<18446744073709551616):M.ei N (x:Int) (y:Int)=aa (((x*y/18446744073709551616:Nat):Int),((x*y%18446744073709551616:Nat):Int)):=by
 obtain⟨bd,bt,bw,hhi⟩:=Lib.mul64_hi x y hx hy;have ba:=Lib.half_mul_le (a:=x/4294967296) (b:=y/4294967296) (by omega) (by omega);have bb:=Lib.half_mul_le (a:=x/4294967296) (b:=y%4294967296) (by omega) (by omega);have bc:=Lib.half_mul_le (a:=x%4294967296) (b:=y/4294967296) (by omega) (by omega)
 have ba':x/4294967296*(y/4294967296)<18446744073709551616:=by omega
 have bb':x/4294967296*(y%4294967296)<18446744073709551616:=by omega
 have bc':x%4294967296*(y/4294967296)<18446744073709551616:=by omega
 have bh1:x/4294967296*(y/4294967296)+(x/4294967296*(y%4294967296)+x%4294967296*(y%4294967296)/4294967296)/4294967296<18446744073709551616:=by omega
 have bh:x/4294967296*(y/4294967296)+(x/4294967296*(y%4294967296)+x%4294967296*(y%4294967296)/4294967296)/4294967296+((x/4294967296*(y%4294967296)+x%4294967296*(y%4294967296)/4294967296)%4294967296+x%4294967296*(y/4294967296))/4294967296<18446744073709551616:=by
  rw[hhi];rw[apo (by omega)];exact Nat.mul_lt_mul'' hx hy
 have dv:∀a:Nat,((a:Int)/4294967296)=((a/4294967296:Nat):Int):=λa=>by omega
 have ml:∀a b:Nat,((a:Int)*(b:Int))=((a*b:Nat):Int):=λa b=>(apy a b).symm
 have ad:∀a b:Nat,((a:Int)+(b:Int))=((a+b:Nat):Int):=λa b=>(Int.natCast_add a b).symm
 unfold M.ei;simp only[KF,Gr hx,Gr hy,dv,ml,ad,qH bd,qH bb',qH bt,Gr bt,qH bc',qH bw,qH ba',qH bh1,qH bh];rw[hhi];refine aw aa (Prod.ext rfl ?_)
 show aoD.wrap _=_
 rw[jU];omega
theorem Xc{S:Type}{body:S->Option (S⊕Int)}(mk:Nat->Nat->S){B y1 y0 u v dg:Nat}(h0:y0<B)(hd:dg<B)
 (hgr:∀q r:Nat,q*y1+r=u->B*r+v<q*y0->dg<q)(Xb:∀q r:Nat,q*y1+r=u->dg<=q->q*y0<=B*r+v->q=dg)
 (hb:∀q r:Nat,q<=B+1->r<B->body (mk q r)=if B<=q\/B*r+v<q*y0 then(if B<=r+y1 then aa (.inr (((q-1:Nat)):Int))else aa (.inl (mk (q-1) (r+y1))))else aa (.inr (q:Int))):
 ∀n q r N:Nat,q<=dg+n->q*y1+r=u->dg<=q->q<=B+1->r<B->n<N->Loop body N (mk q r)=aa (dg:Int):=by
 intro n
 induction n with
 |zero=>
  intro q r N g1 g2 g3 g4 g5 g6
  obtain⟨N,rfl⟩:∃k,N=k+1:=⟨N-1,by omega⟩
  unfold Loop;rw[hb q r g4 g5];have hq:q=dg:=Nat.le_antisymm g1 g3
  have c:¬(B<=q\/B*r+v<q*y0):=by
   rintro(c|c)
   .omega
   .have:=hgr q r g2 c;omega
  rw[ai c]
  show aa (q:Int)=_
  rw[<-hq]
 |succ n ih=>
  intro q r N g1 g2 g3 g4 g5 g6
  obtain⟨N,rfl⟩:∃k,N=k+1:=⟨N-1,by omega⟩
  unfold Loop;rw[hb q r g4 g5];by_cases c:B<=q\/B*r+v<q*y0
  .have aJ:dg<q:=by
    rcases c with c|c
    .omega
    .exact hgr q r g2 c
   obtain⟨p,rfl⟩:∃p,q=p+1:=⟨q-1,by omega⟩
   have e1:p*y1+(r+y1)=u:=by
    rw[apl,Nat.one_mul]at g2;omega
   rw[aj c,Nat.add_sub_cancel];by_cases e:B<=r+y1
   .rw[aj e]
    show aa (p:Int)=_
    have a1:p*y0<=B*y0:=aoZ _ (by omega);have a2:B*y0<=B*(r+y1):=Nat.mul_le_mul_left _ (by omega);rw[<-Xb p (r+y1) e1 (by omega) (by omega)]
   .rw[ai e];exact ih p (r+y1) N (by omega) e1 (by omega) (by omega) (by omega) (by omega)
  .rw[ai c]
   show aa (q:Int)=_
   rw[<-Xb q r g2 g3 (by omega)]
theorem Gs{S:Type}{body:S->Option (S⊕Int)}(mk:Nat->Nat->S){B y1 y0 u v:Nat}(hB:B+1<aG)(h1:B<=2*y1)(Yr:0<B)(h0:y0<B)(hu:u<y1*B+y0)(hv:v<B)(Ef:y1<B)
 (hb:∀q r:Nat,q<=B+1->r<B->body (mk q r)=if B<=q\/B*r+v<q*y0 then(if B<=r+y1 then aa (.inr (((q-1:Nat)):Int))else aa (.inl (mk (q-1) (r+y1))))else aa (.inr (q:Int))):
 Loop body aG (mk (u/y1) (u%y1))=aa (((u*B+v)/(y1*B+y0):Nat):Int):=by
 have hp:0<y1*B:=Nat.mul_pos (by omega) Yr
 have hy:0<y1*B+y0:=by omega
 have Hz:=apX u y1;have hm:=ap0 u (show 0<y1 by omega);rw[apt]at Hz;refine Xc mk h0 (Ad hu hv) (λq r g c=>Gp hy g c) (λq r g g' c=>I2 hy g g' c) hb (B+1) (u/y1) (u%y1) aG ?_ Hz (Gq (by omega) Yr hv) (Ae (by omega) h1 h0 hu) (by omega) hB;exact Nat.le_trans (Ae (by omega) h1 h0 hu) (Nat.le_add_left _ _)
theorem Af{hi lo y:Nat}(h1:hi<y)(hl:lo<18446744073709551616)(h2:y<18446744073709551616):
 M.dE aG (hi:Int) (lo:Int) (y:Int)=aa ((((hi*18446744073709551616+lo)/y:Nat):Int),(((hi*18446744073709551616+lo)%y:Nat):Int)):=by
 unfold M.dE;rw[ai (by simp;omega),ai (by simp;omega)];by_cases h0:hi=0
 .subst h0;rw[aj (by simp),sG _ _ (by omega),DQ _ _ (by omega)];simp only[aoy,Nat.zero_mul,apn];rw[qH (Nat.lt_of_le_of_lt (apP _ _) hl)]
 .rw[ai (by simp;omega)];obtain⟨L,g1,g2,g3,g4⟩:=Gn (N:=aG) (m:=y) (by omega);obtain⟨g4,g5⟩:=g4 (by omega);unfold M.fD;rw[g1]
  have hL:aoD.wrap (aoz.wrap ((64:Int)-(L:Int)))=((64-L:Nat):Int):=by
   rw[aE (by omega) (by omega),kI (by omega) (by omega)];omega
  have hL2:aoD.wrap ((64:Int)-((64-L:Nat):Int))=(L:Int):=by rw[kI (by omega) (by omega)];omega
  simp only[aoy,hL,hL2]
  obtain⟨s,hs⟩:∃s,s=64-L:=⟨_,rfl⟩
  rw[<-hs]
  have aas:s<=64:=by omega
  have iP:∀a:Int,Hw .u64 a ((s:Nat):Int)=aa (yh .u64 a ((s:Nat):Int)):=λa=>ai (by omega)
  have Dw:∀a:Int,Eu .u64 a (L:Int)=aa (iA .u64 a (L:Int)):=λa=>ai (by omega)
  have Xa:∀a:Int,Eu .u64 a ((s:Nat):Int)=aa (iA .u64 a ((s:Nat):Int)):=λa=>ai (by omega)
  have hP:0<2 ^ s:=Nat.two_pow_pos _
  have Xd:2 ^ L*2 ^ s=18446744073709551616:=by
   rw[<-aqs,show L+s=64 by omega]
  have hY1:y*2 ^ s<18446744073709551616:=by
   rw[<-Xd];exact Nat.mul_lt_mul_of_pos_right g3 hP
  have hY2:9223372036854775808<=y*2 ^ s:=by
   have:2 ^ (L-1)*2 ^ s=9223372036854775808:=by rw[<-aqs,show L-1+s=63 by omega]
   rw[<-this];exact aoZ _ g5
  have hhi:hi*2 ^ s+2 ^ s<=y*2 ^ s:=by
   have:=aoZ (2 ^ s) (show hi+1<=y from h1);rw[apl,Nat.one_mul]at this;exact this
  have hlo:lo/2 ^ L<2 ^ s:=by
   rw[apo (Nat.two_pow_pos _),apt,Xd];exact hl
  have hx5:hi*2 ^ s%18446744073709551616=hi*2 ^ s:=Nat.mod_eq_of_lt (by omega)
  have hor:(hi*2 ^ s)|||(lo/2 ^ L)=hi*2 ^ s+lo/2 ^ L:=by
   have:=Nat.shiftLeft_add_eq_or_of_lt hlo hi;rw[Nat.shiftLeft_eq]at this;exact this.symm
  have ag6:lo*2 ^ s=(lo/2 ^ L)*18446744073709551616+lo*2 ^ s%18446744073709551616:=by
   have e:lo*2 ^ s/18446744073709551616=lo/2 ^ L:=by rw[<-Xd];exact Nat.mul_div_mul_right _ _ hP
   have:=apX (lo*2 ^ s) 18446744073709551616;rw[e]at this;omega
  have hdiv:(hi*18446744073709551616+lo)*2 ^ s/(y*2 ^ s)=(hi*18446744073709551616+lo)/y:=Nat.mul_div_mul_right _ _ hP;have Gt:(hi*18446744073709551616+lo)*2 ^ s%(y*2 ^ s)=(hi*18446744073709551616+lo)%y*2 ^ s:=Nat.mul_mod_mul_right _ _ _
  have hW:(hi*18446744073709551616+lo)*2 ^ s=hi*2 ^ s*18446744073709551616+lo*2 ^ s:=by
   rw[apl];rw[Nat.mul_right_comm]
  simp only[iP,Dw,Xa,aoy,KF,ag4 _ aas,aar _ g2,hx5,Nat.mod_eq_of_lt hY1];rw[orN (by omega) (by omega),hor]
  obtain⟨x7,e7,hx7⟩:∃x7,x7=lo*2 ^ s%18446744073709551616/\x7<18446744073709551616:=⟨_,rfl,ap0 _ (by decide)⟩
  rw[<-e7]at ag6⊢
  obtain⟨U,hU⟩:∃U,U=hi*2 ^ s+lo/2 ^ L:=⟨_,rfl⟩
  obtain⟨Y,hY⟩:∃Y,Y=y*2 ^ s:=⟨_,rfl⟩
  obtain⟨W,hWd⟩:∃W,W=hi*18446744073709551616+lo:=⟨_,rfl⟩
  rw[<-hWd]at hdiv Gt hW⊢;rw[<-hY]at hY1 hY2 hdiv Gt hhi⊢;rw[<-hU]
  have hUY:U<Y:=by omega
  have hWs:W*2 ^ s=U*18446744073709551616+x7:=by rw[hW,hU];omega
  rw[hWs]at hdiv Gt
  obtain⟨y1,y0,hYe,hy0,hy1,aat⟩:∃y1 y0,Y=y1*4294967296+y0/\y0<4294967296/\2147483648<=y1/\y1<4294967296:=⟨Y/4294967296,Y%4294967296,by omega,by omega,by omega,by omega⟩
  obtain⟨v1,v0,AX,OA,yj⟩:∃v1 v0,x7=v1*4294967296+v0/\v0<4294967296/\v1<4294967296:=⟨x7/4294967296,x7%4294967296,by omega,by omega,by omega⟩
  have eY:((Y:Int)/4294967296)=(y1:Int):=by omega
  have eV:((x7:Int)/4294967296)=(v1:Int):=by omega
  have aY:fU .and .u64 (Y:Int) 4294967295=(y0:Int):=by rw[Gr hY1];omega
  have aV:fU .and .u64 (x7:Int) 4294967295=(v0:Int):=by rw[Gr hx7];omega
  simp only[eY,eV,aY,aV,sG _ _ (show y1≠0 by omega),aoy];have i1:aoD.wrap ((U/y1:Nat):Int)=((U/y1:Nat):Int):=qH (Nat.lt_of_le_of_lt (apP _ _) (by omega))
  have i2:∀a:Nat,aoD.wrap ((a:Int)-aoD.wrap (((a/y1:Nat):Int)*(y1:Int)))=aoD.wrap ((a%y1:Nat):Int):=by
   intro a;have e:=apX a y1;rw[apt]at e;rw[show(((a/y1:Nat):Int)*(y1:Int))=((a/y1*y1:Nat):Int)from(apy _ _).symm,jU,jU,jU];omega
  have i3:∀a:Nat,aoD.wrap ((a%y1:Nat):Int)=((a%y1:Nat):Int):=λa=>qH (api (ap0 _ (by omega)) (by omega))
  simp only[i1,i2,i3]
  have body:∀(v q r:Nat),v<4294967296->q<=4294967297->r<4294967296->((if decide ((4294967296:Int)<=(q:Int))=af then aa af else aa (decide (aoD.wrap (aoD.wrap (4294967296*(r:Int))+(v:Int))<aoD.wrap ((q:Int)*(y0:Int))))):Option Bool)=aa (decide (4294967296<=q\/4294967296*r+v<q*y0)):=by
   intro v q r hv hq hr;by_cases c:4294967296<=q
   .rw[aj (by simp;omega)];simp[c]
   .rw[ai (by simp;omega)];have m1:q*y0<=4294967295*4294967295:=Nat.mul_le_mul (by omega) (by omega);rw[show((q:Int)*(y0:Int))=((q*y0:Nat):Int)from(apy _ _).symm,qH (a:=q*y0) (by omega),show(4294967296*(r:Int))=((4294967296*r:Nat):Int) by omega,qH (a:=4294967296*r) (by omega),<-Int.natCast_add,qH (by omega)];refine aw aa ?_;rw[aoO];simp only[ax];omega
  have cw:∀r:Nat,r<4294967296->aoD.wrap ((r:Int)+(y1:Int))=((r+y1:Nat):Int):=λr hr=>by rw[<-Int.natCast_add,qH (by omega)]
  have cq:∀q:Nat,0<q->q<=4294967297->aoD.wrap ((q:Int)-1)=((q-1:Nat):Int):=λq h hq=>by rw[kI (by omega) (by omega)];omega
  have pos:∀v q r:Nat,4294967296<=q\/4294967296*r+v<q*y0->0<q:=by
   intro v q r c
   rcases c with c|c
   .omega
   .rcases Nat.eq_zero_or_pos q with h|h
    .subst h;omega
    .exact h
  have sub:∀a b c r:Nat,a+b=c+r->r<18446744073709551616->aoD.wrap (aoD.wrap (aoD.wrap (a:Int)+(b:Int))-aoD.wrap (c:Int))=(r:Int):=by
   intro a b c r h hr;rw[jU,jU,jU,jU];omega
  have mB:∀a:Nat,((a:Int)*4294967296)=((a*4294967296:Nat):Int):=λa=>by omega
  have mY:∀a:Nat,((a:Int)*(Y:Int))=((a*Y:Nat):Int):=λa=>(apy _ _).symm
  apply Wp.eq;refine Wp.IA (x:=(((U*4294967296+v1)/Y:Nat):Int)) ?_ ?_
  .rw[hYe];refine(aw (λo=>Option.bind o λj=>aa j) (Gs (λq r=>((q:Int),(r:Int))) (B:=4294967296) (u:=U) (v:=v1) (by unfold aG;omega) (by omega) (by decide) hy0 (by omega) yj aat ?_)).trans rfl;intro q r hq hr;dsimp only;rw[body v1 q r yj hq hr,aoy,cw r hr];by_cases c:4294967296<=q\/4294967296*r+v1<q*y0
   .rw[aj (ao c),aj c,cq q (pos _ _ _ c) hq];by_cases e:4294967296<=r+y1
    .rw[aj (by simp;omega),aj e]
    .rw[ai (by simp;omega),ai e]
   .rw[ai (by simpa using c),ai c]
  obtain⟨d1,ye⟩:∃d,d=(U*4294967296+v1)/Y:=⟨_,rfl⟩
  obtain⟨r1,Uk⟩:∃r,r=(U*4294967296+v1)%Y:=⟨_,rfl⟩
  have NJ:=apX (U*4294967296+v1) Y;have ag7:r1<Y:=Uk▸ap0 _ (by omega);rw[<-ye,<-Uk,apt]at NJ;rw[<-ye];rw[mB U,mY d1,sub (U*4294967296) v1 (d1*Y) r1 (by omega) (by omega)];simp only[sG _ _ (show y1≠0 by omega),aoy];have i4:aoD.wrap ((r1/y1:Nat):Int)=((r1/y1:Nat):Int):=qH (Nat.lt_of_le_of_lt (apP _ _) (by omega));simp only[i4,i2,i3];refine Wp.IA (x:=(((r1*4294967296+v0)/Y:Nat):Int)) ?_ ?_
  .rw[hYe];refine(aw (λo=>Option.bind o λj=>aa j) (Gs (λq r=>((r:Int),(q:Int))) (B:=4294967296) (u:=r1) (v:=v0) (by unfold aG;omega) (by omega) (by decide) hy0 (by omega) OA aat ?_)).trans rfl;intro q r hq hr;dsimp only;rw[body v0 q r OA hq hr,aoy,cw r hr];by_cases c:4294967296<=q\/4294967296*r+v0<q*y0
   .rw[aj (ao c),aj c,cq q (pos _ _ _ c) hq];by_cases e:4294967296<=r+y1
    .rw[aj (by simp;omega),aj e]
    .rw[ai (by simp;omega),ai e]
   .rw[ai (by simpa using c),ai c]
  obtain⟨d0,XT⟩:∃d,d=(r1*4294967296+v0)/Y:=⟨_,rfl⟩
  obtain⟨r0,Ug⟩:∃r,r=(r1*4294967296+v0)%Y:=⟨_,rfl⟩
  have ag8:=apX (r1*4294967296+v0) Y;have aau:r0<Y:=Ug▸ap0 _ (by omega);rw[<-XT,<-Ug,apt]at ag8;rw[<-XT];rw[mB r1,mY d0,sub (r1*4294967296) v0 (d0*Y) r0 (by omega) (by omega),mB d1];have hB1:=Ad (B:=4294967296) (y:=Y) (u:=U) (v:=v1) hUY yj;have Yr:=Ad (B:=4294967296) (y:=Y) (u:=r1) (v:=v0) ag7 OA;rw[<-ye]at hB1;rw[<-XT]at Yr
  have Of:U*18446744073709551616+x7=(d1*4294967296+d0)*Y+r0:=by
   have e1:(d1*4294967296+d0)*Y=d1*Y*4294967296+d0*Y:=by rw[apl,Nat.mul_right_comm]
   rw[e1];omega
  have hq:W/y=d1*4294967296+d0:=by
   rw[<-hdiv,Of];rw[apt,Nat.mul_add_div (by omega),Nat.div_eq_of_lt aau,apO]
  have hr:W%y*2 ^ s=r0:=by
   rw[<-Gt,Of,apt,Nat.mul_add_mod,Nat.mod_eq_of_lt aau]
  rw[aar _ aas,<-hr,Nat.mul_div_cancel _ hP,hq,qH (a:=d1*4294967296) (by omega),<-Int.natCast_add,qH (by omega)];exact .some rfl
end L.P
namespace L.P
def Cd(c:Int):Prop:=c=0\/c=3\/c=12
theorem DS{c:Prop}[Decidable c]{x y:Int×Int}(hx:Cd x.2)(hy:Cd y.2):Cd (if c then x else y).2:=by
 split
 .exact hx
 .exact hy
theorem NK(x:Int):Cd (x,(0:Int)).2:= .inl rfl
theorem Cd3(x:Int):Cd (x,(3:Int)).2:= .inr (.inl rfl)
theorem nB{n l:Int}(hl:0<=l/\l<=9000000000000000000)(h:¬(decide (l<n)||decide (n<aoz.wrap (0-l)))=af): -l<=n/\n<=l:=by
 rw[aE (by omega) (by omega)]at h;simp at h;omega
theorem UR(N:Nat)(a b c:Int)(d:Bool)(e:Int):Wp (M.dz N a b c d e) λ_=>True:=by
 unfold M.dz;simp only[aK,aoy];exact .some trivial
theorem Cu(N:Nat)(a:Int)(b:Bool):Wp (M.iq N a b) λ_=>True:=by
 unfold M.iq;simp only[aK];exact .some trivial
theorem qs(N:Nat){a b m:Int}(hm:0<=m/\m<=5):Wp (M.eQ N a b m) λr=>Cd r.2:=by
 unfold M.eQ;rw[pt];simp only[aoy,uj];rw[ai (by simp;omega)]
 refine Wp.dec (λ_=> .some (by simp[Cd])) λhb=>?_
 simp only[aK,aoy,jD]
 refine Wp.ite (λ_=> .some (by simp[Cd])) λhc=>?_
 rw[Bool.or_eq_true,not_or]at hc;have ha:=nB (by omega) hc.1;have rB:=nB (by omega) hc.2;rw[lf N ha,lf N rB];simp only[aoy]
 have dS:(if b<0 then-b else b)≠0:=by split<;>omega
 rw[show∀x,nG x (if b<0 then-b else b)=aa (aoM x (if b<0 then-b else b))from λx=>ai dS,show∀x,sQ x (if b<0 then-b else b)=aa (aoP x (if b<0 then-b else b))from λx=>ai dS];simp only[aoy]
 exact Wp.seq _ (UR ..) λx _=>Wp.seq _ (Cu ..) λy _=> .some (by simp[Cd])
theorem wm(N:Nat)(a b:Int):Wp (M.ei N a b) λr=>(0<=r.1/\r.1<18446744073709551616)/\0<=r.2/\r.2<18446744073709551616:=by
 unfold M.ei;exact .some ⟨oA _,oA _⟩
theorem Ag{hi lo y:Int}(h0:0<=hi)(h1:hi<y)(h2:y<18446744073709551616):Wp (M.dE aG hi lo y) λ_=>True:=by
 obtain⟨r,hr⟩:=MV (lo:=lo) h0 h1 h2;exact⟨r,hr,trivial⟩
theorem MW{a b c m:Int}(hm:0<=m/\m<=5):Wp (M.mZ aG a b c m) λr=>Cd r.2:=by
 unfold M.mZ;rw[pt];simp only[aoy,uj];rw[ai (by simp;omega)]
 refine Wp.dec (λ_=> .some (by simp[Cd])) λhb=>?_
 simp only[aK,aoy,jD]
 refine Wp.ite (λ_=> .some (by simp[Cd])) λhc=>?_
 simp only[Bool.or_eq_true,not_or]at hc;have ha:=nB (n:=a) (l:=1000000000000000) (by omega) (by simpa using hc.1);have rB:=nB (n:=b) (l:=1000000000) (by omega) (by simpa using hc.2.1);have hc':=nB (n:=c) (l:=1000000000) (by omega) (by simpa using hc.2.2);rw[lf _ (n:=a) (by omega),lf _ (n:=b) (by omega)];simp only[aoy]
 refine Wp.seq _ (wm ..) λr hr=>?_
 rw[lf _ (n:=c) (by omega)];simp only[aoy]
 refine Wp.dec (λ_=> .some (by simp[Cd])) λhd=>?_
 have aJ:(if c<0 then-c else c)<18446744073709551616:=by split<;>omega
 refine Wp.seq _ (Ag hr.1.1 (by omega) aJ) λq _=>?_
 refine Wp.dec (λ_=> .some (by simp[Cd])) λ_=>?_
 refine Wp.seq _ (UR ..) λx _=>?_
 refine Wp.dec (λ_=> .some (by simp[Cd])) λ_=>?_
 exact Wp.seq _ (Cu ..) λy _=> .some (by simp[Cd])
theorem Ah{a b m:Int}(hm:0<=m/\m<=5):Wp (M.fE aG a b m) λr=>Cd r.2:=by
 unfold M.fE;rw[pt];simp only[aoy,uj];rw[ai (by simp;omega)]
 refine Wp.dec (λ_=> .some (by simp[Cd])) λhb=>?_
 simp only[aK,aoy,jD]
 refine Wp.ite (λ_=> .some (by simp[Cd])) λhc=>?_
 refine Wp.seq _ (qs _ hm) λr hr=>?_
 refine .some ?_;split
 .exact hr
 .split<;>simp[Cd]
theorem Cv(N:Nat)(m:Int):M.kB N m=aa (decide (0<=m)&&decide (m<=5)):=pt N m
theorem Ai(N:Nat)(n l:Int):M.jh N n l=aa (decide (l<n)||decide (n<aoz.wrap (0-l))):=uj N n l
theorem KG{a b m:Int}(hm:0<=m/\m<=5):Wp (M.m5 aG a b m) λr=>Cd r.2:=by
 unfold M.m5;rw[Cv];simp only[aoy,Ai];rw[ai (by simp;omega)];simp only[aK,aoy,jD]
 refine Wp.ite (λ_=> .some (by simp[Cd])) λhc=>?_
 refine Wp.seq _ (qs _ hm) λr hr=>?_
 refine .some ?_;split
 .exact hr
 .split<;>simp[Cd]
theorem MX{a b m:Int}(hm:0<=m/\m<=5):Wp (M.nX aG a b m) λr=>Cd r.2:=by
 unfold M.nX
 exact Wp.seq _ (MW hm) λr hr=> .some hr
theorem Gu(N:Nat)(a b c:Int)(d:Bool)(e:Int):Wp (M.jH N a b c d e) λ_=>True:=by
 unfold M.jH;simp only[aK,aoy];exact .some trivial
theorem DT{a b m:Int}(hm:0<=m/\m<=5):Wp (M.iT aG a b m) λr=>Cd r.2:=by
 unfold M.iT;rw[Cv];simp only[aoy,Ai];rw[ai (by simp;omega)]
 refine Wp.dec (λ_=> .some (by simp[Cd])) λhb=>?_
 simp only[aK,aoy,jD]
 refine Wp.ite (λ_=> .some (by simp[Cd])) λhc=>?_
 refine Wp.seq _ (wm ..) λr hr=>?_
 refine Wp.dec (λ_=> .some (by simp[Cd])) λhd=>?_
 refine Wp.seq _ (Ag hr.1.1 (by omega) (oA _).2) λq _=>?_
 refine Wp.dec (λ_=> .some (by simp[Cd])) λ_=>?_
 refine Wp.seq _ (Wp.bind (Wp.mono (Gu ..) λx _=>?_)) λj7(_:True)=>?_
 .exact .some trivial
 .exact .some (by split<;>simp[Cd])
theorem xV(N:Nat)(r:aA.den)(d:Int):Wp (M.bV N r d) λ_=>True:=by
 unfold M.bV M.ff;simp only[aK,aoy];exact .some trivial
theorem yu(a b:Int):Wp (M.fu aG a b) λ_=>True:=by
 unfold M.fu;simp only[aK,aoy]
 refine Wp.seq _ (wm ..) λr hr=>?_
 refine Wp.dec (λ_=> .some trivial) λhd=>?_
 refine Wp.seq _ (Ag hr.1.1 (by omega) (by omega)) λq _=>?_
 exact .some trivial
theorem Gv(N:Nat){a b m:Int}(hm:0<=m/\m<=5):Wp (M.gH N a b m) λr=>Cd r.2:=by
 unfold M.gH;simp only[aK,aoy]
 refine Wp.ite (λ_=> .some (by simp[Cd])) λhc=>?_
 refine Wp.seq _ (qs _ hm) λr hr=>?_
 exact .some (DS hr (DS (Cd3 _) (NK _)))
theorem xW{t:aP.den}{d k m:Int}(hm:0<=m/\m<=5)(hk:t.2.1=((3,0):Int×Int))(hv:t.2.2.1=((4,0):Int×Int))(hl:t.2.2.2.length<=9223372036854775807):Wp (M.gI aG t d k m) λr=>Cd r.2:=by
 unfold M.gI;simp only[aK,aoy,jD];rw[ai (by simp;omega),ai (by rw[hk,hv];simp[px])]
 refine Wp.ite (λ_=> .some (by simp[Cd])) λhc=>?_
 refine Wp.join (Wp.loop (λs:Int×Int×Int=>∃i:Nat,s.2.2=i/\i<=t.2.2.2.length) (λs=>(t.2.2.2.length-s.2.2).toNat) ⟨0,rfl,aoR _⟩ (by simp only;unfold aG;omega) ?_)
 rintro⟨s1,s2,s3⟩ ⟨i,hi,yp⟩
 simp only at hi;subst hi
 refine Wp.dec (λh=>?_) λh=> .some ?_
 .have gh:i<t.2.2.2.length:=by simp only at h;omega
  refine Wp.join ?_;simp only;rw[aD gh];simp only[aoy]
  refine Wp.seq (λ_=>True) ?_ λj8 _=>?_
  .refine Wp.seq _ (xV ..) λy _=>?_
   exact .some trivial
  have nxt:∀a b:Int,xP (λj6:Int×Int=>aa (ao4 (j6.1,j6.2,aoz.wrap ((i:Int)+1)))) (FL (λs:Int×Int×Int=>∃i:Nat,s.2.2=i/\i<=t.2.2.2.length) (λs=>(t.2.2.2.length-s.2.2).toNat) (s1,s2,(i:Int)) (xP (λj4:Int×Int=>(M.gH aG j4.1 j4.2 m).bind λqY=>aa (qY.1,qY.2)) λr:Int×Int=>Cd r.2)) (.inl (a,b)):=by
   intro a b;refine .some ?_;rw[aL (by omega)];exact⟨⟨i+1,rfl,gh⟩,by simp only;omega⟩
  refine Wp.ite (λ_=> .some (nxt _ _)) λ_=>?_
  refine Wp.seq _ (yu ..) λy _=>?_
  refine .some ?_;split
  .show Cd _
   simp[Cd]
  .exact nxt _ _
 .show Wp _ _
  exact Wp.seq _ (Gv _ hm) λr hr=> .some hr
theorem Ql(l:List dM.den)(a b:Int)(hl:l.length<=9223372036854775807):Wp (M.cT aG l a b) λr=>r.2.1=af->0<=r.1/\r.1<l.length:=by
 unfold M.cT;refine Wp.loop (λs:Int×Int×Int=>∃i:Nat,s.1=i/\i<=l.length) (λs=>(l.length-s.1).toNat) ⟨0,rfl,aoR _⟩ (by simp only;unfold aG;omega) ?_
 rintro⟨s1,s2,s3⟩ ⟨i,hi,yp⟩
 simp only at hi;subst hi
 refine Wp.dec (λh=>?_) λh=> .some λh=>by cases h
 have gh:i<l.length:=by simp only at h;omega
 simp only;rw[aD gh];simp only[aoy]
 refine Wp.seq (λ_=>True) ?_ λy _=>?_
 .unfold M.gG
  refine Wp.seq (λ_=>True) (Wp.seq _ (xV ..) λy _=>?_) λj _=> .some trivial
  simp only[aK];exact .some trivial
 .refine Wp.ite (λ_=> .some λ_=>⟨by simp only;omega,by simp only;omega⟩) λ_=> .some ?_
  rw[aL (by omega)];exact⟨⟨i+1,rfl,gh⟩,by simp only;omega⟩
theorem Cw(t:aP.den)(a b:Int)(hl:t.2.2.2.length<=9223372036854775807):Wp (M.kS aG t a b) λr=>r.2=af->0<=r.1/\r.1<t.2.2.2.length:=by
 unfold M.kS
 exact Wp.seq _ (Ql _ a b hl) λr hr=> .some hr
theorem uk(N:Nat)(d:Int):M.jq N d=aa (decide (0<=d)&&decide (d<=109572)):=by
 unfold M.jq;simp only[aK,aoy,iy]
theorem nC(N:Nat)(y m:Int):Wp (M.dJ N y m) λr=>0<=r/\r<=31:=by
 unfold M.dJ M.oH;simp only[aK,aoy,jD,iy]
 refine Wp.ite (λ_=> .some (by omega)) λhc=>?_
 refine Wp.ite (λ_=> .some (by omega)) λ_=>?_
 have hm:1<=m/\m<=12:=by simp at hc;omega
 rw[aE (by omega) (by omega)]
 have:m=1\/m=2\/m=3\/m=4\/m=5\/m=6\/m=7\/m=8\/m=9\/m=10\/m=11\/m=12:=by omega
 rcases this with rfl|rfl|rfl|rfl|rfl|rfl|rfl|rfl|rfl|rfl|rfl|rfl<;>exact⟨_,rfl,by decide⟩
theorem r6(N:Nat)(y:Int):Wp (M.eT N y) λ_=>True:=by
 unfold M.eT M.kA;simp only[aoy];exact .some trivial
theorem tC(d:Int):Wp (M.eU aG d) λ_=>True:=by
 unfold M.eU;rw[uk];simp only[aoy]
 refine Wp.ite (λ_=> .some trivial) λhv=>?_
 have hd:0<=d/\d<=109572:=by simpa using hv
 have h0:aoM d 366=d/366:=aoN hd.1;have hw:aoz.wrap (d/366)=d/366:=aE (by omega) (by omega);have hw2:aoz.wrap (1900+d/366)=1900+d/366:=aE (by omega) (by omega);rw[h0,hw,hw2]
 refine Wp.seq (λ_=>True) (Wp.loop (λy:Int=>1900<=y/\y<=2199) (λy=>(2199-y).toNat) (by omega) (by unfold aG;omega) ?_) λy _=>?_
 .rintro y ⟨h1,h2⟩
  by_cases hy:y=2199
  .subst hy
   have e:M.eT aG (aoz.wrap ((2199:Int)+1))=aa 109573:=by show(_:Option Int)=_;kernel_rfl
   rw[e];simp only[aoy];rw[ai (by simp;omega)];exact .some trivial
  .refine Wp.seq _ (r6 ..) λz _=>?_
   refine Wp.dec (λ_=> .some ?_) λ_=> .some trivial
   rw[aE (by omega) (by omega)];exact⟨by omega,by simp only;omega⟩
 .refine Wp.seq _ (r6 ..) λz _=>?_
  refine Wp.loop (λs:Int×Int=>∃i:Nat,s.2=i/\i<=12) (λs=>(12-s.2).toNat) ⟨0,rfl,by omega⟩ (by simp only;unfold aG;omega) ?_
  rintro⟨a,b⟩ ⟨i,hi,yp⟩
  simp only at hi;subst hi
  refine Wp.dec (λh=>?_) λ_=> .some trivial
  refine Wp.seq _ (nC ..) λw _=>?_
  refine Wp.dec (λ_=> .some trivial) λ_=> .some ?_
  simp only at h⊢;rw[aL (by omega)];exact⟨⟨i+1,rfl,by omega⟩,by simp only;omega⟩
theorem I3(y m d:Int):Wp (M.kU aG y m d) λr=>Cd r.2:=by
 unfold M.kU
 refine Wp.seq (λj=>j=ag->1<=m/\m<=12) ?_ λj hj=>?_
 .refine Wp.dec (λ_=> .some (λh=>by cases h)) λ_=>Wp.dec (λ_=> .some (λh=>by cases h)) λ_=>Wp.dec (λ_=> .some (λh=>by cases h)) λh1=>Wp.dec (λ_=> .some (λh=>by cases h)) λh2=>Wp.dec (λ_=> .some (λh=>by cases h)) λ_=>?_
  exact Wp.seq _ (nC ..) λw _=> .some λ_=>⟨by omega,by omega⟩
 .refine Wp.ite (λ_=> .some (by simp[Cd])) λhc=>?_
  have hm:=hj (by simpa using hc)
  refine Wp.seq _ (r6 ..) λz _=>?_
  refine Wp.seq (λ_=>True) (Wp.loop (λs:Int×Int=>∃i:Nat,s.2=i/\i<=12) (λs=>(13-s.2).toNat) ⟨0,rfl,by omega⟩ (by simp only;unfold aG;omega) ?_) λw _=> .some (by simp[Cd])
  rintro⟨a,b⟩ ⟨i,hi,yp⟩
  simp only at hi;subst hi
  refine Wp.dec (λh=>?_) λ_=> .some trivial
  refine Wp.seq _ (nC ..) λw _=> .some ?_
  simp only at h⊢;rw[aE (n:=m-1) (by omega) (by omega)]at h;rw[aL (by omega)];exact⟨⟨i+1,rfl,by omega⟩,by simp only;omega⟩
theorem r7(d n:Int):Wp (M.dA aG d n) λr=>Cd r.2:=by
 unfold M.dA;rw[uk];simp only[aK,aoy,jD]
 refine Wp.ite (λ_=> .some (by simp[Cd])) λhc=>?_
 refine Wp.seq _ (tC ..) λy _=>?_
 refine Wp.ite (λ_=> .some (by simp[Cd])) λ_=>?_
 refine Wp.seq _ (nC ..) λw _=>?_
 exact Wp.seq _ (I3 ..) λr hr=> .some hr
theorem sz(a b:Int):Wp (M.eW aG a b) λ_=>True:=by
 unfold M.eW;rw[uk,uk];simp only[aK,aoy,jD]
 refine Wp.ite (λ_=> .some trivial) λ_=>?_
 refine Wp.seq _ (tC ..) λy _=>Wp.seq _ (tC ..) λz _=>?_
 refine Wp.seq (λ_=>True) (Wp.seq _ (r7 ..) λr _=>?_) λj _=> .some trivial
 exact .some trivial
end L.P
namespace L.P
def DU(m:Int)(neg:Bool)(q r d:Nat):Bool:=
 if m=0 then neg&&decide (0<r)else if m=1 then !neg&&decide (0<r)else if m=3 then decide (0<r)else if m=4 then decide (d<=r+r)else if m=5 then decide (d<r+r\/(d=r+r/\q%2=1))else ag
def r8(m:Int)(neg:Bool)(q r d:Nat):Nat:=if DU m neg q r d=af then q+1 else q
def sg(neg:Bool)(q:Nat):Int:=if neg=af then-(q:Int)else(q:Int)
def ng(a b:Int):Bool:= !decide (decide (a<0)=decide (b<0))
def ry(m:Int):Prop:=0<=m/\m<=5
instance(m:Int):Decidable (ry m):=by unfold ry;infer_instance
theorem r9(m:Int)(neg:Bool)(q r d:Nat):q<=r8 m neg q r d/\r8 m neg q r d<=q+1:=by unfold r8;split<;>omega
theorem Gw(m:Int)(neg:Bool)(q:Nat){d:Nat}(hd:0<d):DU m neg q 0 d=ag:=by
 unfold DU
 have h1:¬d<=0+0:=by omega
 have h2:¬(d<0+0\/d=0+0/\q%2=1):=by omega
 rw[aq h1,aq h2];simp
theorem Aj(m:Int)(neg:Bool)(q:Nat){d:Nat}(hd:0<d):r8 m neg q 0 d=q:=by
 unfold r8;rw[Gw m neg q hd];rfl
theorem oR(N:Nat)(m:Int)(neg:Bool){q r d:Nat}(hq:q<=4611686018427387904)(hr:r<d)(hd:d<=4611686018427387904):M.gk N (q:Int) (r:Int) (d:Int) neg m=aa (sg neg (r8 m neg q r d)):=by
 have hw:aoz.wrap ((d:Int)-(r:Int))=(d:Int)-r:=aE (by omega) (by omega)
 have ht:aoP (q:Int) 2=((q%2:Nat):Int):=by rw[aoQ (by omega)];omega
 have e1:((if(decide (m=(0:Int)))=af then(if neg=af then aa (decide ((0:Int)<(r:Int)))else aa ag)else(if(decide (m=(1:Int)))=af then(if(!neg)=af then aa (decide ((0:Int)<(r:Int)))else aa ag)else
  (if(decide (m=(3:Int)))=af then aa (decide ((0:Int)<(r:Int)))else(if(decide (m=(4:Int)))=af then aa (decide ((d:Int)-r<=(r:Int)))else(if(decide (m=(5:Int)))=af then(if(decide ((d:Int)-r<(r:Int)))=af then aa af else
  (if(decide ((r:Int)=(d:Int)-r))=af then aa (decide (((q%2:Nat):Int)=(1:Int)))else aa ag))else aa ag))))):Option Bool)=aa (DU m neg q r d):=by
  unfold DU;by_cases h0:m=0
  .subst h0;cases neg<;>simp
  by_cases h1:m=1
  .subst h1;cases neg<;>simp
  by_cases h3:m=3
  .subst h3;simp
  by_cases h4:m=4
  .subst h4;simp;omega
  by_cases h5:m=5
  .subst h5;simp only[aK,decide_true,if_true,apG,decide_false,aoC,if_false];refine aw aa ?_;by_cases c1:(d:Int)-r<r
   .rw[aj (by simpa using c1)];simp;omega
   .rw[ai (by simpa using c1)];by_cases c2:(r:Int)=(d:Int)-r
    .rw[aj (by simpa using c2)];rw[aoO];simp;omega
    .rw[ai (by simpa using c2)]
     symm
     simp;omega
  simp[h0,h1,h3,h4,h5]
 unfold M.gk;rw[hw,ht,e1];have hu:=r9 m neg q r d
 have e2:((if DU m neg q r d=af then aa (aoz.wrap ((q:Int)+(1:Int)))else aa (q:Int)):Option Int)=aa ((r8 m neg q r d:Nat):Int):=by
  unfold r8;split
  .rw[aE (by omega) (by omega)];rfl
  .rfl
 rw[aoy,e2,aoy];unfold sg;cases neg
 .simp
 .simp only[if_true];rw[aE (by omega) (by omega)];simp
theorem xX(N:Nat){m:Int}(neg:Bool){q r d:Nat}(hq:q<=4611686018427387904)(hr:r<d)(hd:d<=4611686018427387904):M.dz N (q:Int) (r:Int) (d:Int) neg m=aa ((r8 m neg q r d:Nat):Int):=by
 unfold M.dz;by_cases hz:r=0
 .subst hz;rw[aj (by simp),Aj _ _ _ (by omega)]
 rw[ai (by simpa using hz)];have hw:aoD.wrap ((d:Int)-(r:Int))=(d:Int)-r:=kI (by omega) (by omega)
 have ht:aoP (q:Int) 2=((q%2:Nat):Int):=by rw[aoQ (by omega)];omega
 have e1:((if(decide (m=(0:Int)))=af then aa neg else(if(decide (m=(1:Int)))=af then aa (!neg)else(if(decide (m=(3:Int)))=af then aa af else(if(decide (m=(4:Int)))=af then aa (decide ((d:Int)-r<=(r:Int)))else
  (if(decide (m=(5:Int)))=af then(if(decide ((d:Int)-r<(r:Int)))=af then aa af else(if(decide ((r:Int)=(d:Int)-r))=af then aa (decide (((q%2:Nat):Int)=(1:Int)))else aa ag))else aa ag))))):Option Bool)=aa (DU m neg q r d):=by
  unfold DU;by_cases h0:m=0
  .subst h0;simp;omega
  by_cases h1:m=1
  .subst h1;simp;omega
  by_cases h3:m=3
  .subst h3;simp;omega
  by_cases h4:m=4
  .subst h4;simp;omega
  by_cases h5:m=5
  .subst h5;simp only[aK,decide_true,if_true,apG,decide_false,aoC,if_false];refine aw aa ?_;by_cases c1:(d:Int)-r<r
   .rw[aj (by simpa using c1)];simp;omega
   .rw[ai (by simpa using c1)];by_cases c2:(r:Int)=(d:Int)-r
    .rw[aj (by simpa using c2)];rw[aoO];simp;omega
    .rw[ai (by simpa using c2)]
     symm
     simp;omega
  simp[h0,h1,h3,h4,h5]
 rw[hw,ht,e1];have hu:=r9 m neg q r d
 have e2:((if DU m neg q r d=af then aa (aoD.wrap ((q:Int)+(1:Int)))else aa (q:Int)):Option Int)=aa ((r8 m neg q r d:Nat):Int):=by
  unfold r8;split
  .rw[kI (by omega) (by omega)];rfl
  .rfl
 rw[aoy,e2,aoy]
theorem Gx(N:Nat){m:Int}(neg:Bool){q r d:Nat}(hr:r<d)(hd:d<=4611686018427387904):M.jH N (q:Int) (r:Int) (d:Int) neg m=aa (DU m neg q r d):=by
 unfold M.jH;by_cases hz:r=0
 .subst hz;rw[aj (by simp),Gw m neg q (by omega)]
 rw[ai (by simpa using hz)];have hw:aoD.wrap ((d:Int)-(r:Int))=(d:Int)-r:=kI (by omega) (by omega)
 have ht:aoP (q:Int) 2=((q%2:Nat):Int):=by rw[aoQ (by omega)];omega
 rw[hw,ht];unfold DU;by_cases h0:m=0
 .subst h0;simp;omega
 by_cases h1:m=1
 .subst h1;simp;omega
 by_cases h3:m=3
 .subst h3;simp;omega
 by_cases h4:m=4
 .subst h4;simp;omega
 by_cases h5:m=5
 .subst h5;simp only[aK,aoy,decide_true,if_true,apG,decide_false,aoC,if_false];refine aw aa ?_;by_cases c1:(d:Int)-r<r
  .rw[aj (by simpa using c1)];simp;omega
  .rw[ai (by simpa using c1)];by_cases c2:(r:Int)=(d:Int)-r
   .rw[aj (by simpa using c2)];rw[aoO];simp;omega
   .rw[ai (by simpa using c2)]
    symm
    simp;omega
 simp[h0,h1,h3,h4,h5]
theorem Cx(N:Nat){q:Nat}(hq:q<=4611686018427387905)(neg:Bool):M.iq N (q:Int) neg=aa (sg neg q):=by
 unfold M.iq sg;rw[aE (n:=(q:Int)) (by omega) (by omega),aE (by omega) (by omega)]
 cases neg<;>simp
theorem Ak(N:Nat){n:Int}(h: -4611686018427387904<=n/\n<=4611686018427387904):M.eo N n=aa ((n.natAbs:Nat):Int):=by
 rw[lf N h];refine aw aa ?_
 split<;>omega
theorem um(N:Nat){n:Int}(h: -4611686018427387904<=n/\n<=4611686018427387904):M.la N n=aa ((n.natAbs:Nat):Int):=by
 unfold M.la;rw[aE (by omega) (by omega)];by_cases c:n<0
 .rw[aj (by simpa using c)];refine aw aa ?_;omega
 .rw[ai (by simpa using c)];refine aw aa ?_;omega
theorem rm(N:Nat)(m:Int):M.mo N m=aa (decide (ry m)):=by
 unfold M.mo;simp only[aK,aoy,iy];refine aw aa ?_;rw[aoO,ax];unfold ry;simp
theorem wo(N:Nat)(m:Int):M.fT N m=aa (decide (ry m)):=rm N m
theorem Al(N:Nat)(m:Int):M.kB N m=aa (decide (ry m)):=rm N m
def jb(n l:Int):Prop:=l<n\/n< -l
instance(n l:Int):Decidable (jb n l):=by unfold jb;infer_instance
theorem qt(N:Nat)(n:Int){l:Int}(hl:0<=l/\l<=9000000000000000000):M.dK N n l=aa (decide (jb n l)):=by
 unfold M.dK;rw[aE (by omega) (by omega)];simp only[aK,aoy,jD,Int.zero_sub];refine aw aa ?_;rw[aoO,ax];unfold jb;simp
theorem DV(N:Nat)(n:Int){l:Int}(hl:0<=l/\l<=9000000000000000000):M.eP N n l=aa (decide (jb n l)):=qt N n hl
theorem KH(N:Nat)(n:Int){l:Int}(hl:0<=l/\l<=9000000000000000000):M.jh N n l=aa (decide (jb n l)):=qt N n hl
theorem wq(N:Nat)(n:Int){l:Int}(hl:0<=l/\l<=9000000000000000000):M.fG N n l=aa (decide (jb n l)):=by
 unfold M.fG;rw[aE (by omega) (by omega)];simp only[aK,aoy,jD,Int.zero_sub];refine aw aa ?_;rw[aoO,ax];unfold jb;simp
theorem DW(m:Int):((if(decide (m<(0:Int)))=af then aa af else aa (decide ((5:Int)<m))):Option Bool)=aa (!decide (ry m)):=by
 rw[aK];refine aw aa ?_;rw[aoO,Bool.not_eq_true',az];unfold ry;simp;omega
theorem Qm(a b l:Int):((if(decide (jb a l))=af then aa af else aa (decide (jb b l))):Option Bool)=aa (decide (jb a l\/jb b l)):=by
 rw[aK,jD,Bool.decide_or]
def KI(n d m:Int):Int×Int:=
 if¬ry m then(0,1)else if d=0 then(0,12)else if jb n 4611686018427387904\/jb d 4611686018427387904 then(0,3)else
  (sg (ng n d) (r8 m (ng n d) (n.natAbs/d.natAbs) (n.natAbs%d.natAbs) d.natAbs),0)
theorem KJ{n d m:Int}(h:¬ry m):KI n d m=(0,1):=aj h
theorem Gy{n d m:Int}(h:ry m)(h1:d=0):KI n d m=(0,12):=by unfold KI;rw[ai (apT.2 h),aj h1]
theorem KK{n d m:Int}(h:ry m)(h1:d≠0)(h2:jb n 4611686018427387904\/jb d 4611686018427387904):KI n d m=(0,3):=by unfold KI;rw[ai (apT.2 h),ai h1,aj h2]
theorem Am{n d m:Int}(h:ry m)(h1:d≠0)(h2:¬(jb n 4611686018427387904\/jb d 4611686018427387904)):KI n d m=(sg (ng n d) (r8 m (ng n d) (n.natAbs/d.natAbs) (n.natAbs%d.natAbs) d.natAbs),0):=by unfold KI;rw[ai (apT.2 h),ai h1,ai h2]
theorem mK{a:Nat}(h:a<=9223372036854775807):aoz.wrap (a:Int)=(a:Int):=aE (by omega) (by omega)
theorem qv(N:Nat)(n d m:Int):M.eQ N n d m=aa (KI n d m):=by
 unfold M.eQ;simp only[wo,aoy,DV N _ (l:=4611686018427387904) (by omega),Qm];by_cases hm:ry m
 .rw[ai (by simpa using hm)];by_cases hd:d=0
  .rw[aj (by simpa using hd),Gy hm hd]
  .rw[ai (by simpa using hd)];by_cases hb:jb n 4611686018427387904\/jb d 4611686018427387904
   .rw[aj (by simpa using hb),KK hm hd hb]
   .rw[ai (by simpa using hb),Am hm hd hb];unfold jb at hb
    have Tq:d.natAbs≠0:=by omega
    have h1:n.natAbs/d.natAbs<=n.natAbs:=apP _ _;have h2:n.natAbs%d.natAbs<d.natAbs:=ap0 _ (by omega);have h3:=r9 m (ng n d) (n.natAbs/d.natAbs) (n.natAbs%d.natAbs) d.natAbs;rw[Ak N (n:=n) (by omega),Ak N (n:=d) (by omega),aoy,aoy,sG _ _ Tq,DQ _ _ Tq,aoy,aoy,qH (by omega),xX N _ (by omega) h2 (by omega),aoy]
    show((M.iq N _ (ng n d)).bind _)=_
    rw[show(!decide (decide (n<0)=decide (d<0)))=ng n d from rfl];rw[Cx N (by omega),aoy]
 .rw[aj (by simpa using hm),KJ hm]
theorem wu(N:Nat)(n d m:Int):M.nu N n d m=aa (KI n d m):=by
 unfold M.nu;simp only[rm,aoy,qt N _ (l:=4611686018427387904) (by omega),Qm];by_cases hm:ry m
 .rw[ai (by simpa using hm)];by_cases hd:d=0
  .rw[aj (by simpa using hd),Gy hm hd]
  .rw[ai (by simpa using hd)];by_cases hb:jb n 4611686018427387904\/jb d 4611686018427387904
   .rw[aj (by simpa using hb),KK hm hd hb]
   .rw[ai (by simpa using hb),Am hm hd hb];unfold jb at hb
    have Tq:d.natAbs≠0:=by omega
    have h1:n.natAbs/d.natAbs<=n.natAbs:=apP _ _;have h2:n.natAbs%d.natAbs<d.natAbs:=ap0 _ (by omega);rw[um N (n:=n) (by omega),um N (n:=d) (by omega),aoy,aoy,sG _ _ Tq,DQ _ _ Tq,aoy,aoy,mK (by omega),oR N _ _ (by omega) h2 (by omega),aoy];rfl
 .rw[aj (by simpa using hm),KJ hm]
theorem An(neg:Bool)(q:Nat):(sg neg q).natAbs=q:=by unfold sg;split<;>omega
theorem I4(neg:Bool)(q:Nat):sg neg q=q\/sg neg q= -(q:Int):=by unfold sg;split<;>simp
theorem I5(n:Int){d:Int}(hd:0<d):ng n d=decide (n<0):=by
 unfold ng;rw[show decide (d<0)=ag by simp;omega]
 cases decide (n<0)<;>rfl
theorem I6(N:Nat)(c u m:Int):M.fE N c u m=M.lN N c u m:=by
 unfold M.fE M.lN;simp only[wo,rm,aoy,DV N _ (l:=1000000000000000) (by omega),qt N _ (l:=1000000000000000) (by omega),aK,jD];by_cases hm:ry m
 case neg=>simp only[hm,decide_false,apd,if_true]
 simp only[hm,decide_true,aoX,aoC,if_false];by_cases hu:u<1
 .simp only[hu,decide_true,if_true]
 simp only[hu,decide_false,aoC,if_false]
 cases hb:(decide (jb c 1000000000000000)||decide (1000000000000000<u))
 case true=>simp only[if_true]
 simp only[aoC,if_false];rw[Bool.or_eq_false_iff,az,az]at hb;unfold jb at hb
 obtain⟨U,rfl⟩:∃U:Nat,u=(U:Int):=⟨u.toNat,by omega⟩
 have Tq:U≠0:=by omega
 have h1:c.natAbs/U<=c.natAbs:=apP _ _;have h2:c.natAbs%U<U:=ap0 _ (by omega);rw[qv,aoy,um N (n:=c) (by omega),aoy,sG _ _ Tq,DQ _ _ Tq,aoy,aoy,mK (by omega),oR N _ _ (by omega) h2 (by omega),aoy]
 have hD:KI c (U:Int) m=(sg (decide (c<0)) (r8 m (decide (c<0)) (c.natAbs/U) (c.natAbs%U) U),0):=by
  rw[Am hm (by omega) (by unfold jb;omega),I5 c (by omega),Int.natAbs_natCast]
 rw[hD];rfl
end L.P
namespace L.P
def Tr(c x m:Int):Int×Int:=
 if¬ry m then(0,1)else if jb c 1000000000000000\/jb x 1000000000 then(0,3)else
  if 1000000000000000<r8 m (ng c x) (c.natAbs*x.natAbs/1000000) (c.natAbs*x.natAbs%1000000) 1000000 then(0,3)
  else(sg (ng c x) (r8 m (ng c x) (c.natAbs*x.natAbs/1000000) (c.natAbs*x.natAbs%1000000) 1000000),0)
theorem KM{c x m:Int}(h:¬ry m):Tr c x m=(0,1):=aj h
theorem KN{c x m:Int}(h:ry m)(h2:jb c 1000000000000000\/jb x 1000000000):Tr c x m=(0,3):=by unfold Tr;rw[ai (apT.2 h),aj h2]
theorem Qn{c x m:Int}(h:ry m)(h2:¬(jb c 1000000000000000\/jb x 1000000000)){P:Nat}(hP:P=c.natAbs*x.natAbs):Tr c x m=if 1000000000000000<r8 m (ng c x) (P/1000000) (P%1000000) 1000000 then(0,3)else(sg (ng c x) (r8 m (ng c x) (P/1000000) (P%1000000) 1000000),0):=by subst hP;unfold Tr;rw[ai (apT.2 h),ai h2]
theorem aav(a b:Int):((if(decide (jb a 1000000000000000))=af then aa af else(if(decide (jb b 1000000000))=af then aa af else aa (decide (jb (1000000:Int) 1000000000)))):Option Bool)=aa (decide (jb a 1000000000000000\/jb b 1000000000)):=by
 rw[show decide (jb (1000000:Int) 1000000000)=ag by decide];simp only[aK,jD,Bool.decide_or,Bool.or_false]
theorem ng6(c x:Int):(!decide ((!decide ((decide (c<(0:Int)))=(decide (x<(0:Int)))))=(decide ((1000000:Int)<(0:Int)))))=ng c x:=by
 unfold ng;rw[show decide ((1000000:Int)<0)=ag by decide]
 cases decide (c<0)<;>cases decide (x<0)<;>rfl
theorem MY(c x m:Int):M.nX aG c x m=aa (Tr c x m):=by
 unfold M.nX M.mZ;simp only[wo,aoy,DV aG _ (l:=1000000000000000) (by omega),DV aG _ (l:=1000000000) (by omega),aav,ng6];by_cases hm:ry m
 .rw[ai (by simpa using hm),ai (by simp)];by_cases hb:jb c 1000000000000000\/jb x 1000000000
  .rw[aj (by simpa using hb),KN hm hb];rfl
  .obtain⟨P,hP⟩:∃P,P=c.natAbs*x.natAbs:=⟨_,rfl⟩
   rw[ai (by simpa using hb),Qn hm hb hP];unfold jb at hb;have hPb:P<=1000000000000000*1000000000:=hP▸Nat.mul_le_mul (by omega) (by omega);rw[Ak aG (n:=c) (by omega),Ak aG (n:=x) (by omega),aoy,aoy,wk aG (by omega) (by omega),aoy,Ak aG (n:=1000000) (by omega),aoy,<-hP];dsimp only;rw[show((1000000:Int).natAbs:Int)=((1000000:Nat):Int)from rfl];by_cases h1:1000000<=P/18446744073709551616
   .rw[aj (by simp;omega),aj]
    .rfl
    .have:=r9 m (ng c x) (P/1000000) (P%1000000) 1000000;omega
   .rw[ai (by simp;omega),Af (by omega) (by omega) (by omega),aoy]
    have e1:P/18446744073709551616*18446744073709551616+P%18446744073709551616=P:=by omega
    rw[e1];dsimp only;have hu:=r9 m (ng c x) (P/1000000) (P%1000000) 1000000;by_cases h2:1000000000000000<P/1000000
    .rw[aj (by simp;omega),aj (by omega)];rfl
    .rw[ai (by simp;omega),xX aG _ (by omega) (by omega) (by omega),aoy];by_cases h3:1000000000000000<r8 m (ng c x) (P/1000000) (P%1000000) 1000000
     .rw[aj (by simp;omega),aj h3];rfl
     .rw[ai (by simp;omega),ai h3,Cx aG (by omega)];rfl
 .rw[aj (by simpa using hm),KM hm];rfl
theorem I7(N:Nat)(c x m:Int):M.qi N c x m=aa (Tr c x m):=by
 unfold M.qi M.rR;simp only[rm,aoy,qt N _ (l:=1000000000000000) (by omega),qt N _ (l:=1000000000) (by omega),aav,ng6];by_cases hm:ry m
 .rw[ai (by simpa using hm),ai (by simp)];by_cases hb:jb c 1000000000000000\/jb x 1000000000
  .rw[aj (by simpa using hb),KN hm hb];rfl
  .rw[ai (by simpa using hb),Qn hm hb rfl];unfold jb at hb;rw[um N (n:=c) (by omega),um N (n:=x) (by omega),um N (n:=1000000) (by omega),aoy,aoy,aoy];rw[show((1000000:Int).natAbs:Int)=((1000000:Nat):Int)from rfl]
   obtain⟨A,hA,hAb⟩:∃A,A=c.natAbs/\A<=1000000000000000:=⟨_,rfl,by omega⟩
   obtain⟨X,hX,hXb⟩:∃X,X=x.natAbs/\X<=1000000000:=⟨_,rfl,by omega⟩
   rw[<-hA,<-hX]
   have hAX:A*X=1000000*(A/1000000*X)+A%1000000*X:=by
    have:=apX A 1000000;rw[<-Nat.mul_assoc,<-apl,this]
   have hp:A%1000000*X<=999999*1000000000:=Nat.mul_le_mul (by omega) hXb
   have hu:∀q r,q<=r8 m (ng c x) q r 1000000/\r8 m (ng c x) q r 1000000<=q+1:=λq r=>r9 _ _ _ _ _
   have hq:A*X/1000000=A/1000000*X+A%1000000*X/1000000:=by rw[hAX];omega
   have hr:A*X%1000000=A%1000000*X%1000000:=by rw[hAX];omega
   rw[hq,hr];by_cases h0:(0:Nat)<X/\1000000000000000/X<A/1000000
   .have FX:1000000000000000<A/1000000*X:=by
     rw[apo h0.1]at h0;exact h0.2
    obtain⟨K,hK⟩:∃K,K=1000000000000000/X:=⟨_,rfl⟩
    have hKb:K<=1000000000000000:=hK▸apP _ _;rw[aj (by simp;omega),sG _ _ (by omega),show(1000000000000000:Int)=((1000000000000000:Nat):Int)from rfl,sG _ _ (by omega),<-hK,aoy,aoy,aoy,mK (by omega),mK (by omega),aj (by rw[<-hK]at h0;simp;omega),aj]
    .rfl
    .have:=(hu (A/1000000*X+A%1000000*X/1000000) (A%1000000*X%1000000)).1;omega
   .have oC:A/1000000*X<=1000000000000000:=by
     rcases Nat.eq_zero_or_pos X with e|e
     .subst e;simp
     .have h9:A/1000000<=1000000000000000/X:=by omega
      rw[Nat.le_div_iff_mul_le e]at h9;exact h9
    have c0:((if(decide ((0:Int)<(X:Int)))=af then(nG (A:Int) ((1000000:Nat):Int)).bind λmj=>(nG (1000000000000000:Int) (X:Int)).bind λnT=>aa (decide ((aoz.wrap nT)<(aoz.wrap mj)))else aa ag):Option Bool)=aa ag:=by
     by_cases e:X=0
     .rw[ai (by simp;omega)]
     .obtain⟨K,hK⟩:∃K,K=1000000000000000/X:=⟨_,rfl⟩
      have hKb:K<=1000000000000000:=hK▸apP _ _;rw[<-hK]at h0;rw[aj (by simp;omega),sG _ _ (by omega),show(1000000000000000:Int)=((1000000000000000:Nat):Int)from rfl,sG _ _ e,<-hK,aoy,aoy,mK (by omega),mK (by omega)];refine aw aa ?_;rw[az];omega
    rw[c0,aoy,ai (by simp),DQ _ _ (by omega),aoy,sG _ _ (by omega),aoy,<-apy,mK (by omega),sG _ _ (by omega),aoy,DQ _ _ (by omega),aoy,mK (a:=A/1000000) (by omega),<-apy,mK (a:=A/1000000*X) (by omega),mK (a:=A%1000000*X/1000000) (by omega),<-Int.natCast_add,mK (by omega),oR N _ _ (by omega) (by omega) (by omega),aoy]
    obtain⟨Q,hQ⟩:∃Q,Q=r8 m (ng c x) (A/1000000*X+A%1000000*X/1000000) (A%1000000*X%1000000) 1000000:=⟨_,rfl⟩
    rw[<-hQ];have hs:=I4 (ng c x) Q;by_cases h3:1000000000000000<Q
    .rw[aj (ao (show jb _ _ by unfold jb;omega)),aj h3];rfl
    .rw[ai (by rw[ax];unfold jb;omega),ai h3];rfl
 .rw[aj (by simpa using hm),KM hm];rfl
end L.P
namespace L.P
def RU(m F:Int)(R d:Nat):Prop:=m=1\/(m=2/\F<0)\/(m=3/\0<=F)\/(m=4/\(d<R+R\/(d=R+R/\0<=F)))\/(m=5/\(d<R+R\/(d=R+R/\F%2≠0)))
instance(m F:Int)(R d:Nat):Decidable (RU m F R d):=by unfold RU;infer_instance
theorem Gz(N:Nat){m:Int}(hm:ry m){F:Int}{R d:Nat}(hR:R≠0)(hRd:R<d)(yT:d<=4611686018427387904)(hF: -4500000000000000000<=F/\F<=4500000000000000000):
 M.iH N F (R:Int) (d:Int) m=aa (if RU m F R d then F+1 else F):=by
 unfold M.iH;rw[ai (by simpa using hR)];have hw:aoz.wrap ((d:Int)-(R:Int))=(d:Int)-R:=aE (by omega) (by omega);have Ep:aoz.wrap (F+1)=F+1:=aE (by omega) (by omega);rw[hw,Ep]
 have ht:aoP F 2=0↔F%2=0:=by
  constructor
  .intro e;have:=Int.dvd_of_tmod_eq_zero e;omega
  .intro e;exact Int.tmod_eq_zero_of_dvd (by omega)
 generalize aoP F 2=p at ht⊢;unfold ry at hm
 have hc:m=0\/m=1\/m=2\/m=3\/m=4\/m=5:=by omega
 have key:∀(b:Bool),(b=af↔RU m F R d)->((if b=af then aa (F+1)else aa F):Option Int)=aa (if RU m F R d then F+1 else F):=by
  intro b hb;by_cases c:RU m F R d
  .rw[aj (hb.2 c),aj c]
  .rw[ai (λe=>c (hb.1 e)),ai c]
 rcases hc with rfl|rfl|rfl|rfl|rfl|rfl
 all_goals simp only[aK,aoy,apG,decide_true,decide_false,aoC,if_true,if_false,jD,iy]at key⊢
 .rw[ai (by unfold RU;omega)]
 .rw[aj (by unfold RU;omega)]
 .refine key _ ?_;unfold RU;simp
 .refine key _ ?_;unfold RU;simp
 .refine key _ ?_;unfold RU;by_cases e:(R:Int)=(d:Int)-R
  .have de:=ao e;simp only[de,if_true]
   simp<;>omega
  .have de:=aq e;simp only[de,aoC,if_false]
   simp<;>omega
 .refine key _ ?_;unfold RU;by_cases e:(R:Int)=(d:Int)-R
  .have de:=ao e;simp only[de,if_true]
   simp[ht]<;>omega
  .have de:=aq e;simp only[de,aoC,if_false]
   simp<;>omega
theorem wv(N:Nat){m:Int}(hm:ry m)(neg:Bool){F:Int}{R q r d:Nat}(hd:0<d)(yT:d<=4611686018427387904)(hr:r<d)(hq:q<=4000000000000000000)
 (h:(neg=ag/\F=q/\R=r)\/(neg=af/\r=0/\R=0/\F= -(q:Int))\/(neg=af/\0<r/\R=d-r/\F= -(q:Int)-1)):
 M.iH N F (R:Int) (d:Int) m=aa (sg neg (r8 m neg q r d)):=by
 by_cases hR:R=0
 .unfold M.iH;rw[aj (by simpa using hR)]
  have Ug:r=0:=by omega
  subst Ug;rw[Aj _ _ _ hd];refine aw aa ?_;unfold sg
  rcases h with⟨h,h1,h2⟩|⟨h,h1,h2,h3⟩|⟨h,h1,h2,h3⟩
  .rw[h,h1];simp
  .rw[h,h3];simp
  .omega
 rw[Gz N hm hR (by omega) yT (by omega)];refine aw aa ?_;unfold ry at hm
 have hc:m=0\/m=1\/m=2\/m=3\/m=4\/m=5:=by omega
 rcases h with⟨rfl,rfl,rfl⟩|⟨rfl,h1,h2,h3⟩|⟨rfl,h1,h2,rfl⟩
 .have e:DU m ag q R d=af↔RU m (q:Int) R d:=by
   unfold DU RU
   rcases hc with rfl|rfl|rfl|rfl|rfl|rfl<;>simp<;>omega
  unfold r8 sg;by_cases c:RU m (q:Int) R d
  .rw[aj c,aj (e.2 c)];simp
  .rw[ai c,ai (λg=>c (e.1 g))];simp
 .omega
 .have e:DU m af q r d=af↔¬RU m (-(q:Int)-1) R d:=by
   unfold DU RU
   rcases hc with rfl|rfl|rfl|rfl|rfl|rfl<;>simp<;>omega
  unfold r8 sg;by_cases c:RU m (-(q:Int)-1) R d
  .rw[aj c,ai (λg=>(e.1 g) c)];simp
  .rw[ai c,aj (e.2 c)];simp;omega
theorem tD{X F:Int}{R D:Nat}{neg:Bool}(hR:R<D)(h:F*D+R=X)(h1:0<X->neg=ag)(h2:X<0->neg=af):
 (neg=ag/\F=((X.natAbs/D:Nat):Int)/\R=X.natAbs%D)\/(neg=af/\X.natAbs%D=0/\R=0/\F= -((X.natAbs/D:Nat):Int))\/(neg=af/\0<X.natAbs%D/\R=D-X.natAbs%D/\F= -((X.natAbs/D:Nat):Int)-1):=by
 cases neg with
 |false=>
  have hX:0<=X:=by
   rcases apZ X 0 with c|c
   .cases h2 c
   .exact c
  have hF:0<=F:=by
   rcases apZ F 0 with c|c
   .have:=aqg (show F<=-1 by omega) (show(0:Int)<=D by omega);omega
   .exact c
  obtain⟨f,rfl⟩:∃f:Nat,F=f:=⟨F.toNat,by omega⟩
  have e:X.natAbs=D*f+R:=by
   rw[<-apy,apt]at h;omega
  rw[e];refine .inl ⟨rfl,?_,?_⟩
  .rw[Nat.mul_add_div (by omega),Nat.div_eq_of_lt hR,apO]
  .rw[Nat.mul_add_mod,Nat.mod_eq_of_lt hR]
 |true=>
  have hX:X<=0:=by
   rcases apZ 0 X with c|c
   .cases h1 c
   .exact c
  have hF:F<=0:=by
   rcases apZ 0 F with c|c
   .have:=aqg (show 1<=F by omega) (show(0:Int)<=D by omega);omega
   .exact c
  obtain⟨f,hf⟩:∃f:Nat,F= -(f:Int):=⟨F.natAbs,by omega⟩
  subst hf;rw[Int.neg_mul,<-apy,apt]at h;by_cases hR0:R=0
  .subst hR0
   have e:X.natAbs=D*f:=by omega
   rw[e,Nat.mul_mod_right,Nat.mul_div_cancel_left _ (by omega)];exact .inr (.inl ⟨rfl,rfl,rfl,rfl⟩)
  .have hf1:1<=f:=by
    rcases Nat.eq_zero_or_pos f with c|c
    .subst c;omega
    .exact c
   obtain⟨g,rfl⟩:∃g,f=g+1:=⟨f-1,by omega⟩
   rw[Nat.mul_add,Nat.mul_one]at h
   have e:X.natAbs=D*g+(D-R):=by omega
   rw[e,Nat.mul_add_mod,Nat.mod_eq_of_lt (by omega),Nat.mul_add_div (by omega),Nat.div_eq_of_lt (by omega),apO];exact .inr (.inr ⟨rfl,by omega,by omega,by omega⟩)
theorem Cy(N:Nat){X:Int}{D:Nat}(hD:0<D)(hD2:D<=4000000000000000000)(hX:X.natAbs<=4000000000000000000):∃(F:Int)(R:Nat),M.oL N X (D:Int)=aa (F,(R:Int))/\R<D/\F*D+R=X/\-(X.natAbs:Int)-1<=F/\F<=X.natAbs:=by
 unfold M.oL;have NJ:=apX X.natAbs D;have hm:=ap0 X.natAbs hD;have hq:=apP X.natAbs D
 rcases apZ X 0 with c|c
 .have eX:X= -(X.natAbs:Int):=by omega
  have q1:nG X (D:Int)=aa (-((X.natAbs/D:Nat):Int)):=by
   unfold nG;rw[ai (by omega)]
   conv=>lhs;rw[eX]
   rw[Int.neg_tdiv,aoN (by omega)];simp
  have q2:sQ X (D:Int)=aa (-((X.natAbs%D:Nat):Int)):=by
   unfold sQ;rw[ai (by omega)]
   conv=>lhs;rw[eX]
   rw[Int.neg_tmod,aoQ (by omega)];simp
  rw[q1,q2,aoy,aoy];generalize X.natAbs/D=Q at NJ hq⊢;generalize X.natAbs%D=R at NJ hm⊢;rw[aE (n:= -(Q:Int)) (by omega) (by omega)]
  have hQD:(Q:Int)*D=((D*Q:Nat):Int):=by rw[apt];exact(apy _ _).symm
  by_cases hz:R=0
  .subst hz;refine⟨-(Q:Int),0,?_,hD,?_,by omega,by omega⟩
   .rw[ai (by simp)];rfl
   .rw[Int.neg_mul,hQD];omega
  .refine⟨-(Q:Int)-1,D-R,?_,by omega,?_,by omega,by omega⟩
   .rw[aj (by simp<;>omega),aE (by omega) (by omega),aE (by omega) (by omega)];refine aw aa (Prod.ext rfl ?_);simp only;omega
   .rw[Int.sub_mul,Int.neg_mul,hQD];omega
 .obtain⟨x,rfl⟩:∃x:Nat,X=x:=⟨X.toNat,by omega⟩
  rw[Int.natAbs_natCast]at*;rw[sG _ _ (by omega),DQ _ _ (by omega),aoy,aoy];generalize x/D=Q at NJ hq⊢;generalize x%D=R at NJ hm⊢
  have hQD:(Q:Int)*D=((D*Q:Nat):Int):=by rw[apt];exact(apy _ _).symm
  rw[ai (by simp),mK (by omega)];refine⟨_,_,rfl,hm,?_,by omega,by omega⟩;rw[hQD];omega
theorem Ts(N:Nat)(a b m:Int):M.m5 N a b m=M.rb N a b m:=by
 unfold M.m5 M.rb;rw[DW];simp only[Al,aoy,KH N _ (l:=1000000000) (by omega),wq N _ (l:=1000000000) (by omega),Qm];by_cases hm:ry m
 .simp only[hm,decide_true,aoX,aoC,if_false];by_cases hb:jb a 1000000000\/jb b 1000000000
  .simp only[hb,decide_true,if_true]
  .simp only[hb,decide_false,aoC,if_false];unfold jb at hb
   have hX:(a*b).natAbs<=1000000000*1000000000:=by
    rw[Int.natAbs_mul];exact Nat.mul_le_mul (by omega) (by omega)
   obtain⟨X,hXe⟩:∃X,X=a*b:=⟨_,rfl⟩
   rw[<-hXe]at hX⊢;rw[aE (n:=X) (by omega) (by omega),qv,aoy];obtain⟨F,R,e,h1,h2,h3,h4⟩:=Cy N (X:=X) (D:=1000000) (by omega) (by omega) (by omega);rw[show((1000000:Nat):Int)=(1000000:Int)from rfl]at e;rw[e,aoy];dsimp only;have hr:=wv N hm (decide (X<0)) (F:=F) (R:=R) (q:=X.natAbs/1000000) (r:=X.natAbs%1000000) (d:=1000000) (by omega) (by omega) (by omega) (by omega) (tD h1 h2 (λh=>by simp;omega) (λh=>by simp;omega));rw[show((1000000:Nat):Int)=(1000000:Int)from rfl]at hr;rw[hr,aoy]
   have hD:KI X 1000000 m=(sg (decide (X<0)) (r8 m (decide (X<0)) (X.natAbs/1000000) (X.natAbs%1000000) 1000000),0):=by
    rw[Am hm (by omega) (by unfold jb;omega),I5 X (by omega)];rfl
   rw[hD];rfl
 .simp only[hm,decide_false,apd,if_true]
def Qo(n d m:Int):Int×Int:=
 if¬ry m then(0,1)else if d=0 then(0,12)else if jb n 1000000000000000\/jb d 1000000000000000 then(0,3)else
  if 1000000000<r8 m (ng n d) (n.natAbs*1000000/d.natAbs) (n.natAbs*1000000%d.natAbs) d.natAbs then(0,3)
  else(sg (ng n d) (r8 m (ng n d) (n.natAbs*1000000/d.natAbs) (n.natAbs*1000000%d.natAbs) d.natAbs),0)
theorem KO{n d m:Int}(h:¬ry m):Qo n d m=(0,1):=aj h
theorem GA{n d m:Int}(h:ry m)(h1:d=0):Qo n d m=(0,12):=by unfold Qo;rw[ai (apT.2 h),aj h1]
theorem KP{n d m:Int}(h:ry m)(h1:d≠0)(h2:jb n 1000000000000000\/jb d 1000000000000000):Qo n d m=(0,3):=by unfold Qo;rw[ai (apT.2 h),ai h1,aj h2]
theorem Qp{n d m:Int}(h:ry m)(h1:d≠0)(h2:¬(jb n 1000000000000000\/jb d 1000000000000000)){P D:Nat}(hP:P=n.natAbs*1000000)(hD:D=d.natAbs):Qo n d m=if 1000000000<r8 m (ng n d) (P/D) (P%D) D then(0,3)else(sg (ng n d) (r8 m (ng n d) (P/D) (P%D) D),0):=by subst hP hD;unfold Qo;rw[ai (apT.2 h),ai h1,ai h2]
theorem DX{a:Int}(h: -1000000000000000<=a/\a<=1000000000000000):aoD.wrap (if a<(aoz.wrap (0-a))then(aoz.wrap (0-a))else a)=((a.natAbs:Nat):Int):=by
 rw[aE (n:=0-a) (by omega) (by omega),kI (by split<;>omega) (by split<;>omega)]
 split<;>omega
theorem DY(n d m:Int):M.iT aG n d m=aa (Qo n d m):=by
 unfold M.iT;simp only[Al,aoy,KH aG _ (l:=1000000000000000) (by omega),Qm];by_cases hm:ry m
 .rw[ai (by simpa using hm)];by_cases hd:d=0
  .rw[aj (by simpa using hd),GA hm hd]
  .rw[ai (by simpa using hd)];by_cases hb:jb n 1000000000000000\/jb d 1000000000000000
   .rw[aj (by simpa using hb),KP hm hd hb]
   .obtain⟨P,hP⟩:∃P,P=n.natAbs*1000000:=⟨_,rfl⟩
    obtain⟨D,hD⟩:∃D,D=d.natAbs:=⟨_,rfl⟩
    rw[ai (by simpa using hb),Qp hm hd hb hP hD];unfold jb at hb
    have hDb:D<=1000000000000000:=by omega
    rw[DX (a:=n) (by omega),DX (a:=d) (by omega)]
    have Qq:0<D:=by omega
    have Gt:=ap0 P Qq;rw[show(1000000:Int)=((1000000:Nat):Int)from rfl,wk aG (by omega) (by omega),aoy,<-hP,<-hD];dsimp only;have hu:=r9 m (ng n d) (P/D) (P%D) D;by_cases h1:D<=P/18446744073709551616
    .have FX:18446744073709551616<=P/D:=by
      rw[Nat.le_div_iff_mul_le Qq];have:=(Nat.le_div_iff_mul_le (by omega)).1 h1;omega
     rw[aj (by simp;omega),aj (by omega)]
    .rw[ai (by simp;omega),Af (by omega) (by omega) (by omega),aoy]
     have e1:P/18446744073709551616*18446744073709551616+P%18446744073709551616=P:=by omega
     rw[e1];dsimp only;by_cases h2:1000000000<P/D
     .rw[aj (by simp;omega),aj (by omega)]
     .rw[ai (by simp;omega),Gx aG _ Gt (by omega),aoy];rw[show(!decide (decide (n<0)=decide (d<0)))=ng n d from rfl]
      have e2:((if DU m (ng n d) (P/D) (P%D) D=af then aa (aoz.wrap (aoz.wrap ((P/D:Nat):Int)+1))else aa (aoz.wrap ((P/D:Nat):Int))):Option Int)=aa ((r8 m (ng n d) (P/D) (P%D) D:Nat):Int):=by
       rw[mK (by omega)];unfold r8;split
       .rw[aE (by omega) (by omega)];rfl
       .rfl
      rw[e2,aoy];by_cases h3:1000000000<r8 m (ng n d) (P/D) (P%D) D
      .rw[aj (by simp;omega),aj h3]
      .rw[ai (by simp;omega),ai h3,aE (by omega) (by omega)];unfold sg
       cases ng n d<;>simp
 .rw[aj (by simpa using hm),KO hm]
theorem Bo(N:Nat)(n d m:Int):M.me N n d m=aa (Qo n d m):=by
 unfold M.me;rw[DW];simp only[aoy,wq N _ (l:=1000000000000000) (by omega),wq N _ (l:=1000000000) (by omega),wq N _ (l:=1001) (by omega),Qm];by_cases hm:ry m
 .rw[ai (by simpa using hm)];by_cases hd:d=0
  .rw[aj (by simpa using hd),GA hm hd]
  .rw[ai (by simpa using hd)];by_cases hb:jb n 1000000000000000\/jb d 1000000000000000
   .rw[aj (by simpa using hb),KP hm hd hb]
   .obtain⟨P,hP0⟩:∃P,P=n.natAbs*1000000:=⟨_,rfl⟩
    obtain⟨D,hD⟩:∃D,D=d.natAbs:=⟨_,rfl⟩
    rw[ai (by simpa using hb),Qp hm hd hb hP0 hD];unfold jb at hb
    have hDb:D<=1000000000000000:=by omega
    have Qq:0<D:=by omega
    obtain⟨X,hX1,hX2,hX3,hX4⟩:∃X:Int,((if(decide (d<(0:Int)))=af then aa (aoz.wrap ((0:Int)-n),aoz.wrap ((0:Int)-d))else aa (n,d)):Option (Int×Int))=aa (X,(D:Int))/\X.natAbs=n.natAbs/\(0<X->ng n d=ag)/\(X<0->ng n d=af):=by
     by_cases c:d<0
     .refine⟨-n,?_,by omega,λh=>?_,λh=>?_⟩
      .rw[aj (by simpa using c),aE (by omega) (by omega),aE (by omega) (by omega)]
       refine aw aa (Prod.ext ?_ ?_)<;>simp only<;>omega
      .unfold ng;rw[ao (show n<0 by omega),ao c];rfl
      .unfold ng;rw[aq (show¬n<0 by omega),ao c];rfl
     .refine⟨n,?_,rfl,λh=>?_,λh=>?_⟩
      .rw[ai (by simpa using c)];refine aw aa (Prod.ext rfl ?_);simp only;omega
      .unfold ng;rw[aq (show¬n<0 by omega),aq c];rfl
      .unfold ng;rw[ao (show n<0 by omega),aq c];rfl
    rw[hX1,aoy];obtain⟨F0,R0,e,h1,h2,h3,h4⟩:=Cy N (X:=X) (D:=D) Qq (by omega) (by omega);dsimp only;rw[e,aoy];dsimp only
    have hP:P=X.natAbs*1000000:=by rw[hX2];exact hP0
    have Gt:=ap0 P Qq;have hu:=r9 m (ng n d) (P/D) (P%D) D;by_cases Nv:jb F0 1001
    .rw[aj (by simpa using Nv),aj];unfold jb at Nv
     have hq:1001000000<=P/D:=by
      rw[Nat.le_div_iff_mul_le Qq]
      rcases Nv with c|c
      .have:=aqg (show 1002<=F0 by omega) (show(0:Int)<=D by omega);omega
      .have:=aqg (show F0<=-1002 by omega) (show(0:Int)<=D by omega);omega
     omega
    .rw[ai (by simpa using Nv)];unfold jb at Nv;have k1:=apX (R0*1000) D;have k2:=ap0 (R0*1000) Qq
     have k3:R0*1000/D<1000:=by rw[apo Qq];omega
     obtain⟨a,ha⟩:∃a,a=R0*1000/D:=⟨_,rfl⟩
     obtain⟨r1,Uk⟩:∃r,r=R0*1000%D:=⟨_,rfl⟩
     rw[<-ha,<-Uk]at k1;rw[<-Uk]at k2;rw[<-ha]at k3;have g1:=apX (r1*1000) D;have g2:=ap0 (r1*1000) Qq
     have g3:r1*1000/D<1000:=by rw[apo Qq];omega
     obtain⟨b,rB⟩:∃b,b=r1*1000/D:=⟨_,rfl⟩
     obtain⟨r2,Tt⟩:∃r,r=r1*1000%D:=⟨_,rfl⟩
     rw[<-rB,<-Tt]at g1;rw[<-Tt]at g2;rw[<-rB]at g3
     have m1:((R0:Int)*1000)=((R0*1000:Nat):Int):=by omega
     rw[m1,mK (a:=R0*1000) (by omega),sG _ _ (by omega),DQ _ _ (by omega),aoy,aoy,<-ha,<-Uk]
     have m2:((r1:Int)*1000)=((r1*1000:Nat):Int):=by omega
     rw[m2,mK (a:=r1*1000) (by omega),sG _ _ (by omega),DQ _ _ (by omega),aoy,aoy,<-rB,<-Tt]
     have w:∀z:Int,-100000000000<=z->z<=100000000000->aoz.wrap z=z:=λz h1 h2=>aE (by omega) (by omega)
     rw[w (F0*1000000) (by omega) (by omega),w (a:Int) (by omega) (by omega),w ((a:Int)*1000) (by omega) (by omega),w (F0*1000000+(a:Int)*1000) (by omega) (by omega),w (b:Int) (by omega) (by omega),w _ (by omega) (by omega)]
     have hFX:(F0*1000000+(a:Int)*1000+(b:Int))*(D:Int)+(r2:Int)=X*1000000:=by
      have e1:(F0*1000000+(a:Int)*1000+(b:Int))*(D:Int)=F0*D*1000000+(a:Int)*D*1000+(b:Int)*D:=by
       rw[Int.add_mul,Int.add_mul,Int.mul_right_comm F0,Int.mul_right_comm (a:Int)]
      have e2:(a:Int)*D=((D*a:Nat):Int):=by rw[apt];exact(apy _ _).symm
      have e3:(b:Int)*D=((D*b:Nat):Int):=by rw[apt];exact(apy _ _).symm
      rw[e1,e2,e3];omega
     have hXn:(X*1000000).natAbs=P:=by rw[hP,Int.natAbs_mul];rfl
     have hc:=tD (neg:=ng n d) g2 hFX (λh=>hX3 (by omega)) (λh=>hX4 (by omega));rw[hXn]at hc
     have hPD:P/D<=2000000000:=by
      rcases hc with⟨_,c,_⟩|⟨_,_,_,c⟩|⟨_,_,_,c⟩<;>omega
     have hr:=wv N hm (ng n d) Qq (by omega) Gt (by omega) hc;rw[hr,aoy];have hs:=I4 (ng n d) (r8 m (ng n d) (P/D) (P%D) D);by_cases h3:1000000000<r8 m (ng n d) (P/D) (P%D) D
     .rw[aj (ao (show jb _ _ by unfold jb;omega)),aj h3]
     .rw[ai (by rw[ax];unfold jb;omega),ai h3]
 .rw[aj (by simpa using hm),KO hm]
end L.P
end Go.Proofs.YtfjgcenlllgonaaGreatDoor
