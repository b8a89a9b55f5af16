/- Joined texts: RW RM RN RX CA RY RZ CC CD CE CF KN TV. -/
import Derived.Test.YtfjgcenlllgonaaGreatDoorU10
import Derived.Test.YtfjgcenlllgonaaGreatDoorU7
import Derived.Test.YtfjgcenlllgonaaGreatDoorU11
open _root_.Bool renaming false->ah,true->af,false_eq_true->aqM
open _root_.Option renaming some->aa,bind_some->aqI,none->ae,getD_some->arn,map_eq_some_iff->arH
open _root_.Classical renaming not_not->arX
open _root_.Go.Lib renaming compact->arM
open _root_.Int renaming eq_ofNat_of_zero_le->aqV,toNat_natCast->aqR,le_refl->arO,tdiv->aqW,tdiv_eq_ediv_of_nonneg->aq0
open _root_.Go.IntKind renaming i64->aqJ,bits->ase,u64->aqP
open _root_.List renaming getElem?_eq_getElem->aqK,getElem?_eq_some_iff->aqQ,getElem_mem->aqN,getElem_of_mem->aqZ,length_cons->arh,mem_append->aq7,mem_cons->arw,pairwise_cons->arS,take_length->ara,append_assoc->ard,getD->arm,getElem_append_left->aqX,getElem_append_right->are,length_map->arb,length_take->aq9,mem_singleton->aq5,replicate->aqO,length_eq_one_iff->asa,getElem?_take->arR,countP_eq_zero->ass,drop_eq_getElem_cons->aq6,length_append->aqT,range->arK,mem_cons_self->ary,getElem?_map->arP
open _root_.Nat renaming le_refl->aqS,zero_le->aq2
open _root_.Sum renaming inl->arj,inr->arc
open _root_.List.cons renaming injEq->arE
open _root_.Option.some renaming inj->aqL
namespace Go.Proofs.YtfjgcenlllgonaaGreatDoor
open Go Go.RowKit
set_option maxRecDepth 100000
set_option linter.unusedSimpArgs false
set_option linter.unusedVariables false
set_option linter.defProp false
namespace L
inductive OL(D:Int->Int->Prop):Int->Int->Prop
 |one {a b:Int} (h:D a b):OL D a b
 |step {a b c:Int} (h:OL D a b) (g:D b c):OL D a c
def Dp(s:iV)(a b:Int):Prop:=b∈mc s a
def AV{y:Int}:∀{l out:List Int},y∈l.foldl (λo z=>ins z o) out↔y∈l\/y∈out
 |[],_=>by simp
 |x::l,out=>by
  rw[List.foldl_cons,AV (l:=l),qz,arw]
  grind
def rv(s:iV){out:List Int}{y:Int}:y∈stepT s out↔y∈out\/∃x∈out,Dp s x y:=by
 unfold stepT
 suffices∀(l o:List Int),y∈l.foldl (λo x=>(mc s x).foldl (λo y=>ins y o) o) o↔y∈o\/∃x∈l,Dp s x y from this _ _
 intro l
 induction l with
 |nil=>intro o;simp
 |cons x l ih=>
  intro o;rw[List.foldl_cons,ih,AV];unfold Dp
  grind
def tF(s:iV)(d:Int):∀n y,y∈nR s n (mc s d)->OL (Dp s) d y
 |0,y,h=> .one h
 |n+1,y,h=>by
  rcases(rv s).1 h with h|⟨x,hx,h⟩
  .exact tF s d n y h
  .exact .step (tF s d n x hx) h
def N5{l m:List Int}(hl:l.Pairwise (· < ·))(hm:m.Pairwise (· < ·))(h:∀y,y∈l↔y∈m):l=m:=by
 induction l generalizing m with
 |nil=>
  cases m with
  |nil=>rfl
  |cons y m=>exact absurd ((h y).2 (by simp)) (by simp)
 |cons x l ih=>
  cases m with
  |nil=>grind
  |cons y m=>
   obtain⟨h1,h2⟩:=arS.1 hl;obtain⟨g1,g2⟩:=arS.1 hm
   have e:x=y:=by
    rcases arw.1 ((h x).1 (by simp))with e|e
    .exact e
    .rcases arw.1 ((h y).2 (by simp))with e'|e'
     all_goals grind
   grind
def xN{l:List Int}:∀{m:List Int},l.Nodup->(∀y,y∈l->y∈m)->l.length<=m.length:=by
 induction l with
 |nil=>grind
 |cons x l ih=>
  intro m hn h;obtain⟨h1,h2⟩:=List.nodup_cons.1 hn;have hx:=h x (by simp)
  have:=ih (m:=m.erase x) h2 λy hy=>(List.mem_erase_of_ne (λe:y=x=>h1 (by rw[<-e];exact hy))).2 (h y (by simp[hy]))
  rw[List.length_erase_of_mem hx]at this;have:=List.length_pos_of_mem hx;simp only[arh];omega
def LM{l m:List Int}(hl:l.Pairwise (· < ·))(_:m.Pairwise (· < ·))(h:∀y,y∈l->y∈m)(hx:∃y,y∈m/\y∉l):l.length<m.length:=by
 have nd:l.Nodup:=hl.imp λh=>by omega
 obtain⟨y,hy,hn⟩:=hx;have nd2:(y::l).Nodup:=List.nodup_cons.2 ⟨hn,nd⟩;have:(y::l).length<=m.length:=xN nd2 (by grind)
 grind
def Eu(s:iV)(d:Int):(∀n,n<=s.2.2.2.1.length->(stepT s (nR s n (mc s d))=nR s n (mc s d)\/n<=(nR s n (mc s d)).length)):=by
 have srt:∀m,uC s.2.2.2.1.length (nR s m (mc s d)):=λm=>by
  induction m with
  |zero=>exact ld s d
  |succ m ih=>exact uv s ih
 intro n
 induction n with
 |zero=>grind
 |succ n ih=>
  intro hn
  rcases ih (by omega)with h|h
  .grind [nR]
  .by_cases hx:∃y,y∈stepT s (nR s n (mc s d))/\y∉nR s n (mc s d)
   .right
    have:=LM (srt n).1 (uv s (srt n)).1 (λy hy=>(rv s).2 (.inl hy)) hx
    grind [nR]
   .left
    have:stepT s (nR s n (mc s d))=nR s n (mc s d):=N5 (uv s (srt n)).1 (srt n).1 λy=>⟨(by grind),λh=>(rv s).2 (.inl h)⟩
    grind [nR]
theorem LN(s:iV)(d y:Int):y∈D5 s d↔OL (Dp s) d y:=by
 refine⟨λh=>tF s d _ y h,λh=>?_⟩
 have closed:∀x z,x∈D5 s d->Dp s x z->z∈D5 s d:=by
  intro x z hx hz
  rcases Eu s d s.2.2.2.1.length (aqS _)with h|h
  .have:z∈stepT s (nR s s.2.2.2.1.length (mc s d)):=(rv s).2 (.inr ⟨x,hx,hz⟩);rw[h]at this;exact this
  .have hs:=Ll s d;have Zw:=(ld s x).2 z hz
   refine arX.1 λhn=>?_
   have:=LM (l:=D5 s d) (m:=ins z (D5 s d)) hs.1 (JI hs.1) (λy hy=>qz.2 (.inr hy)) ⟨z,qz.2 (.inl rfl),hn⟩;have:=(hs.ins Zw).len
   grind [D5]
 have start:∀z,Dp s d z->z∈D5 s d:=by
  intro z hz
  show z∈nR s s.2.2.2.1.length (mc s d)
  have:∀n,z∈nR s n (mc s d):=λn=>by
   induction n with
   |zero=>exact hz
   |succ n ih=>exact(rv s).2 (.inl ih)
  exact this _
 induction h<;>grind
def Hx(d:Array Int)(y:Int):∀m,y∈Go.Lib.compactUpTo d m↔∃j,j<m/\d[j]! =y
 |0=>by simp[Go.Lib.compactUpTo]
 |m+1=>by
  rw[Go.Lib.compactUpTo_succ,aq7,Hx d y m];constructor
  .grind
  .rintro⟨j,hj,h⟩
   rcases Nat.lt_succ_iff_lt_or_eq.1 hj with h1|rfl
   .grind
   .by_cases hk:Go.Lib.keeps d j=af
    .grind
    .left
     unfold Go.Lib.keeps at hk
     grind
theorem Hy(l:List Int)(y:Int):y∈arM l↔y∈l:=by
 unfold arM;rw[Hx];constructor
 .grind
 .intro h;obtain⟨j,hj,rfl⟩:=aqZ h;exact⟨j,hj,by simp[hj]⟩
def CU(l:List Int)(hl:l.length<=1000000):Wp ((M.cW aJ l).bind λy1=>(M.dS aJ y1).bind λy2=>aa y2) λr=>r.length<=l.length/\∀y,y∈r↔y∈l:=by
 have e1:M.cW aJ l=aa (ra l):=by
  unfold M.cW Cw;rw[al (by omega)]
 have hs:(ra l).length=l.length:=List.length_mergeSort ..
 have e2:M.dS aJ (ra l)=aa (arM (ra l)):=by
  unfold M.dS sW;rw[al (by omega)]
 rw[e1,aqI,e2];refine .some ⟨?_,λy=>?_⟩
 all_goals grind [Ab,ra,Hy,List.mem_mergeSort]
def tG(l:List Int)(hl:l.length<=1000000):Wp (M.jw aJ l) λr=>r.length<=l.length/\∀y,y∈r↔y∈l:=CU l hl
def Ev(l:List Int)(hl:l.length<=1000000):Wp (M.kC aJ l) λr=>r.length<=l.length/\∀y,y∈r↔y∈l:=CU l hl
def N6(e:List Ty)(y:Int):Prop:=∃n∈e,(n.1:Int)=8/\(n.2:Int)=y
theorem JX(p:Int->Bool)(e:List Ty)(y:Int):y∈jd p e↔∃n∈e,p n.1=af/\(n.2:Int)=y:=by
 unfold jd
 suffices∀(e:List Ty)(l:List Int),y∈e.foldl (λl n=>if p n.1=af then ins n.2 l else l) l↔y∈l\/∃n∈e,p n.1=af/\(n.2:Int)=y by grind
 intro e
 induction e with
 |nil=>intro l;simp
 |cons n e ih=>
  grind [qz]
theorem Hz(e:List Ty)(y:Int):y∈jd lS e↔N6 e y:=by
 grind [JX,N6,lS]
def uQ(e:List Ty)(he:e.length<=100000):Wp (M.jZ aJ e) λr=>r.2.1.length<=e.length/\∀y,y∈r.2.1↔N6 e y:=by
 unfold M.jZ;rw[wp_bind]
 refine Wp.count (λs=>s.1) e.length (λk s=>(s.2.1.length<=k/\s.2.2.1.length<=k/\s.2.2.2.length<=k)/\∀y,y∈s.2.2.1↔∃j,∃h:j<e.length,j<k/\(e[j].1:Int)=8/\(e[j].2:Int)=y) (by omega) rfl ⟨by simp,λy=>by simp⟩ λk s hk hs hJ=>?_
 obtain⟨i,a,b,c⟩:=s;obtain⟨⟨l1,l2,l3⟩,hm⟩:=hJ;dsimp only at hs l1 l2 l3 hm;subst hs;simp only[W_,aw,ax,reduceCtorEq,aS,aR];refine⟨λaI=>?_,λhge=>?_⟩
 .have aI:k<e.length:=by omega
  have nxt:∀b':List Int,(∀y,y∈b'↔y∈b\/((e[k].1:Int)=8/\(e[k].2:Int)=y))->∀y,y∈b'↔∃j,∃h:j<e.length,j<k+1/\(e[j].1:Int)=8/\(e[j].2:Int)=y:=(by grind)
  have same:(e[k].1:Int)≠8->∀y,y∈b↔∃j,∃h:j<e.length,j<k+1/\(e[j].1:Int)=8/\(e[j].2:Int)=y:=(by grind)
  simp only[aF aI,bF (m:=e.length) (by omega) aI,W_,aw,ax,reduceCtorEq]
  have KT:∀(q:List Int)(v:Int)(Q:List Int->Prop),q.length<=k->Q (q++[v])->Wp (cf q [v]) Q:=λq v Q hq h=>lZ.2 ⟨by simp;omega,h⟩
  grind
 .refine(tG a (by omega)).mono λ_ _=>?_
  refine(tG b (by omega)).mono λr hr=>?_
  refine(tG c (by omega)).mono λ_ _=>?_
  grind [N6,aqZ]
def JY(r:jV)(n:Nat)(y:Int):Prop:=(N6 r.2.2.2.2.2.1 y\/N6 r.2.2.2.2.2.2.1 y)/\0<=y/\y<(n:Int)
def LO(l o:List Int)(n:Nat)(hl:l.length<=100000)(ho:o.length<=100000):Wp (Loop (S:=Int×List Int) (X:=List Int) (λs4=>
 (if(decide (s4.1<(l.length:Int)))=af then
 ((idx l s4.1).bind λx6=>
 ((if(decide ((0:Int)<=x6))=af then
 some (decide (x6<(n:Int)))
 else
 some ah):Option (Bool)).bind λj7=>
 (if j7=af then
 (cf s4.2 ([x6]:List Int)).bind λl8=>
 some l8
 else
 some s4.2):Option (List Int)).bind λj5=>
 some (arj (aqJ.wrap (s4.1+(1:Int)),j5))
 else
 some (arc s4.2))) aJ ((0:Int),o)) λr=>r.length<=o.length+l.length/\∀y,y∈r↔y∈o\/(y∈l/\0<=y/\y<(n:Int)):=by
 refine Wp.count (λs=>s.1) l.length (λk s=>s.2.length<=o.length+k/\∀y,y∈s.2↔y∈o\/((∃j,∃h:j<l.length,j<k/\l[j]=y)/\0<=y/\y<(n:Int))) (by omega) rfl ⟨by simp,λy=>by simp⟩ λk s hk hs hJ=>?_
 obtain⟨i,q⟩:=s;obtain⟨h1,hm⟩:=hJ;dsimp only at hs h1 hm;subst hs;simp only[W_,aw,ax,reduceCtorEq,aS,aR];refine⟨λaI=>?_,λhge=>?_⟩
 .have aI:k<l.length:=by omega
  simp only[aF aI,bF (m:=l.length) (by omega) aI,W_,aw,ax,reduceCtorEq]
  grind [lZ]
 .refine⟨by omega,λy=>?_⟩;rw[hm];refine or_congr Iff.rfl (and_congr_left λhy=>⟨(by grind),λh=>?_⟩)
  grind [aqZ]
def N7(r:jV)(n:Nat)(h1:r.2.2.2.2.2.1.length<=50)(h2:r.2.2.2.2.2.2.1.length<=50):Wp (M.ij aJ r (n:Int)) λl=>l.length<=100/\∀y,y∈l↔JY r n y:=by
 unfold M.ij;rw[wp_bind]
 refine(uQ _ (by omega)).mono λa ha=>?_
 rw[wp_bind]
 refine(uQ _ (by omega)).mono λb hb=>?_
 rw[wp_bind]
 refine(LO a.2.1 [] n (by omega) (by simp)).mono λc hc=>?_
 have Ac:=hc.1;simp only[List.length_nil]at Ac
 refine(LO b.2.1 c n (by omega) (by omega)).mono λq hq=>⟨by omega,λy=>?_⟩
 grind [JY]
theorem CV(n:Nat)(y:Int):∀(l out:List Int),y∈oU n out l↔y∈out\/(y∈l/\0<=y/\y<(n:Int))
 |[],out=>by show y∈out↔_;simp
 |x::l,out=>by
  show y∈oU n (if 0<=x/\x<(n:Int)then ins x out else out) l↔_
  rw[CV n y l]
  grind [qz]
def Sb(s:iV)(d y:Int):Dp s d y↔(0<=d/\d<(s.2.2.2.1.length:Int))/\∃r∈s.2.2.2.2,(r.2.1:Int)=d/\JY r s.2.2.2.1.length y:=by
 unfold Dp mc;split
 .rename_i hd
  suffices∀(rs:List jV)(out:List Int),y∈rs.foldl (λout r=>if(r.2.1:Int)=d then oU s.2.2.2.1.length (oU s.2.2.2.1.length out (jd lS r.2.2.2.2.2.1)) (jd lS r.2.2.2.2.2.2.1)else out) out↔y∈out\/∃r∈rs,(r.2.1:Int)=d/\JY r s.2.2.2.1.length y by
   grind
  intro rs
  induction rs with
  |nil=>intro out;simp
  |cons r rs ih=>
   intro out;rw[List.foldl_cons,ih]
   grind [CV,Hz,JY]
 grind
def YJ(s:iV)(L:List (List Int)):Prop:=L.length=s.2.2.2.1.length/\∀d,∀h:d<L.length,L[d].length<=6000/\∀y,y∈L[d]↔Dp s (d:Int) y
theorem wH(s:iV)(hs:jW s):Wp (M.kW aJ s) (YJ s):=by
 have EO:=hs.2.2.1;have UX:=hs.2.2.2.1;have hru:=hs.2.2.2.2.2.2;unfold M.kW;rw[wp_bind];refine sY.2 ⟨by omega,?_⟩;rw[wp_bind,aqR]
 refine Wp.count (λs=>s.1) s.2.2.2.2.length (λk q=>q.2.length=s.2.2.2.1.length/\∀d,∀h:d<q.2.length,q.2[d].length<=100*k/\∀y,y∈q.2[d]↔∃j,∃h:j<s.2.2.2.2.length,j<k/\(s.2.2.2.2[j].2.1:Int)=(d:Int)/\JY s.2.2.2.2[j] s.2.2.2.1.length y) (by omega) rfl ⟨by simp,λd h=>by simp⟩ λk q hk wO hJ=>?_
 obtain⟨i,q⟩:=q;obtain⟨hl,hm⟩:=hJ;dsimp only at wO hl hm;subst wO;simp only[W_,aw,ax,reduceCtorEq,aS,aR];refine⟨λaI=>?_,λhge=>?_⟩
 .have aI:k<s.2.2.2.2.length:=by omega
  have hrk:=hru _ (aqN aI);simp only[aF aI,bF (m:=s.2.2.2.2.length) (by omega) aI,hl,W_,aw,ax,reduceCtorEq]
  have SU:∀d,∀h:d<q.length,(¬(s.2.2.2.2[k].2.1:Int)=(d:Int))->q[d].length<=100*(k+1)/\∀y,y∈q[d]↔∃j,∃h:j<s.2.2.2.2.length,j<k+1/\(s.2.2.2.2[j].2.1:Int)=(d:Int)/\JY s.2.2.2.2[j] s.2.2.2.1.length y:=(by grind)
  have dfo:=N7 s.2.2.2.2[k] s.2.2.2.1.length hrk.2.2.1 hrk.2.2.2
  obtain⟨(v:Int),hv⟩:∃v:Int,v=s.2.2.2.2[k].2.1:=⟨_,rfl⟩
  simp only[<-hv]at SU⊢;refine⟨λh0=>⟨λh1=>?_,λh1=>⟨aI,λd h=>SU d (by omega) λe=>h1 (e▸Int.ofNat_lt.2 h)⟩⟩,λh0=>⟨aI,λd h=>SU d (by omega) (by grind)⟩⟩;obtain⟨c,rfl⟩:=aqV h0
  have hc:c<q.length:=by rw[hl];exact Int.ofNat_lt.1 h1
  simp only[aF hc,W_,aw,ax,reduceCtorEq]
  refine dfo.mono λl9 h9=>lZ.2 ⟨by grind,?_⟩
  refine⟨aI,by rw[kP];exact hl,λd h=>?_⟩
  have hd:d<q.length:=by rw[kP]at h;exact h
  rw[yU h hd]
  by_cases e:(c:Int)=(d:Int)
  .rw[al e]
   have e:c=d:=by omega
   subst e;refine⟨by grind,λy=>?_⟩;rw[aq7,(hm c hd).2,h9.2];constructor
   .rintro(⟨j,h1,h2,h3⟩|h3)
    .grind
    grind
   grind
  .rw[aj e];exact SU d hd e
 obtain rfl:k=s.2.2.2.2.length:=by omega
 have hm2:∀d,∀h:d<q.length,q[d].length<=6000/\∀y,y∈q[d]↔Dp s (d:Int) y:=λd h=>⟨by grind,λy=>by
  rw[(hm d h).2,Sb];constructor
  .grind
  grind [aqZ]⟩
 refine Wp.count (λs=>s.1) q.length (λk z=>z.2.length=q.length/\∀d,∀h:d<z.2.length,z.2[d].length<=6000/\∀y,y∈z.2[d]↔Dp s (d:Int) y) (by omega) rfl ⟨rfl,hm2⟩ λk z hk wO hJ=>?_
 obtain⟨i,z⟩:=z;obtain⟨zl,zm⟩:=hJ;dsimp only at wO zl zm;subst wO;simp only[W_,aw,ax,reduceCtorEq,aS,aR];refine⟨λaI=>?_,λhge=>⟨by grind,zm⟩⟩
 have aI:k<q.length:=by omega
 have hkz:k<z.length:=by omega
 simp only[aF hkz,bF (m:=q.length) (by omega) aI,W_,aw,ax,reduceCtorEq]
 refine(Ev z[k] (by grind)).mono λr hr=>⟨aI,by rw[kP];exact zl,λd h=>?_⟩
 have hd:d<z.length:=by rw[kP]at h;exact h
 rw[yU h hd]
 by_cases e:(k:Int)=(d:Int)
 .grind
 grind
def Sn(seen:List Bool)(y:Int):Prop:=0<=y/\seen[y.toNat]? =aa af
def YK{seen:List Bool}{x:Int}(hx:0<=x/\x.toNat<seen.length)(y:Int):Sn (bn seen x af) y↔y=x\/Sn seen y:=by
 grind [Sn,bn]
structure RI(D:Int->Int->Prop)(d0:Int)(n:Nat)(ex:Int->Prop)(seen:List Bool)(q:List Int):Prop where
 len:seen.length=n
 qo:∀x∈q,0<=x/\x<(n:Int)/\(x=d0\/Sn seen x)
 snd:∀y,Sn seen y->OL D d0 y
 clo:∀x,(x=d0\/Sn seen x)->x∈q\/ex x\/∀y,D x y->Sn seen y
 bud:q.length+seen.count ah<=n+1
def JZ(s:iV)(L:List (List Int))(hL:YJ s L)(d:Nat)(hd:d<s.2.2.2.1.length)(EO:s.2.2.2.1.length<=14):Wp (M.pq aJ L (d:Int)) λr=>r.length<=1000/\∀y,y∈r↔OL (Dp s) (d:Int) y:=by
 obtain⟨hl,hL⟩:=hL
 have hD:∀a b,Dp s a b->0<=b/\b<(s.2.2.2.1.length:Int):=λa b h=>(ld s a).2 b h
 generalize s.2.2.2.1.length=n at*;unfold M.pq;rw[wp_bind];refine sY.2 ⟨by omega,?_⟩;rw[wp_bind,aqR,hl]
 refine Wp.loop (λq=>RI (Dp s) (d:Int) n (λ_=>False) q.1 q.2) (λq=>2*q.1.count ah+q.2.length) ?_ ?_ λq hq=>?_
 .refine⟨by simp,λx hx=>?_,λy hy=>?_,λx hx=>?_,by simp;omega⟩
  .grind
  .exfalso;have:=hy.2
   grind
  .rcases hx with rfl|hx
   .grind
   .exfalso;have:=hx.2
    grind
 .grind [aJ]
 obtain⟨seen,q⟩:=q;dsimp only at hq;dsimp only
 have hcn:∀l:List Bool,l.count ah<=l.length:=λl=>List.count_le_length
 refine Wp.dec (λh0=>?_) λh0=>?_
 .have ZK:0<q.length:=by omega
  obtain⟨x,t,rfl⟩:=List.exists_cons_of_ne_nil (List.length_pos_iff.1 ZK);have hx:=hq.qo x (by simp);obtain⟨c,rfl⟩:=aqV hx.1
  have hc:c<L.length:=by omega
  have i0:idx ((c:Int)::t) (0:Int)=aa (c:Int):=rfl
  have Ij:gD ((c:Int)::t) (1:Int) (((c:Int)::t).length:Int)=aa t:=by
   apply Wp.eq;refine wp_cut.2 ⟨by simp;omega,?_⟩;rw[aqR,ara];rfl
  rw[i0,aqI,Ij,aqI,aF hc,aqI]
  have VL:∀y,Dp s (c:Int) y->OL (Dp s) (d:Int) y:=λy h=>by
   rcases hx.2.2 with e|e
   .exact .one (e▸h)
   .exact .step (hq.snd _ e) h
  have aci:=(hL c hc).2;have EK:=(hL c hc).1;have hb0:=hq.bud;simp only[arh]at hb0;generalize L[c]=l at*
  refine Wp.count (λs=>s.1) l.length (λk z=>RI (Dp s) (d:Int) n (λy=>y=(c:Int)) z.2.1 z.2.2/\(∀j,j<k->∀h:j<l.length,Sn z.2.1 l[j])/\2*z.2.1.count ah+z.2.2.length<=2*seen.count ah+t.length) (by omega) rfl ⟨⟨hq.len,λx hx=>hq.qo x (by simp[hx]),hq.snd,λx hx=>?_,by grind⟩,λj hj=>by omega,aqS _⟩ λk z hk wO hJ=>?_
  .rcases hq.clo x hx with h|h|h
   all_goals grind
  obtain⟨i,sn,qu⟩:=z;obtain⟨hR,hP,hB⟩:=hJ;dsimp only at wO hR hP hB;subst wO;simp only[W_,aw,ax,reduceCtorEq,aS,aR];refine⟨λaI=>?_,λhge=>?_⟩
  .have aI:k<l.length:=by omega
   have hy:Dp s (c:Int) l[k]:=(aci _).1 (aqN aI);have hyr:=hD _ _ hy;simp only[aF aI,bF (m:=l.length) (by omega) aI,W_,aw,ax,reduceCtorEq]
   obtain⟨y,hye⟩:∃y,y=l[k]:=⟨_,rfl⟩
   simp only[<-hye]at hy hyr⊢
   have YH:y.toNat<sn.length:=by rw[hR.len];omega
   refine eZ.2 ⟨by rw[hR.len];omega,λhf=>eZ.2 ⟨by grind,lZ.2 ⟨?_,aI,?_⟩⟩,λht=>⟨aI,hR,eI hP λ_=>?_,hB⟩⟩
   .grind
   .have Sc:=YK (seen:=sn) (x:=y) ⟨hyr.1,YH⟩
    have U2:(bn sn y af).count ah+1=sn.count ah:=by
     unfold bn;rw[List.count_set YH]
     have h1:0<sn.count ah:=(by grind)
     simp[hf];omega
    refine⟨⟨by unfold bn;simp[hR.len],λx hx=>?_,λz hz=>?_,λx hx=>?_,?_⟩,eI (λj hj h=>?_) λh=>?_,?_⟩
    .rcases aq7.1 hx with hx|hx
     .obtain⟨a1,a2,a3⟩:=hR.qo x hx
      grind
     grind
    .rcases(Sc z).1 hz with rfl|hz
     .exact VL _ hy
     .exact hR.snd z hz
    .have go:x=(d:Int)\/Sn sn x->x∈qu++[y]\/x=(c:Int)\/∀z,Dp s x z->Sn (bn sn y af) z:=λg=>by
      rcases hR.clo x g with h|h|h
      all_goals grind
     grind
    .have:=hR.bud;simp;omega
    all_goals grind
   .rw[<-hye];exact⟨hyr.1,by grind⟩
  .obtain rfl:k=l.length:=by omega
   show Cy _ _ _ _ (.inl _)
   refine⟨⟨hR.len,hR.qo,hR.snd,λx hx=>?_,hR.bud⟩,?_⟩
   .rcases hR.clo x hx with h|h|h
    all_goals grind [aqZ]
   grind
 .have ZK:q=[]:=by
   cases q with
   |nil=>rfl
   |cons x t=>simp at h0
  subst ZK;refine .some ?_
  show Wp _ _
  have WT:∀y,Sn seen y↔OL (Dp s) (d:Int) y:=λy=>⟨hq.snd y,λh=>by
   have cl:∀x,(x=(d:Int)\/Sn seen x)->∀z,Dp s x z->Sn seen z:=λx hx=>by
    rcases hq.clo x hx with h|h|h
    all_goals grind
   induction h<;>grind⟩
  have jq:=hq.len
  refine Wp.count (λs=>s.1) seen.length (λk z=>z.2.length<=k/\∀y,y∈z.2↔Sn seen y/\y<(k:Int)) (by omega) rfl ⟨by simp,λy=>⟨λh=>(by cases h),λh=>(by have:=h.1.1;grind)⟩⟩ λk z hk wO hJ=>?_
  obtain⟨i,o⟩:=z;obtain⟨hJ1,hJ⟩:=hJ;dsimp only at wO hJ1 hJ;subst wO;simp only[W_,aw,ax,reduceCtorEq,aS,aR];refine⟨λaI=>?_,λhge=>⟨by omega,λy=>?_⟩⟩
  .have aI:k<seen.length:=by omega
   have Pj:Sn seen (k:Int)↔seen[k]=af:=by
    unfold Sn;rw[aqR,aqK aI];simp
   simp only[aF aI,bF (m:=seen.length) (by omega) aI,W_,aw,ax,reduceCtorEq]
   grind [lZ]
  .rw[hJ,<-WT];refine⟨λh=>h.1,λh=>⟨h,?_⟩⟩;have:=(aqQ.1 h.2).1
   grind
def NN.all(x:iV)(hs:jW x):NN x:=λd hd=>by
 have key:Wp (M.ke aJ x (d:Int)) λtr=>tr.length<=1000/\∀y,y∈tr↔OL (Dp x) (d:Int) y:=by
  unfold M.ke;rw[aj (by simp),aqI,aj (by simp;omega),wp_bind]
  refine(wH x hs).mono λL hL=>?_
  rw[wp_bind]
  exact(JZ x L hL d hd hs.2.2.1).mono λr hr=> .some hr
 obtain⟨tr,e,h1,h2⟩:=key
 grind [LN]
def Vm(l:Lw)(hw:WF cC l)(lU:lf l):M.ln aJ l=aa (uE l):=
 Hc l hw lU (λ_ _=>oW.all _) λx hx=>NN.all x (lU.2.2.2.2.2 x hx)
end L
namespace L
def HA(l:List ByteArray)(h:l.length<=1048576):M.da aJ l=aa l:=by
 unfold M.da;rw[br (by simp;omega),List.nil_append,aqI];split
 .rename_i h0;obtain rfl:=List.length_eq_zero_iff.1 (beq_true h0);exact xF
 .rfl
end L
namespace L
def LP{t:JD}{E:List En}:(og t E).2=0↔t.2.2.2.length<=64/\(mH t.2.1 E.length/\mH t.2.2.1 E.length)/\∀k,∀h:k<t.2.2.2.length,¬sr t.2.2.2[k] t E/\¬∃y∈t.2.2.2.take k,qy y t.2.2.2[k]:=by
 have Qr:∀k e,qK t E k=aa e->e.2≠0:=λk e he=>by
  unfold qK at he;split at he
  .cases he
  split at he
  .cases he;simp
  split at he
  .cases he;simp
  .cases he
 unfold og;by_cases h1:64<t.2.2.2.length
 .rw[al h1]
  exact aA (by decide) λg=>by omega
 rw[aj h1];by_cases h2:¬(mH t.2.1 E.length/\mH t.2.2.1 E.length)
 .rw[al h2]
  exact aA (by decide) λg=>h2 g.2.1
 rw[aj h2]
 have key:dp (qK t E) t.2.2.2.length=ae↔∀k,∀h:k<t.2.2.2.length,¬sr t.2.2.2[k] t E/\¬∃y∈t.2.2.2.take k,qy y t.2.2.2[k]:=by
  rw[bZ]
  refine forall_congr' λk=>⟨λg h=>?_,λg h=>?_⟩
  .have:=g h;unfold qK at this;rw[aqK h]at this;dsimp only at this;split at this
   .cases this
   split at this
   .cases this
   .exact⟨‹_›,‹_›⟩
  .unfold qK;rw[aqK h];dsimp only;rw[aj (g h).1,aj (g h).2]
 cases hf:dp (qK t E) t.2.2.2.length with
 |none=>exact iff_of_true rfl ⟨by omega,arX.1 h2,key.1 hf⟩
 |some e=>
  obtain⟨k,_,he,_⟩:=gS hf
  exact aA (Qr k e he) λg=>by rw[key.2 g.2.2]at hf;cases hf
def sv(rules:List jV):Prop:=∀i,∀h:i<rules.length,(rules[i].2.2.1:Int)= -1\/∃p,∃hp:p<i,(rules[i].2.2.1:Int)=(p:Int)/\((rules[p]'(by omega)).2.1:Int)=rules[i].2.1
def LQ{l:Lw}{x:iV}{k:Nat}{r:jV}:r7 l x k r=0↔mP r.1=af/\¬fh (x.2.2.2.2.take k) r.1/\(0<=(r.2.1:Int)/\(r.2.1:Int)<(x.2.2.2.1.length:Int))/\¬r6 x k r/\
 ¬((r.2.2.2.1:Int)<0\/9<(r.2.2.2.1:Int)\/¬VR r.2.2.2.2.1\/(r.2.2.2.2.1.1:Int)=r.2.2.2.2.1.2)/\D7 x k r.2.1<8/\plain r.2.2.2.2.2.2.2/\
 (0<r.2.2.2.2.2.1.length->rZ r.2.2.2.2.2.1 (dR l x) ((1:Int),(0:Int))=0)/\(match x.2.2.2.1[(r.2.1:Int).toNat]? with
   |some d=>rZ r.2.2.2.2.2.2.1 (dR l x) d.2
   |none=>0)=0:=by
 unfold r7;by_cases h1:mP r.1=ah
 .rw[al h1]
  exact aA (by decide) λg=>by rw[h1]at g;cases g.1
 rw[aj h1];by_cases h2:fh (x.2.2.2.2.take k) r.1
 .rw[al h2]
  exact aA (by decide) λg=>g.2.1 h2
 rw[aj h2];by_cases h3:0<=(r.2.1:Int)/\(r.2.1:Int)<(x.2.2.2.1.length:Int)
 case neg=>
  rw[al h3]
  exact aA (by decide) λg=>h3 g.2.2.1
 rw[aj (λg=>g h3)];by_cases h4:r6 x k r
 .rw[al h4]
  exact aA (by decide) λg=>g.2.2.2.1 h4
 rw[aj h4];by_cases h5:(r.2.2.2.1:Int)<0\/9<(r.2.2.2.1:Int)\/¬VR r.2.2.2.2.1\/(r.2.2.2.2.1.1:Int)=r.2.2.2.2.1.2
 .rw[al h5]
  exact aA (by decide) λg=>g.2.2.2.2.1 h5
 rw[aj h5];by_cases h6:8<=D7 x k r.2.1
 .rw[al h6]
  exact aA (by decide) λg=>by have:=g.2.2.2.2.2.1;omega
 rw[aj h6];by_cases h7:plain r.2.2.2.2.2.2.2
 case neg=>
  rw[al h7]
  exact aA (by decide) λg=>h7 g.2.2.2.2.2.2.1
 rw[aj (λg=>g h7)];by_cases h8:0<r.2.2.2.2.2.1.length/\rZ r.2.2.2.2.2.1 (dR l x) ((1:Int),(0:Int))≠0
 .rw[al h8]
  exact aA h8.2 λg=>h8.2 (g.2.2.2.2.2.2.2.1 h8.1)
 rw[aj h8];exact⟨λg=>⟨by simpa using h1,h2,h3,h4,h5,by omega,h7,λa=>arX.1 λb=>h8 ⟨a,b⟩,g⟩,λg=>g.2.2.2.2.2.2.2.2⟩
def YL{l:Lw}{x:iV}(h:∀i,∀hi:i<x.2.2.2.2.length,r7 l x i x.2.2.2.2[i]=0):sv x.2.2.2.2:=λi hi=>by
 have hb:=(LQ.1 (h i hi)).2.2.2.1;unfold r6 at hb;generalize x.2.2.2.2[i]=r at*;obtain⟨nm,(df:Int),(p:Int),z⟩:=r;dsimp only[aC,Row.den]at*;by_cases h1:p= -1
 .exact .inl h1
 right
 have h2:0<=p:=arX.1 λg=>hb ⟨h1, .inl (by omega)⟩
 have h3:p<(i:Int):=arX.1 λg=>hb ⟨h1, .inr (.inl (by omega))⟩
 obtain⟨q,rfl⟩:=aqV h2;have hq:q<i:=Int.ofNat_lt.1 h3;refine⟨q,hq,rfl,arX.1 λg=>hb ⟨h1, .inr (.inr ⟨_,?_,g⟩)⟩⟩;rw[aqR];exact aqK (by omega)
def Valid.ai3{l:Lw}(h:Valid l)(lU:lf l):ab1 l:=by
 obtain⟨a1,a2,a3,a4,a5,a6⟩:=h.scopes;obtain⟨b1,b2,b3,b4,b5,b6⟩:=lU;refine⟨λe he=>?_,λt ht=>?_,λs hs r hr=>?_,by omega,by omega,by omega,λs hs=>?_⟩
 .have:=(b4 e he).2.1;omega
 .obtain⟨k,hk,rfl⟩:=aqZ ht;have:=a5 k hk;unfold rY at this;rw[aqK hk]at this;dsimp only at this;split at this
  .cases this
  split at this
  .cases this
  split at this
  case isFalse=>cases this
  rename_i h0;have:=(LP.1 h0).1;omega
 .have:=(b6 s hs).2.2.2.2.2.2 r hr;omega
 .have h1:=(b6 s hs).2.1;have h2:=(b6 s hs).2.2.1;have h3:=(b6 s hs).2.2.2.1;omega
end L
namespace L
def wQ(r:Ty)(d:Int):Prop:=VR r/\(r.1:Int)<=d/\d<(r.2:Int)
instance(r:Ty)(d:Int):Decidable (wQ r d):=by unfold wQ;infer_instance
theorem xO(r:Ty)(d:Int):M.bL aJ r d=aa (decide (wQ r d)):=by
 obtain⟨(r1:Int),(r2:Int)⟩:=r;apply Wp.eq;unfold M.bL;simp only[Ec,W_,aw,ax,reduceCtorEq];unfold wQ;dsimp only[aC,Row.den]
 by_cases h:VR ((r1,r2):Ty)<;>simp only[h,W_,aw,ax,reduceCtorEq]
 omega
def N8:Ty:=((0:Int),(109573:Int))
def Sd(rows:List Rw)(d:Int):List Rw:=(rows.filter λx=>decide (wQ x.1 d)).map λx=>(N8,x.2)
def Se{α β:Type}(l:List α)(p:α->Bool)(F:α->β){body:Int×List β->Option ((Int×List β)⊕List β)}(hl:l.length<=4294967295)
 (hb:∀k,∀h:k<l.length,∀o:List β,o.length<=k->body ((k:Int),o)=aa (.inl (aqJ.wrap ((k:Int)+1),if p l[k]=af then o++[F l[k]]else o)))
 (he:∀o:List β,body ((l.length:Int),o)=aa (.inr o)):Loop body aJ ((0:Int),[])=aa ((l.filter p).map F):=by
 have Gw:l.length<aJ:=by unfold aJ;omega
 refine rS (λk=>((k:Int),((l.take k).filter p).map F)) l.length _ (by simp) (λk hk=>?_) (by rw[he,ara]) Gw
 have hle:(((l.take k).filter p).map F).length<=k:=by
  rw[arb];exact Nat.le_trans (List.length_filter_le _ _) (by simp;omega)
 rw[hb k hk _ hle,bF (m:=l.length) (by omega) hk,List.take_add_one,aqK hk];rw[List.filter_append,List.map_append];by_cases h:p l[k]=af
 .rw[al h]
  have:([l[k]]:List α).filter p=[l[k]]:=by simp[h]
  show aa (arj (_,_))=aa (arj (_,_++(List.filter p [l[k]]).map F))
  rw[this];rfl
 .rw[aj h]
  have:([l[k]]:List α).filter p=[]:=by simp[h]
  show aa (arj (_,_))=aa (arj (_,_++(List.filter p [l[k]]).map F))
  rw[this,List.map_nil,List.append_nil]
def J0(t:JD)(d:Int)(hl:t.2.2.2.length<=1048576):M.iR aJ t d=aa (t.1,t.2.1,t.2.2.1,Sd t.2.2.2 d):=by
 unfold M.iR
 have:=Se t.2.2.2 (λx=>decide (wQ x.1 d)) (λx:Rw=>((N8,x.2):Rw)) (body:=λs2=>(if(decide (s2.1<(t.2.2.2.length:Int)))=af then((idx t.2.2.2 s2.1).bind λx4=>(M.bL aJ x4.1 d).bind λy5=>(if y5=af then(M.eW aJ).bind λy6=>(cf s2.2 ([(y6,x4.2)]:List fT.den)).bind λl7=>aa l7 else aa s2.2):Option (List fT.den)).bind λj3=>aa (arj (aqJ.wrap (s2.1+(1:Int)),j3))else aa (arc s2.2))) (by omega)
  (λk hk o ho=>by
    have ea:M.eW aJ=aa N8:=rfl;simp only[jm hk,aF hk,xO,ea,aqI,if_true,br (show o.length+[((N8,t.2.2.2[k].2):Rw)].length<=4294967296 by simp;omega)];by_cases h:wQ t.2.2.2[k].1 d
    .simp only[au h,if_true,aqI]
    .simp only[av h,aqM,if_false,aqI])
  (λo=>by simp only[jD,decide_false,aqM,if_false])
 rw[this];rfl
def eD(d:Int)(c:List Int×List Int×List Int)(r:jV):List Int×List Int×List Int:=
 if wQ r.2.2.2.2.1 d then(c.1++[(c.2.1.length:Int)],c.2.1++[(c.1.length:Int)],c.2.2++[if 0<=(r.2.2.1:Int)/\(r.2.2.1:Int)<(c.1.length:Int)then c.1.getD (r.2.2.1:Int).toNat (-1)else-1])
 else(c.1++[if 0<=(r.2.2.1:Int)/\(r.2.2.1:Int)<(c.1.length:Int)then c.1.getD (r.2.2.1:Int).toNat (-1)else-1],c.2.1,c.2.2)
def iG(d:Int)(rules:List jV):List Int×List Int×List Int:=rules.foldl (eD d) ([],[],[])
def p8(d:Int)(rules:List jV):(iG d rules).1.length=rules.length/\(iG d rules).2.1.length<=rules.length/\(iG d rules).2.2.length=(iG d rules).2.1.length:=by
 unfold iG
 suffices∀(rules:List jV)(c:List Int×List Int×List Int),c.2.2.length=c.2.1.length->(rules.foldl (eD d) c).1.length=c.1.length+rules.length/\(rules.foldl (eD d) c).2.1.length<=c.2.1.length+rules.length/\(rules.foldl (eD d) c).2.2.length=(rules.foldl (eD d) c).2.1.length by simpa using this rules ([],[],[]) rfl
 intro rules
 induction rules with
 |nil=>intro c h;exact⟨rfl,aqS _,h⟩
 |cons r rules ih=>
  intro c h;rw[List.foldl_cons,arh]
  have h1:(eD d c r).1.length=c.1.length+1:=by unfold eD;split<;>simp
  have h2:(eD d c r).2.1.length<=c.2.1.length+1:=by unfold eD;split<;>simp
  have h3:(eD d c r).2.2.length=(eD d c r).2.1.length:=by unfold eD;split<;>simp[h]
  obtain⟨g1,g2,g3⟩:=ih _ h3;exact⟨by omega,by omega,g3⟩
def AW(l:List Int)(m:Nat)(v:Int):bn (l++aqO (m+1) (0:Int)) (l.length:Int) v=(l++[v])++aqO m (0:Int):=by
 unfold bn;rw[aqR,List.set_append_right _ _ (aqS _),Nat.sub_self,List.replicate_succ,List.set_cons_zero];simp
def Sf(l:List Int)(m:Nat)(u v:Int):bn ((l++[u])++aqO m (0:Int)) (l.length:Int) v=(l++[v])++aqO m (0:Int):=by
 unfold bn;rw[aqR,ard,List.set_append_right _ _ (aqS _),Nat.sub_self];simp
def Ew(rules:List jV)(d:Int)(hl:rules.length<=100000):M.gK aJ rules d=aa (d,(iG d rules).2.1,(iG d rules).2.2):=by
 apply Wp.eq;unfold M.gK;rw[wp_bind];refine sY.2 ⟨by omega,?_⟩;rw[aqR]
 refine Wp.count (λs=>s.1) rules.length (λk s=>s.2=(d,(iG d (rules.take k)).1++aqO (rules.length-k) 0,(iG d (rules.take k)).2.1,(iG d (rules.take k)).2.2)) (by omega) rfl (by simp[iG]) λk s hk hs hJ=>?_
 obtain⟨i,s2⟩:=s;dsimp only at hs hJ;subst hs hJ;simp only[W_,aw,ax,reduceCtorEq,aS,aR];refine⟨λaI=>?_,λhge=>?_⟩
 .have aI:k<rules.length:=by omega
  obtain⟨l1,l2,l3⟩:=p8 d (rules.take k)
  have NH:(rules.take k).length=k:=by rw[aq9];omega
  rw[NH]at l1 l2
  have mf:iG d (rules.take (k+1))=eD d (iG d (rules.take k)) rules[k]:=by
   unfold iG;rw[List.take_add_one,aqK aI,List.foldl_append];rfl
  obtain⟨m,hm⟩:∃m,rules.length-k=m+1:=⟨rules.length-k-1,by omega⟩
  have EM:rules.length-(k+1)=m:=by omega
  rw[mf,hm,EM];generalize iG d (rules.take k)=c at*;obtain⟨near,li,pa⟩:=c;dsimp only at l1 l2 l3⊢;subst l1;rw[aF aI];refine .some ?_;generalize rules[near.length]=r at*
  have hc:M.ff aJ r d=aa (decide (wQ r.2.2.2.2.1 d),d):=by
   unfold M.ff;rw[xO,aqI]
  have hw:aqJ.wrap ((near.length:Int)+1)=((near.length+1:Nat):Int):=bF (m:=rules.length) (by omega) aI
  have tail:∀a:Int,a=(if 0<=(r.2.2.1:Int)/\(r.2.2.1:Int)<(near.length:Int)then near.getD (r.2.2.1:Int).toNat (-1)else-1)->
   Wp (idx (near++aqO (m+1) (0:Int)) (near.length:Int)) λ_=>Wp (M.ff aJ r d) λx=>(x.1=af->Wp (idx (bn (near++aqO (m+1) (0:Int)) (near.length:Int) a) (near.length:Int)) λ_=>Wp (cf li [(near.length:Int)]) λx4=>Wp (cf pa [a]) λx5=>near.length<rules.length/\aqJ.wrap ((near.length:Int)+1)=((near.length+1:Nat):Int)/\(x.2,bn (bn (near++aqO (m+1) (0:Int)) (near.length:Int) a) (near.length:Int) (li.length:Int),x4,x5)=(d,(eD d (near,li,pa) r).1++aqO m 0,(eD d (near,li,pa) r).2.1,(eD d (near,li,pa) r).2.2))/\
    (x.1=ah->near.length<rules.length/\aqJ.wrap ((near.length:Int)+1)=((near.length+1:Nat):Int)/\(x.2,bn (near++aqO (m+1) (0:Int)) (near.length:Int) a,li,pa)=(d,(eD d (near,li,pa) r).1++aqO m 0,(eD d (near,li,pa) r).2.1,(eD d (near,li,pa) r).2.2)):=by
   intro a ha;refine eZ.2 ⟨by simp;omega,?_⟩;rw[hc];refine .some ⟨λh=>?_,λh=>?_⟩
   .have h:wQ r.2.2.2.2.1 d:=ao h;refine eZ.2 ⟨by rw[AW];simp;omega,lZ.2 ⟨by simp;omega,lZ.2 ⟨by simp;omega,aI,hw,?_⟩⟩⟩;rw[AW,Sf];unfold eD;rw[al h,ha]
   .have h:¬wQ r.2.2.2.2.1 d:=aq h;refine⟨aI,hw,?_⟩;rw[AW];unfold eD;rw[aj h,ha]
  obtain⟨(p:Int),hp⟩:∃p:Int,p=r.2.2.1:=⟨_,rfl⟩
  simp only[<-hp]at tail⊢;refine⟨λh0=>⟨λh1=>?_,λh1=>tail _ (by rw[aj λg=>h1 g.2])⟩,λh0=>tail _ (by rw[aj λg=>h0 g.1])⟩;obtain⟨c,rfl⟩:=aqV h0;have Ac:c<near.length:=Int.ofNat_lt.1 h1;refine eZ.2 ⟨by simp;omega,tail _ ?_⟩;rw[al ⟨h0,h1⟩];simp only[aqR];rw[aqX Ac];simp[arm,Ac]
 .obtain rfl:k=rules.length:=by omega
  rw[ara]
def N9(d:Int)(rules:List jV)(r:jV):iG d (rules++[r])=eD d (iG d rules) r:=by
 unfold iG;rw[List.foldl_append];rfl
def Zr(rules:List jV)(li:List Int)(b:Nat)(df:Int)(a:Int):Prop:=a= -1\/∃j:Nat,a=(j:Int)/\j<b/\∃i,∃h:i<rules.length,li[j]? =aa (i:Int)/\(rules[i].2.1:Int)=df
structure LR(d:Int)(rules:List jV)(c:List Int×List Int×List Int):Prop where
 near:c.1.length=rules.length
 same:c.2.2.length=c.2.1.length
 nr:∀i,∀h:i<rules.length,∀h':i<c.1.length,Zr rules c.2.1 c.2.1.length rules[i].2.1 c.1[i]
 li:∀j,∀h:j<c.2.1.length,∃i,∃hi:i<rules.length,c.2.1[j]=(i:Int)/\wQ rules[i].2.2.2.2.1 d/\∀h':j<c.2.2.length,Zr rules c.2.1 j rules[i].2.1 c.2.2[j]
 inc:c.2.1.Pairwise (· < ·)
def Zr.more{rules:List jV}{li:List Int}{b b':Nat}{df a:Int}(r:jV)(l':List Int)(hb:b<=b')(h:Zr rules li b df a):Zr (rules++[r]) (li++l') b' df a:=by
 rcases h with h|⟨j,h1,h2,i,hi,h3,h4⟩
 .exact .inl h
 .refine .inr ⟨j,h1,by omega,i,by simp;omega,?_,?_⟩
  .rw[List.getElem?_append_left (aqQ.1 h3).1];exact h3
  .rw[aqX hi];exact h4
def sv.init{rules:List jV}{r:jV}(h:sv (rules++[r])):sv rules:=λi hi=>by
 have:=h i (by simp;omega);rw[aqX hi]at this
 rcases this with g|⟨p,hp,g1,g2⟩
 .exact .inl g
 .refine .inr ⟨p,hp,g1,?_⟩;rw[aqX (show p<rules.length by omega)]at g2;exact g2
def LR.snoc{d:Int}{rules:List jV}{r:jV}{c:List Int×List Int×List Int}(h:LR d rules c)(hp:sv (rules++[r])):LR d (rules++[r]) (eD d c r):=by
 obtain⟨near,li,pa⟩:=c;obtain⟨h1,h2,h3,h4,h5⟩:=h;dsimp only at h1 h2 h3 h4 h5
 have last:(rules++[r])[rules.length]'(by simp)=r:=by simp
 have YM:Zr rules li li.length r.2.1 (if 0<=(r.2.2.1:Int)/\(r.2.2.1:Int)<(near.length:Int)then near.getD (r.2.2.1:Int).toNat (-1)else-1):=by
  have:=hp rules.length (by simp);rw[last]at this
  rcases this with g|⟨p,rF,g1,g2⟩
  .rw[aj (λq=>by rw[g]at q;exact absurd q.1 (by decide))];exact .inl rfl
  .have Da:near.length=rules.length:=h1;rw[g1,al ⟨Int.natCast_nonneg p,Int.ofNat_lt.2 (by omega)⟩,aqR];rw[aqX rF]at g2
   have hpn:p<near.length:=by omega
   have:=h3 p rF hpn;rw[g2]at this;simpa[arm,hpn]using this
 have aI:∀x∈li,x<(rules.length:Int):=λx hx=>by
  obtain⟨j,hj,rfl⟩:=aqZ hx;obtain⟨i,hi,e,_⟩:=h4 j hj;omega
 unfold eD;dsimp only;generalize(if 0<=(r.2.2.1:Int)/\(r.2.2.1:Int)<(near.length:Int)then near.getD (r.2.2.1:Int).toNat (-1)else-1)=a at YM⊢;by_cases eJ:wQ r.2.2.2.2.1 d
 .rw[al eJ];refine⟨by simp[h1],by simp[h2],λi hi jn=>?_,λj hj=>?_,?_⟩
  .dsimp only at jn⊢;by_cases e:i<rules.length
   .rw[aqX e,aqX (show i<near.length by omega)];exact(h3 i e (by omega)).more r [_] (by simp)
   .obtain rfl:i=rules.length:=by simp at hi;omega
    rw[last]
    have:(near++[(li.length:Int)])[rules.length]'jn=(li.length:Int):=by
     rw[are (by omega)];simp
    rw[this];exact .inr ⟨li.length,rfl,by simp,rules.length,by simp,by simp[h1],by rw[last]⟩
  .dsimp only at hj⊢;by_cases e:j<li.length
   .obtain⟨i,hi,g1,g2,g3⟩:=h4 j e;refine⟨i,by simp;omega,by rw[aqX e];exact g1,by rw[aqX hi];exact g2,λh'=>?_⟩;rw[aqX hi,aqX (show j<pa.length by omega)];exact(g3 (by omega)).more r [_] (aqS _)
   .obtain rfl:j=li.length:=by simp at hj;omega
    refine⟨rules.length,by simp,by rw[are (by omega)];simp[h1],by rw[last];exact eJ,λh'=>?_⟩;rw[last]
    have:(pa++[a])[li.length]? =aa a:=by rw[<-h2];simp
    have:=(aqQ.1 this).2;rw[this];exact YM.more r [_] (aqS _)
  .exact List.pairwise_append.2 ⟨h5,List.pairwise_singleton ..,λx hx y hy=>by
    rw[aq5.1 hy];have:=aI x hx;have Da:near.length=rules.length:=h1
    show x<(near.length:Int)
    omega⟩
 .rw[aj eJ];refine⟨by simp[h1],h2,λi hi jn=>?_,λj hj=>?_,h5⟩
  .dsimp only at jn⊢;by_cases e:i<rules.length
   .rw[aqX e,aqX (show i<near.length by omega)];have:=(h3 i e (by omega)).more r [] (aqS _)
    rwa [List.append_nil]at this
   .obtain rfl:i=rules.length:=by simp at hi;omega
    rw[last]
    have:(near++[a])[rules.length]? =aa a:=by rw[<-h1];simp
    have:=(aqQ.1 this).2;rw[this];have:=YM.more r [] (aqS _)
    rwa [List.append_nil]at this
  .dsimp only at hj⊢;obtain⟨i,hi,g1,g2,g3⟩:=h4 j hj;refine⟨i,by simp;omega,g1,by rw[aqX hi];exact g2,λh'=>?_⟩;rw[aqX hi];have:=(g3 h').more r [] (aqS _)
   rwa [List.append_nil]at this
def Ey(d:Int):∀(n:Nat)(rules:List jV),rules.length=n->sv rules->LR d rules (iG d rules)
 |0,rules,hn,_=>by
  obtain rfl:=List.length_eq_zero_iff.1 hn;exact⟨rfl,rfl,λi h=>absurd h (by simp),λj h=>absurd h (by simp[iG]), .nil⟩
 |n+1,rules,hn,hp=>by
  obtain⟨rs,r,rfl⟩:∃rs r,rules=rs++[r]:=by
   have dG:rules≠[]:=λe=>by rw[e]at hn;cases hn
   exact⟨rules.dropLast,rules.getLast dG,(List.dropLast_concat_getLast dG).symm⟩
  rw[N9];exact(Ey d n rs (by simpa using hn) hp.init).snoc hp
def wI(l:List Ty)(h:l.length<=1048576):M.aL aJ l=aa l:=by
 unfold M.aL;rw[br (by simp;omega),List.nil_append,aqI];split
 .rename_i h0;obtain rfl:=List.length_eq_zero_iff.1 (beq_true h0);exact xF
 .rfl
def uR(l:List Fd)(h:l.length<=1048576):M.bJ aJ l=aa l:=by
 unfold M.bJ;rw[br (by simp;omega),List.nil_append,aqI];split
 .rename_i h0;obtain rfl:=List.length_eq_zero_iff.1 (beq_true h0);exact xF
 .rfl
def HB(r:jV)(p:Int):jV:=(r.1,(r.2.1,(p,(r.2.2.2.1,(N8,(r.2.2.2.2.2.1,(r.2.2.2.2.2.2.1,r.2.2.2.2.2.2.2)))))))
def yp(rules:List jV)(p:Int×Int):jV:=HB (rules[p.1.toNat]?.getD (⟨#[]⟩,((0:Int),((0:Int),((0:Int),(((0:Int),(0:Int)),([],([],⟨#[]⟩)))))))) p.2
def fY(rules:List jV)(d:Int):List jV:=((iG d rules).2.1.zip (iG d rules).2.2).map (yp rules)
def J1(x:iV)(d:Int)(hs:jW x)(hp:sv x.2.2.2.2):M.iS aJ x d=aa (x.1,x.2.1,x.2.2.1,x.2.2.2.1,fY x.2.2.2.2 d):=by
 have UX:=hs.2.2.2.1;have EO:=hs.2.1;have aiB:=hs.2.2.1;have hru:=hs.2.2.2.2.2.2;unfold M.iS;rw[Ew _ _ (by omega),aqI,uR _ (by omega),uR _ (by omega)];have sB:=Ey d _ x.2.2.2.2 rfl hp;have hlen:=p8 d x.2.2.2.2;unfold fY;generalize iG d x.2.2.2.2=c at*;obtain⟨near,li,pa⟩:=c;have lU:pa.length=li.length:=sB.same;have G5:=sB.li;dsimp only at hlen G5⊢
 have hz:(li.zip pa).length=li.length:=by rw[List.length_zip];omega
 have:=Lm (li.zip pa) (yp x.2.2.2.2) (body:=λs3=>(if(decide (s3.1<(li.length:Int)))=af then(idx li s3.1).bind λx4=>(idx x.2.2.2.2 x4).bind λx5=>(idx pa s3.1).bind λx6=>(M.eW aJ).bind λy7=>(M.aL aJ x5.2.2.2.2.2.1).bind λy8=>(M.aL aJ x5.2.2.2.2.2.2.1).bind λy9=>(cf s3.2 ([(x5.1,(x5.2.1,(x6,(x5.2.2.2.1,(y7,(y8,(y9,x5.2.2.2.2.2.2.2)))))))]:List cm.den)).bind λl10=>aa (arj (aqJ.wrap (s3.1+(1:Int)),l10))else aa (arc s3.2))) (by omega)
  (λk hk o ho=>by
    have If:k<li.length:=by omega
    have hkp:k<pa.length:=by omega
    obtain⟨i,hi,e1,_⟩:=G5 k If;have ea:M.eW aJ=aa N8:=rfl;have hri:=hru _ (aqN hi);simp only[jm If,aF If,e1,aF hi,aF hkp,ea,wI _ (show x.2.2.2.2[i].2.2.2.2.2.1.length<=1048576 by omega),wI _ (show x.2.2.2.2[i].2.2.2.2.2.2.1.length<=1048576 by omega),aqI,if_true];rw[br (by simp;omega),aqI,List.getElem_zip,e1];unfold yp HB
    simp only[aqR,aqK hi,arn])
  (λo=>by rw[hz];simp only[jD,decide_false,aqM,if_false])
 rw[this];rfl
def HC(t:JD)(d:Int):JD:=(t.1,(t.2.1,(t.2.2.1,Sd t.2.2.2 d)))
def yq(x:iV)(d:Int):iV:=(x.1,(x.2.1,(x.2.2.1,(x.2.2.2.1,fY x.2.2.2.2 d))))
def HD(l:Lw)(d:Int)(hm:ab1 l)(lU:lf l)(hp:∀x∈l.2.2,sv x.2.2.2.2):M.kf aJ l d=aa (l.1,l.2.1.map (HC · d),l.2.2.map (yq · d)):=by
 have h1:=hm.en';have h2:=hm.tb';have h3:=hm.sc';unfold M.kf
 have e1:Loop (S:=Int×List b9.den) (X:=List b9.den) (λs2=>(if(decide (s2.1<(l.1.length:Int)))=af then(idx l.1 s2.1).bind λx3=>(M.da aJ x3.2).bind λy4=>(cf s2.2 ([(x3.1,y4)]:List b9.den)).bind λl5=>aa (arj (aqJ.wrap (s2.1+(1:Int)),l5))else aa (arc s2.2))) aJ ((0:Int),([]:List b9.den))=aa l.1:=by
  have:=Lm (l:=l.1) (F:=λx:En=>x) (body:=λs2=>(if(decide (s2.1<(l.1.length:Int)))=af then(idx l.1 s2.1).bind λx3=>(M.da aJ x3.2).bind λy4=>(cf s2.2 ([(x3.1,y4)]:List b9.den)).bind λl5=>aa (arj (aqJ.wrap (s2.1+(1:Int)),l5))else aa (arc s2.2))) (by omega)
   (λk hk o ho=>by simp only[jm hk,aF hk,HA _ (hm.en _ (aqN hk)),aqI,if_true,br (show o.length+[l.1[k]].length<=4294967296 by simp;omega)])
   (λo=>by simp only[jD,decide_false,aqM,if_false])
  rw[List.map_id']at this;exact this
 rw[e1,aqI]
 have e2:=G8 l.2.1 (HC · d) (λi o=>((i,l.1,o):Int×(List b9.den)×List aP.den)) (λo=>(l.1,o)) (body:=λs7=>(if(decide (s7.1<(l.2.1.length:Int)))=af then(idx l.2.1 s7.1).bind λx8=>(M.iR aJ x8 d).bind λy9=>(cf s7.2.2 ([(y9.1,(y9.2.1,(y9.2.2.1,y9.2.2.2)))]:List aP.den)).bind λl10=>aa (arj (aqJ.wrap (s7.1+(1:Int)),s7.2.1,l10))else aa (arc (s7.2.1,s7.2.2)))) (by omega)
  (λk hk o ho=>by
    simp only[jm hk,aF hk,J0 _ d (hm.tb _ (aqN hk)),aqI,if_true];rw[br (by simp;omega),aqI]
    rfl)
  (λo=>by simp only[jD,decide_false,aqM,if_false])
 rw[e2,aqI]
 have e3:=G8 l.2.2 (yq · d) (λi o=>((i,l.1,l.2.1.map (HC · d),o):Int×(List b9.den)×(List aP.den)×List bg.den)) (λo=>(l.1,l.2.1.map (HC · d),o)) (body:=λVn=>(if(decide (Vn.1<(l.2.2.length:Int)))=af then(idx l.2.2 Vn.1).bind λYG=>(M.iS aJ YG d).bind λAz=>(cf Vn.2.2.2 ([(Az.1,(Az.2.1,(Az.2.2.1,(Az.2.2.2.1,Az.2.2.2.2))))]:List bg.den)).bind λl15=>aa (arj (aqJ.wrap (Vn.1+(1:Int)),Vn.2.1,Vn.2.2.1,l15))else aa (arc (Vn.2.1,Vn.2.2.1,Vn.2.2.2)))) (by omega)
  (λk hk o ho=>by
    have hx:=aqN hk;simp only[jm hk,aF hk,J1 _ d (lU.2.2.2.2.2 _ hx) (hp _ hx),aqI,if_true];rw[br (by simp;omega),aqI]
    rfl)
  (λo=>by simp only[jD,decide_false,aqM,if_false])
 rw[e3];rfl
structure Kept(rules:List jV)(d:Int)(j:Nat)(y:jV)(i:Nat):Prop where
 lt:i<rules.length
 at_:(iG d rules).2.1[j]? =aa (i:Int)
 rul:∃p,y=HB (rules[i]'lt) p/\(p= -1\/∃q:Nat,p=(q:Int)/\q<j/\∃i',∃h:i'<rules.length,(iG d rules).2.1[q]? =aa (i':Int)/\(rules[i'].2.1:Int)=(rules[i]'lt).2.1)
def qC(rules:List jV)(d:Int):(fY rules d).length=(iG d rules).2.1.length:=by
 have:=(p8 d rules).2.2;unfold fY;rw[arb,List.length_zip];omega
def J2{rules:List jV}(d:Int)(hp:sv rules){j:Nat}(h:j<(fY rules d).length):∃i,Kept rules d j (fY rules d)[j] i:=by
 have sB:=Ey d _ rules rfl hp;have hl:=qC rules d
 have hj:j<(iG d rules).2.1.length:=by omega
 have EL:j<(iG d rules).2.2.length:=by have:=sB.same;omega
 obtain⟨i,hi,e,_,ha⟩:=sB.li j hj
 have ez:(fY rules d)[j]=yp rules ((iG d rules).2.1[j],(iG d rules).2.2[j]):=by
  have hz:j<((iG d rules).2.1.zip (iG d rules).2.2).length:=by rw[List.length_zip];omega
  show(((iG d rules).2.1.zip (iG d rules).2.2).map (yp rules))[j]'(by simpa using hz)=_
  rw[List.getElem_map,List.getElem_zip]
 have er:(fY rules d)[j]=HB rules[i] ((iG d rules).2.2[j]):=by
  rw[ez,e];unfold yp;simp only[aqR,aqK hi,arn]
 exact⟨i,hi,by rw[aqK hj,e],_,er,ha EL⟩
def HE{rules:List jV}(d:Int)(hp:sv rules){y:jV}(h:y∈fY rules d):∃r∈rules,∃p:Int,y=HB r p/\-1<=p/\p<(rules.length:Int):=by
 obtain⟨j,hj,rfl⟩:=aqZ h;obtain⟨i,hk⟩:=J2 d hp hj;obtain⟨p,e,hpp⟩:=hk.rul;refine⟨_,aqN hk.lt,p,e,?_⟩;have h1:=qC rules d;have h2:=(p8 d rules).2.1
 rcases hpp with rfl|⟨q,rfl,hq,_⟩<;>omega
end L
namespace L
noncomputable def uS:List bg.den:=(M.pt aJ ([((3:Int),(100:Int)),((3:Int),(200:Int)),((11:Int),(0:Int))]:List aD.den)).getD []
noncomputable def tH:Lw:=(([]:List b9.den),(([]:List aP.den),uS))
def Vo:M.pt aJ ([((3:Int),(100:Int)),((3:Int),(200:Int)),((11:Int),(0:Int))]:List aD.den)=aa uS:=by kernel_rfl
def J3:M.kf aJ tH 0=aa (tH.1,tH.2.1.map (HC · 0),tH.2.2.map (yq · 0)):=by
 have e1:(uS.map λx=>decide (x.1.size<=80/\x.2.2.1.length=1/\x.2.2.2.1.length=1/\x.2.2.2.2.length=1))=[af]:=by kernel_rfl
 have e2:(uS.map λx=>x.2.2.1.map λf=>decide (f.1.size<=80))=[[af]]:=by kernel_rfl
 have e3:(uS.map λx=>x.2.2.2.1.map λf=>decide (f.1.size<=80))=[[af]]:=by kernel_rfl
 have e4:(uS.map λx=>x.2.2.2.2.map λr=>decide (r.1.size<=80/\r.2.2.2.2.2.2.2.size<=80/\r.2.2.2.2.2.1.length<=50/\r.2.2.2.2.2.2.1.length<=50/\(r.2.2.1:Int)= -1))=[[af]]:=by kernel_rfl
 obtain⟨x,hx⟩:∃x,uS=[x]:=by
  have:=ay List.length e1;rw[arb]at this;exact asa.1 this
 have hL:tH=(([]:List b9.den),(([]:List aP.den),[x])):=by unfold tH;rw[hx]
 rw[hx]at e1 e2 e3 e4;simp only[List.map_cons,List.map_nil,arE,and_true,az]at e1 e2 e3 e4;obtain⟨a1,a2,a3,a4⟩:=e1;obtain⟨f,hf⟩:=asa.1 a2;obtain⟨g,hg⟩:=asa.1 a3;obtain⟨r,hr⟩:=asa.1 a4;rw[hf]at e2;rw[hg]at e3;rw[hr]at e4;simp only[List.map_cons,List.map_nil,arE,and_true,az]at e2 e3 e4;obtain⟨b1,b2,b3,b4,b5⟩:=e4
 have hp:∀y∈tH.2.2,sv y.2.2.2.2:=λy hy=>by
  rw[hL]at hy;rw[aq5.1 hy];intro i hi;rw[hr]at hi
  have e:i=0:=by simp at hi;omega
  subst e
  left
  simp only[hr,List.getElem_cons_zero];exact b5
 refine HD tH 0 ?_ ?_ hp
 .rw[hL];refine⟨λe he=>(by cases he),λe he=>(by cases he),λs hs r' Db=>?_,by simp,by simp,by simp,λs hs=>?_⟩
  .rw[aq5.1 hs,hr]at Db;rw[aq5.1 Db];exact⟨by omega,by omega⟩
  .rw[aq5.1 hs];exact⟨by omega,by omega,by omega⟩
 .rw[hL];refine⟨by simp,by simp,by simp,λe he=>(by cases he),λe he=>(by cases he),λs hs=>?_⟩;rw[aq5.1 hs];refine⟨a1,by omega,by omega,by omega,λy hy=>?_,λy hy=>?_,λy hy=>?_⟩
  .rw[hf]at hy;rw[aq5.1 hy];exact e2
  .rw[hg]at hy;rw[aq5.1 hy];exact e3
  .rw[hr]at hy;rw[aq5.1 hy];exact⟨b1,b2,b3,b4⟩
noncomputable def HF:List jV×List Int×List (List Ty)×List (List Ty):=((yq (uS.headD (⟨#[]⟩,((0:Int),([],([],[]))))) 0).2.2.2.2,[0],[[]],[[((3:Int),(300:Int))]])
def AX:M.dA aJ tH 0 0=aa HF:=by
 unfold M.dA;rw[J3]
 show(_:Option (List jV×List Int×List (List Ty)×List (List Ty)))=_
 kernel_rfl
def Ez:M.cX aJ tH 0 0=aa (uS.headD (⟨#[]⟩,((0:Int),([],([],[])))),(HF.2.1,(HF.1,(HF.2.2.1,HF.2.2.2))),[0]):=by
 unfold M.cX;rw[AX]
 kernel_rfl
def Vp:M.oM aJ=aa af:=by
 unfold M.oM;rw[Vo,aqI];have e:(([]:List b9.den),(([]:List aP.den),uS))=tH:=rfl;rw[e];unfold M.n7 M.lz;rw[AX,Ez]
 show(_:Option Bool)=_
 kernel_rfl
end L
namespace L
def mI(l:List Int)(i:Nat):Int:=l.getD i 0
def par(i:Nat):Nat:=(i-1)/2
def vv(l:List Int)(n:Nat):Prop:=∀k,0<k->k<n->mI l (par k)<=mI l k
def swp(l:List Int)(i j:Nat):List Int:=(l.set i (mI l j)).set j (mI l i)
def tI{l:List Int}{i:Nat}(h:i<l.length):mI l i=l[i]:=by unfold mI;simp[h]
def LS(l:List Int)(i k:Nat)(v:Int)(h:i<l.length):mI (l.set i v) k=if k=i then v else mI l k:=by
 unfold mI;rw[List.getD_eq_getElem?_getD,List.getD_eq_getElem?_getD,List.getElem?_set];by_cases e:k=i
 .rw[al e.symm,al h,al e];rfl
 .rw[aj (λg=>e g.symm),aj e]
def uy(l:List Int)(i j:Nat):(swp l i j).length=l.length:=by unfold swp;simp
def qP(l:List Int)(i j k:Nat)(hi:i<l.length)(hj:j<l.length):mI (swp l i j) k=if k=j then mI l i else if k=i then mI l j else mI l k:=by
 unfold swp;rw[LS _ _ _ _ (by simpa using hj),LS _ _ _ _ hi]
def AY(l:List Int)(i j:Nat)(hi:i<l.length)(hj:j<l.length):(swp l i j).Perm l:=by
 rw[List.perm_iff_count];intro x;unfold swp;rw[List.count_set (by simpa using hj),List.count_set hi,tI hi,tI hj,List.getElem_set]
 have h1:(if(l[i]==x)=af then 1 else 0)<=l.count x:=by
  split
  .rename_i h;exact List.count_pos_iff.2 (by rw[beq_iff_eq]at h;rw[<-h];exact aqN hi)
  .exact aq2 _
 by_cases e:i=j
 .subst e;simp only[if_true];omega
 .rw[aj e];omega
def swap_eq(l:List Int)(i j:Nat)(hi:i<l.length)(hj:j<l.length):M.dL aJ (i:Int) (j:Int) l=aa (swp l i j):=by
 unfold M.dL;simp only[aF hi,aF hj,aqI];rw[aF (show j<(bn l (i:Int) l[j]).length by unfold bn;simpa using hj),aqI];unfold swp bn;rw[tI hi,tI hj,aqR,aqR]
def EA(l:List Int)(i j:Nat)(hi:i<l.length)(hj:j<l.length):M.fl aJ l (i:Int) (j:Int)=aa (decide (mI l i<mI l j)):=by
 unfold M.fl;rw[aF hi,aF hj,tI hi,tI hj];rfl
def YN(l:List Int)(j:Nat):Prop:=(∀k,0<k->k<l.length->k≠j->mI l (par k)<=mI l k)/\(0<j->∀k,0<k->k<l.length->par k=j->mI l (par j)<=mI l k)
def oj{k:Nat}(h:0<k):par k<k:=by unfold par;omega
def YN.done{l:List Int}{i:Nat}(h:YN l i)(hi:i=0\/mI l (par i)<=mI l i):vv l l.length:=λk h0 hk=>by
 by_cases e:k=i
 .subst e
  rcases hi with hi|hi
  .omega
  .exact hi
 .exact h.1 k h0 hk e
def YN.step{l:List Int}{i:Nat}(h:YN l i)(h0:0<i)(hi:i<l.length)(aI:mI l i<mI l (par i)):YN (swp l (par i) i) (par i):=by
 have hp:=oj h0
 have rF:par i<l.length:=by omega
 obtain⟨h1,h2⟩:=h;have h2:=h2 h0;refine⟨λk k0 hk dG=>?_,λp0 k k0 hk xk=>?_⟩
 .rw[uy]at hk;rw[qP _ _ _ _ rF hi,qP _ _ _ _ rF hi];have xk:=oj k0;by_cases e:k=i
  .subst e;rw[aj (by omega),al rfl,al rfl];omega
  .rw[aj e,aj dG];by_cases e2:par k=i
   .rw[al e2];exact h2 k k0 hk e2
   .rw[aj e2];by_cases e3:par k=par i
    .rw[al e3];have:=h1 k k0 hk e;rw[e3]at this;omega
    .rw[aj e3];exact h1 k k0 hk e
 .rw[uy]at hk;rw[qP _ _ _ _ rF hi,qP _ _ _ _ rF hi];have hpp:=oj p0;have hup:=h1 (par i) p0 rF (by omega);rw[aj (by omega),aj (by omega)];by_cases e:k=i
  .subst e;rw[al rfl];exact hup
  .have hkp:k≠par i:=λe2=>by
    rw[e2]at xk;omega
   rw[aj e,aj hkp];have:=h1 k k0 hk e;rw[xk]at this;omega
def YO{i:Nat}(h0:0<i)(hi:i<=1000000):aqJ.wrap (aqW (aqJ.wrap ((i:Int)-(1:Int))) (2:Int))=((par i:Nat):Int):=by
 rw[aH (n:=(i:Int)-1) (by omega) (by omega),aq0 (by omega)];unfold par;rw[aH (by omega) (by omega)];omega
def ack(l:List Int)(j:Nat)(hj:j<l.length)(hl:l.length<=1000000)(hU:YN l j):Wp (M.iQ aJ (j:Int) l) λr=>r.Perm l/\vv r r.length:=by
 unfold M.iQ
 refine Wp.loop (λs=>∃i:Nat,s.1=(i:Int)/\i<s.2.length/\s.2.Perm l/\YN s.2 i) (λs=>s.1.toNat) ⟨j,rfl,hj, .refl l,hU⟩ (by show(j:Int).toNat<aJ;unfold aJ;omega) λs hs=>?_
 obtain⟨c,q⟩:=s;obtain⟨i,hc,hi,hp,hu⟩:=hs;dsimp only at hc hi hp hu;subst hc;have hlen:=hp.length_eq;dsimp only;by_cases h0:i=0
 .subst h0
  have e:aqJ.wrap (aqW (aqJ.wrap (((0:Nat):Int)-(1:Int))) (2:Int))=((0:Nat):Int):=by decide
  rw[e,al (au rfl),aqI,al rfl];exact .some ⟨hp,hu.done (.inl rfl)⟩
 .have rF:=oj (show 0<i by omega);rw[YO (by omega) (by omega),aj (by rw[az];omega),EA _ _ _ hi (by omega),aqI,aqI];by_cases aI:mI q i<mI q (par i)
  .rw[aj (by simpa using aI),swap_eq _ _ _ (by omega) hi,aqI];refine .some ⟨⟨par i,rfl,by show par i<(swp q (par i) i).length;rw[uy];omega,(AY q _ _ (by omega) hi).trans hp,hu.step (by omega) hi aI⟩,?_⟩
   show((par i:Nat):Int).toNat<((i:Nat):Int).toNat
   omega
  .rw[al (by simpa using aI)];exact .some ⟨hp,hu.done (.inr (by omega))⟩
def Wx(l:List Int)(i n:Nat):Prop:=(∀k,0<k->k<n->par k≠i->mI l (par k)<=mI l k)/\(0<i->∀k,0<k->k<n->par k=i->mI l (par i)<=mI l k)
def Wx.done{l:List Int}{i n:Nat}(h:Wx l i n)(hi:∀k,0<k->k<n->par k=i->mI l i<=mI l k):vv l n:=λk h0 hk=>by
 by_cases e:par k=i
 .rw[e];exact hi k h0 hk e
 .exact h.1 k h0 hk e
def Wx.step{l:List Int}{i j n:Nat}(h:Wx l i n)(hj0:0<j)(hjn:j<n)(hn:n<=l.length)(hpj:par j=i)(aI:mI l j<mI l i)(EB:∀k,0<k->k<n->par k=i->mI l j<=mI l k):Wx (swp l i j) j n:=by
 have hp:=oj hj0
 have BA:i<l.length:=by omega
 have xc:j<l.length:=by omega
 obtain⟨h1,h2⟩:=h;refine⟨λk k0 hk dG=>?_,λ_ k k0 hk xk=>?_⟩
 .rw[qP _ _ _ _ BA xc,qP _ _ _ _ BA xc,aj dG];by_cases e:k=j
  .subst e;rw[al hpj,al rfl];omega
  .rw[aj e];by_cases e2:k=i
   .subst e2;have xk:=oj k0;rw[aj (by omega),al rfl];exact h2 k0 j hj0 hjn hpj
   .rw[aj e2];by_cases e3:par k=i
    .rw[al e3];exact EB k k0 hk e3
    .rw[aj e3];exact h1 k k0 hk e3
 .have hkp:=oj k0;rw[qP _ _ _ _ BA xc,qP _ _ _ _ BA xc,hpj,aj (by omega),al rfl,aj (by omega),aj (by omega)];have:=h1 k k0 hk (by omega);rw[xk]at this;exact this
def Vq(l:List Int)(n:Nat)(hn:n<=l.length)(hl:l.length<=1000000)(hD:Wx l 0 n):Wp (M.gJ aJ (0:Int) (n:Int) l) λr=>r.2.Perm l/\vv r.2 n/\∀k,n<=k->mI r.2 k=mI l k:=by
 unfold M.gJ;rw[wp_bind]
 refine(?_:Wp _ λr=>r.2.Perm l/\vv r.2 n/\∀k,n<=k->mI r.2 k=mI l k).mono λr hr=> .some hr
 refine Wp.loop (λs=>∃i:Nat,s.1=(i:Int)/\i<=n/\s.2.Perm l/\Wx s.2 i n/\∀k,n<=k->mI s.2 k=mI l k) (λs=>n-s.1.toNat) ⟨0,rfl,aq2 _, .refl l,hD,λ_ _=>rfl⟩ (by show n-_<aJ;unfold aJ;omega) λs hs=>?_
 obtain⟨c,q⟩:=s;obtain⟨i,hc,hi,hp,hu,hk⟩:=hs;dsimp only at hc hi hp hu hk;subst hc;have hlen:=hp.length_eq;dsimp only
 have e1:aqJ.wrap (aqJ.wrap ((2:Int)*(i:Int))+(1:Int))=((2*i+1:Nat):Int):=by
  rw[aH (n:=(2:Int)*(i:Int)) (by omega) (by omega),aH (by omega) (by omega)];omega
 have e2:aqJ.wrap (((2*i+1:Nat):Int)+(1:Int))=((2*i+2:Nat):Int):=by
  rw[aH (by omega) (by omega)];omega
 rw[e1,e2];by_cases h1:n<=2*i+1
 .rw[al (by rw[az];omega),aqI,al rfl];exact .some ⟨hp,hu.done λk k0 Bb xk=>by unfold par at xk;omega,hk⟩
 rw[aj (by rw[az];omega),aqI,aj (by rw[az];omega)]
 have key:∀j:Nat,0<j->j<n->par j=i->(∀k,0<k->k<n->par k=i->mI q j<=mI q k)->Wp ((M.fl aJ q (j:Int) (i:Int)).bind λy7=>
  (if(!y7)=af then
  some (arc ((i:Int),q))
  else
  (M.dL aJ (i:Int) (j:Int) q).bind λy8=>
  some (arj ((j:Int),y8)))) (Cy (λs:Int×List Int=>∃i:Nat,s.1=(i:Int)/\i<=n/\s.2.Perm l/\Wx s.2 i n/\∀k,n<=k->mI s.2 k=mI l k) (λs=>n-s.1.toNat) ((i:Int),q) λr:Int×List Int=>r.2.Perm l/\vv r.2 n/\∀k,n<=k->mI r.2 k=mI l k):=λj j0 hj hpj EB=>by
  have:=oj j0;rw[EA _ _ _ (by omega) (by omega),aqI];by_cases aI:mI q j<mI q i
  .rw[aj (by simpa using aI),swap_eq _ _ _ (by omega) (by omega),aqI];refine .some ⟨⟨j,rfl,by omega,(AY q _ _ (by omega) (by omega)).trans hp,hu.step j0 hj (by omega) hpj aI EB,λk Bb=>?_⟩,?_⟩
   .show mI (swp q i j) k=mI l k
    rw[qP _ _ _ _ (by omega) (by omega),aj (by omega),aj (by omega)];exact hk k Bb
   .show n-((j:Nat):Int).toNat<n-((i:Nat):Int).toNat
    omega
  .rw[al (by simpa using aI)];exact .some ⟨hp,hu.done λk k0 Bb xk=>by have:=EB k k0 Bb xk;omega,hk⟩
 have kids:∀k,0<k->k<n->par k=i->k=2*i+1\/k=2*i+2:=λk k0 _ xk=>by unfold par at xk;omega
 by_cases h2:2*i+2<n
 .rw[al (by rw[az];omega),EA _ _ _ (by omega) (by omega),aqI,aqI];by_cases aI:mI q (2*i+2)<mI q (2*i+1)
  .rw[al (by simpa using aI),aqI]
   exact key _ (by omega) h2 (by unfold par;omega) λk k0 Bb xk=>by rcases kids k k0 Bb xk with rfl|rfl<;>omega
  .rw[aj (by simpa using aI),aqI]
   exact key _ (by omega) (by omega) (by unfold par;omega) λk k0 Bb xk=>by rcases kids k k0 Bb xk with rfl|rfl<;>omega
 .rw[aj (by rw[az];omega),aqI,aj (by decide),aqI]
  exact key _ (by omega) (by omega) (by unfold par;omega) λk k0 Bb xk=>by
   rcases kids k k0 Bb xk with rfl|rfl
   .exact arO _
   .omega
def LU(x:Int)(l:List Int)(hl:l.length<=999999)(hH:vv l l.length):Wp (M.dT aJ x l) λr=>r.Perm (x::l)/\vv r r.length:=by
 unfold M.dT M.kY M.fN;rw[br (by simp;omega)];simp only[aqI]
 have e:aqJ.wrap (((l++[x]).length:Int)-(1:Int))=((l.length:Nat):Int):=by
  rw[aH (by simp) (by simp;omega)];simp
 rw[e,wp_bind]
 have SU:∀k,k<l.length->mI (l++[x]) k=mI l k:=λk hk=>by unfold mI;simp[List.getElem?_append_left hk]
 refine(ack (l++[x]) l.length (by simp) (by simp;omega) ⟨λk k0 hk dG=>?_,λh0 k k0 hk xk=>?_⟩).mono λr hr=> .some ⟨hr.1.trans (List.perm_append_singleton x l),hr.2⟩
 .have jh:k<l.length:=by simp at hk;omega
  have:=oj k0;rw[SU _ jh,SU _ (by omega)];exact hH k k0 jh
 .have:=oj k0;simp at hk;omega
def vv.min{l:List Int}{n:Nat}(h:vv l n):∀k,k<n->mI l 0<=mI l k:=λk=>by
 induction k using Nat.strongRecOn with
 |_ k ih=>
  intro hk;by_cases h0:k=0
  .subst h0;exact arO _
  .have hp:=oj (show 0<k by omega);have:=ih (par k) hp (by omega);have:=h k (by omega) hk;omega
def YP(l:List Int)(h0:0<l.length)(hl:l.length<=1000000)(hH:vv l l.length):Wp (M.iC aJ l) λr=>l.Perm (r.1::r.2)/\vv r.2 r.2.length/\∀y∈r.2,r.1<=y:=by
 unfold M.iC M.fN
 obtain⟨n,hn⟩:∃n,l.length=n+1:=⟨l.length-1,by omega⟩
 have e:aqJ.wrap ((l.length:Int)-(1:Int))=((n:Nat):Int):=by rw[aH (by omega) (by omega)];omega
 rw[aqI,e];have sw:=swap_eq l 0 n (by omega) (by omega);rw[show((0:Nat):Int)=(0:Int)from rfl]at sw;rw[sw,aqI,wp_bind]
 have hs:=λk=>qP l 0 n k (by omega) (by omega)
 refine(Vq (swp l 0 n) n (by rw[uy];omega) (by rw[uy];omega) ⟨λk k0 hk dG=>?_,λh=>by omega⟩).mono λr hr=>?_
 .have:=oj k0;rw[hs,hs,aj (by omega),aj dG,aj (by omega),aj (by omega)];exact hH k k0 (by omega)
 .obtain⟨b,q⟩:=r;obtain⟨h1,h2,h3⟩:=hr;dsimp only at h1 h2 h3⊢
  have hq:q.length=n+1:=by rw[h1.length_eq,uy];exact hn
  have e2:aqJ.wrap ((q.length:Int)-(1:Int))=((n:Nat):Int):=by rw[aH (by omega) (by omega)];omega
  have hqn:q[n]'(by omega)=mI l 0:=by
   rw[<-tI (l:=q) (by omega),h3 n (aqS _),hs];by_cases e0:n=0
   .rw[al rfl]
   .rw[al rfl]
  unfold M.n4;rw[e2,aF (by omega),aqI,jC (by omega),aqI,aqI]
  have Wy:l.Perm (q[n]'(by omega)::q.take n):=by
   have e3:q=q.take n++[q[n]'(by omega)]:=by
    rw[List.take_append_getElem (by omega),<-hq,ara]
   refine((AY l 0 n (by omega) (by omega)).symm.trans h1.symm).trans ?_;have:(q.take n++[q[n]'(by omega)]).Perm (q[n]'(by omega)::q.take n):=List.perm_append_singleton _ _;rw[<-e3]at this;exact this
  refine .some ⟨Wy,λk k0 hk=>?_,λy hy=>?_⟩
  .have ht:(q.take n).length=n:=by rw[aq9];omega
   have hk:k<n:=by rw[<-ht];exact hk
   have xk:=oj k0
   have tk:∀i,i<n->mI (q.take n) i=mI q i:=λi hi=>by unfold mI;simp[arR,hi]
   show mI (q.take n) (par k)<=mI (q.take n) k
   rw[tk _ hk,tk _ (by omega)];exact h2 k k0 hk
  .show q[n]'(by omega)<=y
   rw[hqn];have:y∈l:=Wy.symm.subset (List.mem_cons_of_mem _ hy);obtain⟨k,hk,rfl⟩:=aqZ this;rw[<-tI hk];exact hH.min k hk
end L
namespace L
def Oa(s:iV)(p:List Int)(d:Int):Prop:=(0<=d/\d<(s.2.2.2.1.length:Int))/\d∉p/\∀y,Dp s d y->y∈p
def tJ(s:iV)(o:List Int):Prop:=∀k,∀h:k<o.length,Oa s (o.take k) o[k]/\∀d,Oa s (o.take k) d->o[k]<=d
def tJ.snoc{s:iV}{o:List Int}{x:Int}(h:tJ s o)(hx:Oa s o x)(hm:∀d,Oa s o d->x<=d):tJ s (o++[x]):=λk hk=>by
 by_cases e:k<o.length
 .have:=h k e
  grind
 grind
def tJ.mem{s:iV}{o:List Int}(h:tJ s o){x:Int}(hx:x∈o):(0<=x/\x<(s.2.2.2.1.length:Int))/\∀y,Dp s x y->y∈o:=by
 obtain⟨k,hk,rfl⟩:=aqZ hx;obtain⟨h1,_⟩:=h k hk;exact⟨h1.1,λy hy=>List.mem_of_mem_take (h1.2.2 y hy)⟩
def tJ.nodup{s:iV}{o:List Int}(h:tJ s o):o.Nodup:=by
 rw[List.nodup_iff_pairwise_ne,List.pairwise_iff_getElem];intro i j hi hj ZN e;refine(h j hj).1.2.1 ?_
 grind [List.mem_take_iff_getElem]
def wJ{n:Nat}{l:List Int}(hn:l.Nodup)(h:∀x∈l,0<=x/\x<(n:Int)):l.length<=n:=by
 have:=xN (m:=(arK n).map λk:Nat=>(k:Int)) hn λy hy=>by
  obtain⟨a,b⟩:=h y hy;exact List.mem_map.2 ⟨y.toNat,List.mem_range.2 (by omega),by omega⟩
 grind
theorem tJ.len{s:iV}{o:List Int}(h:tJ s o):o.length<=s.2.2.2.1.length:=wJ h.nodup λx hx=>(h.mem hx).1
def Wz{α:Type}{l:List α}{i:Int}(h:0<=i):idx l i=l[i.toNat]? :=by unfold idx;rw[al h]
def HG{α:Type}(l:List α)(i:Int)(v:α)(u:Nat)(hi:i.toNat<l.length):(bn l i v)[u]? =if u=i.toNat then aa v else l[u]? :=by
 grind [bn]
structure Si(L:List (List Int))(n k:Nat)(U:List (List Int))(W H:List Int):Prop where
 ul:U.length=n
 wl:W.length=n
 u:∀e,∀h:e<U.length,U[e].length<=6000*k/\∀u:Int,U[e].count u=if 0<=u/\u<(k:Int)then(L.getD u.toNat []).count (e:Int)else 0
 w:∀u,u<k->W[u]? =aa ((L.getD u []).length:Int)
 hp:vv H H.length
 nd:H.Nodup
 h:∀u:Int,u∈H↔(0<=u/\u<(k:Int))/\L.getD u.toNat []=[]
def Si.hl{L:List (List Int)}{n k:Nat}{U:List (List Int)}{W H:List Int}(h:Si L n k U W H):H.length<=k:=wJ h.nd λx hx=>((h.h x).1 hx).1
structure ai4(s:iV)(L:List (List Int))(n:Nat)(W O H:List Int):Prop where
 wl:W.length=n
 o:tJ s O
 w:∀u,u<n->W[u]? =aa (((L.getD u []).countP λy=>decide (y∉O):Nat):Int)
 hp:vv H H.length
 nd:H.Nodup
 h:∀u:Int,u∈H↔Oa s O u
structure InI(s:iV)(L:List (List Int))(n:Nat)(O l:List Int)(W H:List Int):Prop where
 wl:W.length=n
 w:∀u,u<n->W[u]? =aa (((L.getD u []).countP (λy=>decide (y∉O))+l.count (u:Int):Nat):Int)
 hp:vv H H.length
 nd:H.Nodup
 h:∀u:Int,u∈H↔(0<=u/\u<(n:Int))/\u∉O/\W[u.toNat]? =aa 0
def InI.hl{s:iV}{L:List (List Int)}{n:Nat}{O l W H:List Int}(h:InI s L n O l W H):H.length<=n:=wJ h.nd λx hx=>((h.h x).1 hx).1
theorem getD_some{L:List (List Int)}{u:Nat}(h:u<L.length):L.getD u []=L[u]:=by simp[h]
def HH(l O:List Int)(x:Int)(hx:x∉O):l.countP (λy=>decide (y∉O))=l.countP (λy=>decide (y∉O++[x]))+l.count x:=by
 induction l<;>grind
def Sj(l:List Int)(d n:Nat)(U:List (List Int))(hU:U.length=n)(hl:l.length<=6000)(hr:∀y∈l,0<=y/\y<(n:Int))(hb:∀e,∀h:e<U.length,U[e].length<=100000):Wp (Loop (S:=Int×List (List Int)) (X:=List (List Int)) (λVr=>
 (if(decide (Vr.1<(l.length:Int)))=af then
 (idx l Vr.1).bind λSk=>
 (idx Vr.2 Sk).bind λZi=>
 (idx Vr.2 Sk).bind λx16=>
 (cf x16 ([(d:Int)]:List Int)).bind λl17=>
 (idx Vr.2 Sk).bind λx18=>
 (if decide (Sk=Sk)=af then
 (idx Vr.2 Sk).bind λx19=>
 some (arj (aqJ.wrap (Vr.1+(1:Int)),vL Vr.2 Sk (λm20=>l17)))
 else ae)
 else
 some (arc Vr.2))) aJ ((0:Int),U)) λV=>V.length=n/\∀e,∀h:e<V.length,∀h':e<U.length,V[e].length<=U[e].length+l.length/\∀u:Int,V[e].count u=U[e].count u+if u=(d:Int)then l.count (e:Int)else 0:=by
 refine Wp.count (λs=>s.1) l.length (λk s=>s.2.length=n/\∀e,∀h:e<s.2.length,∀h':e<U.length,s.2[e].length<=U[e].length+k/\∀u:Int,s.2[e].count u=U[e].count u+if u=(d:Int)then(l.take k).count (e:Int)else 0) (by omega) rfl (by grind) λk s hk hs hJ=>?_
 obtain⟨i,V⟩:=s;obtain⟨hV,hJ⟩:=hJ;dsimp only at hs hV hJ;subst hs;simp only[W_,aw,ax,reduceCtorEq,aS,aR];refine⟨λaI=>?_,λhge=>?_⟩
 .have aI:k<l.length:=by omega
  obtain⟨a0,a1⟩:=hr _ (aqN aI);obtain⟨x,hx⟩:=aqV a0
  have hxV:x<V.length:=by omega
  simp only[aF aI,hx,aF hxV,bF (m:=l.length) (by omega) aI,W_,aw,ax,reduceCtorEq];have hbx:=(hJ x hxV (by omega)).1;have:=hb x (by omega);refine lZ.2 ⟨by simp;omega,trivial |> λ_=>⟨aI,by rw[kP];exact hV,λe h h'=>?_⟩⟩
  have he:e<V.length:=by rw[kP]at h;exact h
  have VP:l.take (k+1)=l.take k++[l[k]]:=(List.take_append_getElem aI).symm;rw[yU h he,VP,hx]
  grind
 grind
def Vs(s:iV)(L:List (List Int))(n:Nat)(O l W H:List Int)(x:Int)(hn:n<=14)(EK:l.length<=100000)(hL:∀u,(L.getD u []).length<=6000)(hI:InI s L n O l W H)
 (hl:∀u∈l,(0<=u/\u<(n:Int))/\u∉O)(Q:((List Int×List Int×List Int)⊕(List Int×List Int))->Prop)(hQ:∀W' H',InI s L n O [] W' H'->Q (.inl (W',O,H'))):Wp (Loop (S:=Int×(List Int)×List Int) (X:=((List Int)×(List Int)×List Int)⊕((List Int)×List Int)) (λOM=>
   (if(decide (OM.1<(l.length:Int)))=af then
   ((idx l OM.1).bind λYQ=>
   (idx OM.2.1 YQ).bind λx31=>
   (idx OM.2.1 YQ).bind λx32=>
   (idx (bn OM.2.1 YQ (aqJ.wrap (x31-(1:Int)))) YQ).bind λWe=>
   (if(decide (We=(0:Int)))=af then
   (M.dT aJ YQ OM.2.2).bind λy34=>
   some (bn OM.2.1 YQ (aqJ.wrap (x31-(1:Int))),y34)
   else
   some (bn OM.2.1 YQ (aqJ.wrap (x31-(1:Int))),OM.2.2)):Option ((List Int)×List Int)).bind λj29=>
   some (arj (aqJ.wrap (OM.1+(1:Int)),j29.1,j29.2))
   else
   some (arc (arj (OM.2.1,O,OM.2.2))))) aJ ((0:Int),W,H)) Q:=by
 refine Wp.count (λs=>s.1) l.length (λk z=>InI s L n O (l.drop k) z.2.1 z.2.2) (by omega) rfl hI λk z hk hs hJ=>?_
 obtain⟨i,V,G⟩:=z;dsimp only at hs hJ;subst hs
 refine Wp.dec (λaI=>?_) λhge=>?_
 .have aI:k<l.length:=by dsimp only at aI;omega
  obtain⟨⟨a0,a1⟩,a2⟩:=hl _ (aqN aI);have mX:l.drop k=l[k]::l.drop (k+1):=aq6 aI;obtain⟨u,hu⟩:=aqV a0;rw[hu]at a1 a2 mX
  have hun:u<n:=by omega
  have hVl:=hJ.wl;have hw:=hJ.w u hun;rw[mX,List.count_cons_self]at hw
  obtain⟨a,ha⟩:∃a,a=(L.getD u []).countP (λy=>decide (y∉O)):=⟨_,rfl⟩
  obtain⟨b,hb⟩:∃b,b=(l.drop (k+1)).count (u:Int):=⟨_,rfl⟩
  have yB:a<=6000:=by rw[ha];exact(by grind)
  have HT:b<=100000:=by rw[hb];exact Nat.le_trans List.count_le_length (by grind)
  rw[<-ha,<-hb]at hw
  have iw:idx V (u:Int)=aa ((a+(b+1):Nat):Int):=by rw[Wz (by omega)];exact hw
  have ew:aqJ.wrap (((a+(b+1):Nat):Int)-(1:Int))=((a+b:Nat):Int):=by rw[aH (by omega) (by omega)];omega
  have iv:idx (bn V (u:Int) ((a+b:Nat):Int)) (u:Int)=aa ((a+b:Nat):Int):=by
   rw[Wz (by omega),HG _ _ _ _ (by omega),al rfl]
  dsimp only;rw[aF aI,hu,aqI,iw,aqI,aqI,ew,iv,aqI]
  have w':∀v,v<n->(bn V (u:Int) ((a+b:Nat):Int))[v]? =aa (((L.getD v []).countP (λy=>decide (y∉O))+(l.drop (k+1)).count (v:Int):Nat):Int):=λv hv=>by
   rw[HG _ _ _ _ (by omega)];by_cases e:v=u
   .grind
   .rw[aj (by omega),hJ.w v hv,mX,List.count_cons_of_ne (by omega)]
  have nH:(u:Int)∉G:=λg=>by
   have:=((hJ.h _).1 g).2.2
   grind [aqR]
  have hGl:=hJ.hl;by_cases e0:a+b=0
  .rw[al (by rw[az];omega),wp_bind,wp_bind]
   refine(LU _ _ (by omega) hJ.hp).mono λr hr=> .some (.some ⟨aI,?_,?_⟩)
   .exact bF (m:=l.length) (by omega) aI
   .refine⟨by grind [bn],w',hr.2,hr.1.nodup_iff.2 (List.nodup_cons.2 ⟨nH,hJ.nd⟩),λv=>?_⟩
    show v∈r↔_/\_/\(bn V _ _)[v.toNat]? =aa 0
    rw[hr.1.mem_iff,arw,HG _ _ _ _ (by omega),hJ.h v]
    by_cases e:v=(u:Int)
    .simp_all
    .constructor
     .rintro(h|⟨h1,h2,h3⟩)
      all_goals simp_all
     .rintro⟨h1,h2,h3⟩
      rw[aj (by omega)]at h3
      grind
  .rw[aj (by grind),aqI];refine .some ⟨aI,?_,?_⟩
   .exact bF (m:=l.length) (by omega) aI
   .refine⟨by grind [bn],w',hJ.hp,hJ.nd,λv=>?_⟩
    show v∈G↔_/\_/\(bn V _ _)[v.toNat]? =aa 0
    rw[HG _ _ _ _ (by omega),hJ.h v]
    by_cases e:v=(u:Int)
    .subst e;rw[al rfl];refine⟨λh=>absurd ((hJ.h _).2 h) nH,λh=>?_⟩
     grind
    .constructor
     .rintro⟨h1,h2,h3⟩
      rw[aj (by omega)];grind
     .rintro⟨h1,h2,h3⟩
      rw[aj (by omega)]at h3
      grind
 .have hge:k=l.length:=by dsimp only at hge;omega
  subst hge;rw[List.drop_length]at hJ;exact .some (hQ _ _ hJ)
def Sl(s:iV)(hs:jW s):Wp (M.fe aJ s) λr=>∃o,tJ s o/\(∀d,¬Oa s o d)/\r=if o.length<s.2.2.2.1.length then((9:Int),([]:List Int))else((0:Int),o):=by
 have EO:=hs.2.2.1;unfold M.fe
 refine Wp.seq (YJ s) ?_ λL hL=>?_
 .have e:M.np aJ s=M.kW aJ s:=rfl
  grind [wH]
 obtain⟨hLl,hL⟩:=hL
 have hDr:∀a b,Dp s a b->0<=b/\b<(s.2.2.2.1.length:Int):=λa b h=>(ld s a).2 b h
 have hLq:∀u,(L.getD u []).length<=6000:=(by grind)
 have hLm:∀u:Nat,u<s.2.2.2.1.length->∀y,y∈L.getD u []↔Dp s (u:Int) y:=(by grind)
 obtain⟨n,hn⟩:∃n,n=s.2.2.2.1.length:=⟨_,rfl⟩
 rw[<-hn]at EO hLl hDr hLm⊢;rw[wp_bind];refine sY.2 ⟨by omega,?_⟩;rw[wp_bind];refine sY.2 ⟨by omega,?_⟩;rw[aqR,hLl]
 refine Wp.seq (λz=>Si L n n z.1 z.2.1 z.2.2) ?_ λz hz=>?_
 .rw[wp_bind]
  refine Wp.mono (Q:=λz=>Si L n n z.1 z.2.1 z.2.2) ?_ λz hz=> .some hz
  refine Wp.count (λz=>z.1) n (λk z=>Si L n k z.2.1 z.2.2.1 z.2.2.2) (by omega) rfl ⟨by simp,by simp,λe h=>⟨by simp,λu=>?_⟩,λu hu=>by omega,λk h0 h1=>(by cases h1),List.nodup_nil,λu=>?_⟩ λk z hk hz hJ=>?_
  .grind
  .grind
  obtain⟨i,U,W,H⟩:=z;dsimp only at hz hJ;subst hz
  refine Wp.dec (λaI=>?_) λhge=>?_
  .have aI:k<n:=by dsimp only at aI;omega
   have hkL:k<L.length:=by omega
   have hUl:=hJ.ul;have hWl:=hJ.wl;dsimp only;rw[aF hkL,aqI,aF (show k<W.length by omega),aqI,wp_bind,wp_bind,wp_bind];have hHl:=hJ.hl
   refine(Sj L[k] k n U hUl (hL k hkL).1 (by grind) λe h=>by have:=(hJ.u e h).1;omega).mono λV hV=>?_
   have uu:∀e,∀h:e<V.length,V[e].length<=6000*(k+1)/\∀u:Int,V[e].count u=if 0<=u/\u<((k+1:Nat):Int)then(L.getD u.toNat []).count (e:Int)else 0:=λe h=>by
    have hV1:=hV.1;obtain⟨g1,g2⟩:=hV.2 e h (by omega);obtain⟨f1,f2⟩:=hJ.u e (by omega);have:=(hL k hkL).1;refine⟨by omega,λu=>?_⟩;rw[g2,f2]
    by_cases eu:u=(k:Int)
    .subst eu;rw[aj (by omega),al rfl,al (by omega),aqR,getD_some hkL];omega
    grind
   have ww:∀u,u<k+1->(bn W (k:Int) (L[k].length:Int))[u]? =aa ((L.getD u []).length:Int):=λu hu=>by
    rw[HG _ _ _ _ (by omega)];by_cases e:u=k
    .grind
    .rw[aj (by omega),hJ.w u (by omega)]
   have wl:(bn W (k:Int) (L[k].length:Int)).length=n:=by unfold bn;rw[List.length_set];exact hWl
   by_cases e0:L[k].length=0
   .rw[al (by rw[az];omega),wp_bind]
    refine(LU _ _ (by omega) hJ.hp).mono λr hr=> .some (.some (.some ⟨aI,bF (m:=n) (by omega) aI,⟨hV.1,wl,uu,ww,hr.2,hr.1.nodup_iff.2 (List.nodup_cons.2 ⟨λg=>?_,hJ.nd⟩),λu=>?_⟩⟩))
    .have:=((hJ.h _).1 g).1;omega
    .show u∈r↔_
     rw[hr.1.mem_iff,arw,hJ.h u]
     by_cases eu:u=(k:Int)
     .grind [aqR]
     grind
   .rw[aj (by rw[az];omega)];refine .some (.some (.some ⟨aI,bF (m:=n) (by omega) aI,⟨hV.1,wl,uu,ww,hJ.hp,hJ.nd,λu=>?_⟩⟩))
    show u∈H↔_
    rw[hJ.h u]
    grind [getD_some]
  .have hge:k=n:=by dsimp only at hge;omega
   subst hge;exact .some hJ
 obtain⟨U,W,H⟩:=z;dsimp only at hz⊢;have hUl:=hz.ul
 have hU:∀e,∀h:e<U.length,U[e].length<=100000/\∀u:Int,U[e].count u=if 0<=u/\u<(n:Int)then(L.getD u.toNat []).count (e:Int)else 0:=λe h=>⟨by have:=(hz.u e h).1;omega,(hz.u e h).2⟩
 refine Wp.seq (λz=>tJ s z.1/\z.2=[]/\∀d,¬Oa s z.1 d) ?_ λz hq=>?_
 .refine Wp.loop (λz=>ai4 s L n z.1 z.2.1 z.2.2) (λz=>n-z.2.1.length) ⟨hz.wl,λk h=>(by cases h),λu hu=>?_,hz.hp,hz.nd,λu=>?_⟩ (by show n-_<aJ;unfold aJ;omega) λz hI=>?_
  .rw[hz.w u hu]
   simp_all
  .rw[hz.h u];unfold Oa;rw[<-hn];constructor
   .grind
   .rintro⟨h1,_,h2⟩
    refine⟨h1,List.eq_nil_iff_forall_not_mem.2 λy hy=>?_⟩
    grind
  obtain⟨W,O,H⟩:=z;dsimp only at hI⊢;have hO:=hI.o;have hOl:=hO.len;rw[<-hn]at hOl
  have hHl:H.length<=n:=wJ hI.nd λx hx=>by
   have:=((hI.h x).1 hx).1
   grind
  unfold M.fN;rw[aqI]
  refine Wp.dec (λh0=>?_) λh0=>?_
  .have h0:0<H.length:=by omega
   rw[wp_bind]
   refine(YP H h0 (by omega) hI.hp).mono λr hr=>?_
   obtain⟨x,G⟩:=r;obtain⟨hp,hG,EB⟩:=hr;dsimp only at hp hG EB⊢;have hxH:x∈H:=hp.symm.subset (by simp);have hx:=(hI.h x).1 hxH;have TK:=hp.nodup_iff.1 hI.nd;obtain⟨hxG,hGn⟩:=List.nodup_cons.1 TK
   have hO':tJ s (O++[x]):=hO.snoc hx λd hd=>by
    have:d∈H:=(hI.h d).2 hd
    grind
   have acp:=hO'.len;rw[<-hn,aqT]at acp;simp only[arh,List.length_nil]at acp;rw[br (by simp;omega),aqI];have VL:=hx.1;rw[<-hn]at VL;obtain⟨e,he⟩:=aqV VL.1
   have heU:e<U.length:=by omega
   rw[he,aF heU,aqI,<-he];obtain⟨f1,f2⟩:=hU e heU;rw[<-he]at f2
   have inU:∀u∈U[e],(0<=u/\u<(n:Int))/\Dp s u x:=λu hu=>by
    have h1:=List.count_pos_iff.2 hu;rw[f2]at h1;by_cases hc:0<=u/\u<(n:Int)
    .grind
    grind
   refine Vs s L n (O++[x]) U[e] W G x EO f1 hLq ⟨hI.wl,λu hu=>?_,hG,hGn,λu=>?_⟩ (λu hu=>?_) _ λW' H' h'=>?_
   .rw[hI.w u hu,f2,al (by omega),aqR,HH _ _ _ hx.2.1]
   .have vi:u∈G↔u∈H/\u≠x:=by
     rw[hp.mem_iff,arw];exact(by grind)
    rw[vi,hI.h u];unfold Oa;rw[<-hn];constructor
    .rintro⟨⟨h1,h2,h3⟩,h4⟩
     refine⟨h1,by simp[h2,h4],?_⟩;rw[hI.w u.toNat (by omega)]
     congr 2
     grind [ass]
    .rintro⟨h1,h2,h3⟩
     rw[hI.w u.toNat (by omega)]at h3
     have h3:(L.getD u.toNat []).countP (λy=>decide (y∉O))=0:=by
      have:=aqL h3;omega
     rw[ass]at h3;simp only[aq7,aq5,not_or]at h2
     grind [Int.toNat_of_nonneg]
   .obtain⟨h1,h2⟩:=inU u hu;refine⟨h1,λh=>?_⟩
    rcases aq7.1 h with h|h
    .exact hx.2.1 ((hO.mem h).2 x h2)
    .rw[aq5.1 h]at h2;exact hx.2.1 (hx.2.2 x h2)
   .refine⟨⟨h'.wl,hO',λu hu=>?_,h'.hp,h'.nd,λu=>?_⟩,?_⟩
    .have:=h'.w u hu
     grind
    .rw[h'.h u];unfold Oa;rw[<-hn];constructor
     .rintro⟨h1,h2,h3⟩
      refine⟨h1,h2,λy hy=>?_⟩;rw[h'.w u.toNat (by omega),List.count_nil,Nat.add_zero]at h3
      have h3:(L.getD u.toNat []).countP (λy=>decide (y∉O++[x]))=0:=by
       have:=aqL h3;omega
      rw[ass]at h3;have:=h3 y ((hLm u.toNat (by omega) y).2 (by rw[Int.toNat_of_nonneg h1.1];exact hy))
      grind
     .rintro⟨h1,h2,h3⟩
      refine⟨h1,h2,?_⟩;rw[h'.w u.toNat (by omega),List.count_nil,Nat.add_zero]
      congr 2
      rw[ass]
      grind
    grind
  .have h0:H=[]:=List.length_eq_zero_iff.1 (by omega);subst h0;exact .some ⟨hO,rfl,λd hd=>by cases(hI.h d).2 hd⟩
 .obtain⟨O,H⟩:=z;obtain⟨h1,h2,h3⟩:=hq;dsimp only at h1 h2 h3⊢
  refine Wp.dec (λh=> .some ⟨O,h1,h3,?_⟩) λh=> .some ⟨O,h1,h3,?_⟩
  all_goals grind
def Ob{s:iV}{o:List Int}(h:tJ s o)(hr:∀d,¬Oa s o d)(hc:∀d:Nat,d<s.2.2.2.1.length->¬OL (Dp s) (d:Int) (d:Int)):o.length=s.2.2.2.1.length:=by
 refine Nat.le_antisymm h.len (Nat.le_of_not_lt λaI=>?_)
 have hDr:∀a b,Dp s a b->0<=b/\b<(s.2.2.2.1.length:Int):=λa b h=>(ld s a).2 b h
 obtain⟨n,hn⟩:∃n,n=s.2.2.2.1.length:=⟨_,rfl⟩
 rw[<-hn]at aI hc hDr
 have next:∀d:Int,(0<=d/\d<(n:Int))->d∉o->∃e,Dp s d e/\e∉o:=λd hd hdo=>Classical.byContradiction λdG=>by
  refine hr d ⟨by rw[<-hn];exact hd,hdo,(by grind)⟩
 have start:∃d:Int,(0<=d/\d<(n:Int))/\d∉o:=Classical.byContradiction λdG=>by
  have:((arK n).map λk:Nat=>(k:Int)).length<=o.length:=xN (List.Pairwise.map _ (λa b(h:a≠b)e=>h (by omega)) List.nodup_range) (by grind)
  grind
 have walk:∀m,∃l:List Int,l.length=m+1/\(∀x∈l,(0<=x/\x<(n:Int))/\x∉o)/\l.Pairwise λa b=>OL (Dp s) b a:=by
  intro m
  induction m with
  |zero=>
   obtain⟨d,h1,h2⟩:=start;exact⟨[d],rfl,(by grind),by simp⟩
  |succ m ih=>
   obtain⟨l,hl,hm,hp⟩:=ih
   cases l with
   |nil=>cases hl
   |cons x t=>
    obtain⟨e,h1,h2⟩:=next x (hm x (by simp)).1 (hm x (by simp)).2
    refine⟨e::x::t,by grind,λy hy=>?_,arS.2 ⟨λy hy=>?_,hp⟩⟩
    .grind
    .rcases arw.1 hy with rfl|hy
     .exact .one h1
     .exact .step ((arS.1 hp).1 y hy) h1
 obtain⟨l,hl,hm,hp⟩:=walk n
 have nd:l.Nodup:=by
  refine hp.imp_of_mem λ{a b}ha hb yB=>λe=>?_
  subst e;obtain⟨h1,_⟩:=hm a ha;have:=hc a.toNat (by omega);rw[Int.toNat_of_nonneg h1.1]at this;exact this yB
 have:=wJ nd λx hx=>(hm x hx).1
 omega
end L
namespace L
def CW{e:List Ty}{s:uB}{t:Ty}(h:rZ e s t=0):(G0 e s).2.2=0/\(G0 e s).1=t:=by
 unfold rZ at h;by_cases h1:(G0 e s).2.2=0
 .rw[aj (λg=>g h1)]at h;by_cases h2:(G0 e s).1=t
  .exact⟨h1,h2⟩
  .rw[al h2]at h;cases h
 .rw[al h1]at h;exact absurd h h1
def OfT(e:List Ty)(s:uB)(t:Ty):Prop:=∃r,M.iO aJ e s=aa r/\r.2.2=0/\r.1=t
def vw{l:Lw}{x:iV}(hw:WF bg x){j:Nat}(hj:j<x.2.2.2.2.length)(h0:r7 l x j x.2.2.2.2[j]=0):
 (∃k,∃hk:k<x.2.2.2.1.length,(x.2.2.2.2[j].2.1:Int)=(k:Int)/\OfT x.2.2.2.2[j].2.2.2.2.2.2.1 (dR l x) x.2.2.2.1[k].2)/\(0<x.2.2.2.2[j].2.2.2.2.2.1.length->OfT x.2.2.2.2[j].2.2.2.2.2.1 (dR l x) ((1:Int),(0:Int))):=by
 have G6:=hw.2.2.2.2.2 _ (aqN hj);obtain⟨_,_,hd,_,_,_,_,hg,hv⟩:=LQ.1 h0;generalize x.2.2.2.2[j]=r at*
 obtain⟨(d:Int),TL⟩:∃d:Int,d=r.2.1:=⟨_,rfl⟩
 rw[<-TL]at hd;have Wj:(0:Int)<=d:=hd.1;have xS:d<(x.2.2.2.1.length:Int):=hd.2;obtain⟨k,hk⟩:=aqV Wj
 have jh:(r.2.1:Int)=(k:Int):=by rw[<-TL,hk]
 have If:k<x.2.2.2.1.length:=by omega
 rw[jh,aqR,aqK If]at hv;obtain⟨v1,v2⟩:=CW hv;refine⟨⟨k,If,jh,_,oW.all _ _ G6.2.2.2.2.2.2.1.2,v1,v2⟩,λh=>?_⟩;obtain⟨g1,g2⟩:=CW (hg h);exact⟨_,oW.all _ _ G6.2.2.2.2.2.1.2,g1,g2⟩
def LV(e:List Ty)(s:uB)(y:List Ty):Prop:=(e.length=0/\y=[])\/(0<e.length/\P.V.Code e s y)
structure Prg(l:Lw)(x:iV)(d:Int)(p:List jV×List Int×List (List Ty)×List (List Ty)):Prop where
 rules:p.1=fY x.2.2.2.2 d
 order:M.fe aJ x=aa ((0:Int),p.2.1)
 ord:tJ x p.2.1
 all:p.2.1.length=x.2.2.2.1.length
 gl:p.2.2.1.length=p.1.length
 vl:p.2.2.2.length=p.1.length
 code:∀i(h:i<p.1.length)(h1:i<p.2.2.1.length)(h2:i<p.2.2.2.length),LV p.1[i].2.2.2.2.2.1 (dR l x) p.2.2.1[i]/\P.V.Code p.1[i].2.2.2.2.2.2.1 (dR l x) p.2.2.2[i]
def J4(l:Lw)(hw:WF cC l)(lU:lf l)(hv:Valid l)(k:Nat)(hk:k<l.2.2.length)(d:Int):Wp (M.dA aJ l (k:Int) d) (Prg l l.2.2[k] d):=by
 have hm:=hv.ai3 lU
 have hp:∀x∈l.2.2,sv x.2.2.2.2:=λx hx=>by
  obtain⟨i,hi,rfl⟩:=aqZ hx;exact YL (hv.scope i hi).2.2.2.2.2.2.1
 have rE:=lU.2.2.2.2.2 _ (aqN hk);have Zs:=hv.scope k hk;have wP:=hw.2.2.2 _ (aqN hk);have IK:=hp _ (aqN hk);unfold M.dA;rw[aF hk,aqI,HD l d hm lU hp]
 have Bc:idx (l.2.2.map (yq · d)) (k:Int)=aa (yq l.2.2[k] d):=by rw[aF (show k<(l.2.2.map (yq · d)).length by simpa using hk),List.getElem_map]
 obtain⟨x,hx⟩:∃x,x=l.2.2[k]:=⟨_,rfl⟩
 rw[<-hx]at rE Zs wP IK Bc⊢
 have ai8:∃o,M.fe aJ x=aa ((0:Int),o)/\tJ x o/\o.length=x.2.2.2.1.length:=by
  obtain⟨r,er,o,h1,h2,hr⟩:=Sl x rE
  have kt:=Ob h1 h2 λd hd hc=>Zs.2.2.2.2.2.2.2 d hd ((LN x d d).2 hc)
  rw[aj (by omega)]at hr;subst hr;exact⟨o,er,h1,kt⟩
 obtain⟨o,e1,e2,e3⟩:=ai8;rw[e1];simp only[aqI,Bc];have UX:=rE.2.2.2.1;have hR:(yq x d).2.2.2.2=fY x.2.2.2.2 d:=rfl;rw[hR]
 have hRl:(fY x.2.2.2.2 d).length<=60:=by
  rw[qC];have:=(p8 d x.2.2.2.2).2.1;omega
 have hRm:∀y∈fY x.2.2.2.2 d,∃j,∃hj:j<x.2.2.2.2.length,∃p:Int,y=HB x.2.2.2.2[j] p:=λy hy=>by
  obtain⟨r,hr,p,e,_⟩:=HE d IK hy;obtain⟨j,hj,rfl⟩:=aqZ hr;exact⟨j,hj,p,e⟩
 obtain⟨R,hRe⟩:∃R,R=fY x.2.2.2.2 d:=⟨_,rfl⟩
 rw[<-hRe]at hRl hRm⊢;rw[wp_bind]
 refine Wp.mono (Q:=λp=>Prg l x d p/\True) ?_ λp hp=> .some hp.1
 refine Wp.count (λs=>s.1) R.length (λi s=>s.2.1=R/\s.2.2.1=o/\s.2.2.2.1.length=i/\s.2.2.2.2.length=i/\∀j(h:j<R.length)(h1:j<s.2.2.2.1.length)(h2:j<s.2.2.2.2.length),LV R[j].2.2.2.2.2.1 (dR l x) s.2.2.2.1[j]/\P.V.Code R[j].2.2.2.2.2.2.1 (dR l x) s.2.2.2.2[j]) (by omega) rfl ⟨rfl,rfl,rfl,rfl,λj h h1=>by cases h1⟩ λi s hi hs hJ=>?_
 obtain⟨c,R',o',G,V⟩:=s;obtain⟨j1,j2,j3,j4,j5⟩:=hJ;dsimp only at hs j1 j2 j3 j4 j5;subst hs j1 j2
 refine Wp.dec (λaI=>?_) λhge=>?_
 .have aI:i<R'.length:=by dsimp only at aI;omega
  obtain⟨j,hj,p,hy⟩:=hRm _ (aqN aI);obtain⟨⟨dk,hdk,_,tv⟩,tg⟩:=vw wP hj (Zs.2.2.2.2.2.2.1 j hj);have G6:=wP.2.2.2.2.2 _ (aqN hj)
  have eg:R'[i].2.2.2.2.2.1=x.2.2.2.2[j].2.2.2.2.2.1:=by rw[hy];rfl
  have ev:R'[i].2.2.2.2.2.2.1=x.2.2.2.2[j].2.2.2.2.2.2.1:=by rw[hy];rfl
  dsimp only;rw[aF aI,aqI,wp_bind]
  have wg:Wp (M.cB aJ R'[i].2.2.2.2.2.1) λy=>LV R'[i].2.2.2.2.2.1 (dR l x) y:=by
   by_cases h0:R'[i].2.2.2.2.2.1.length=0
   .unfold M.cB;rw[al (by rw[az];omega)];exact .some (.inl ⟨h0,rfl⟩)
   .obtain⟨r,h1,h2,_⟩:=tg (by rw[<-eg];omega);rw[eg]at h0⊢
    exact(P.V.LL G6.2.2.2.2.2.1.2 h1 h2).mono λy hy=> .inr ⟨by omega,hy⟩
  refine wg.mono λy hyg=>?_
  rw[br (by simp;omega),aqI,wp_bind];obtain⟨r,h1,h2,_⟩:=tv
  have wv:Wp (M.cB aJ R'[i].2.2.2.2.2.2.1) λz=>P.V.Code R'[i].2.2.2.2.2.2.1 (dR l x) z:=by
   rw[ev];exact P.V.LL G6.2.2.2.2.2.2.1.2 h1 h2
  refine wv.mono λz hz=>?_
  rw[br (by simp;omega),aqI];refine .some ⟨aI,bF (m:=R'.length) (by omega) aI,rfl,rfl,by simp[j3],by simp[j4],λq h h1 h2=>?_⟩;dsimp only at h1 h2⊢;by_cases hq:q<i
  .rw[aqX (by omega),aqX (by omega)];exact j5 q h (by omega) (by omega)
  .have hq:q=i:=by simp at h1;omega
   subst hq;rw[are (by omega),are (by omega)];simp only[j3,j4,Nat.sub_self,List.getElem_cons_zero];exact⟨hyg,hz⟩
 .have hge:i=R'.length:=by dsimp only at hge;omega
  exact .some ⟨⟨hRe,e1,e2,e3,by dsimp only;omega,by dsimp only;omega,j5⟩,trivial⟩
end L
namespace L
def mW{α β:Type}(a:Option α)(b:Option β)(Q:α->β->Prop):Prop:=∃x y,a=aa x/\b=aa y/\Q x y
def mW.some{α β:Type}{x:α}{y:β}{Q:α->β->Prop}(h:Q x y):mW (aa x) (aa y) Q:=⟨x,y,rfl,rfl,h⟩
def mW.bind{α β γ δ:Type}{a:Option α}{b:Option β}{f:α->Option γ}{g:β->Option δ}{Q:γ->δ->Prop}(h:mW a b λx y=>mW (f x) (g y) Q):mW (a.bind f) (b.bind g) Q:=by
 obtain⟨x,y,rfl,rfl,h⟩:=h;exact h
def mW.mono{α β:Type}{a:Option α}{b:Option β}{Q Q':α->β->Prop}(h:mW a b Q)(i:∀x y,Q x y->Q' x y):mW a b Q':=by
 obtain⟨x,y,e,e',h⟩:=h;exact⟨x,y,e,e',i _ _ h⟩
def mW.seq{α β γ δ:Type}{a:Option α}{b:Option β}{f:α->Option γ}{g:β->Option δ}{Q:γ->δ->Prop}(A:α->β->Prop)(h:mW a b A)(k:∀x y,A x y->mW (f x) (g y) Q):mW (a.bind f) (b.bind g) Q:= .bind (h.mono k)
def mW.same{α γ δ:Type}{a:Option α}{f:α->Option γ}{g:α->Option δ}{Q:γ->δ->Prop}{A:α->Prop}(h:Wp a A)(k:∀x,A x->mW (f x) (g x) Q):mW (a.bind f) (a.bind g) Q:=by
 obtain⟨x,rfl,h⟩:=h;exact k x h
def Sm{J J' R R':Type}(A:J->J'->Prop)(B:R->R'->Prop):J⊕R->J'⊕R'->Prop
 | .inl j, .inl j'=>A j j'
 | .inr r, .inr r'=>B r r'
 |_,_=>False
def mW.join{J J' R R':Type}{a:Option (J⊕R)}{b:Option (J'⊕R')}{k:J->Option R}{k':J'->Option R'}{Q:R->R'->Prop}(h:mW a b (Sm (λj j'=>mW (k j) (k' j') Q) Q)):mW (bK a k) (bK b k') Q:=by
 obtain⟨x,y,rfl,rfl,h⟩:=h
 cases x<;>cases y
 .exact h
 .exact h.elim
 .exact h.elim
 .exact⟨_,_,rfl,rfl,h⟩
def mW.loop{S S' X X':Type}{f:S->Option (S⊕X)}{g:S'->Option (S'⊕X')}{Q:X->X'->Prop}{n:Nat}(J:Nat->S->S'->Prop)(step:∀k s s',k<=n->J k s s'->mW (f s) (g s') (Sm (λt t'=>k<n/\J (k+1) t t') Q)):∀(N k:Nat)(s:S)(s':S'),k<=n->n-k<N->J k s s'->mW (Loop f N s) (Loop g N s') Q
 |0,k,s,s',_,h,_=>by omega
 |N+1,k,s,s',hk,hN,h=>by
  obtain⟨x,y,e,e',hs⟩:=step k s s' hk h;unfold Loop;rw[e,e']
  cases x<;>cases y
  .exact mW.loop J step N (k+1) _ _ hs.1 (by have:=hs.1;omega) hs.2
  .exact hs.elim
  .exact hs.elim
  .exact⟨_,_,rfl,rfl,hs⟩
def mW.count{S S' X X':Type}{f:S->Option (S⊕X)}{g:S'->Option (S'⊕X')}{Q:X->X'->Prop}{s:S}{s':S'}(n:Nat)(J:Nat->S->S'->Prop)(hn:n<=9223372036854775807)(h0:J 0 s s')(step:∀k s s',k<=n->J k s s'->mW (f s) (g s') (Sm (λt t'=>k<n/\J (k+1) t t') Q)):mW (Loop f aJ s) (Loop g aJ s') Q:=mW.loop J step aJ 0 s s' (aq2 _) (by unfold aJ;omega) h0
def mW.dec{α β:Type}{c:Prop}[Decidable c]{a a':Option α}{b b':Option β}{Q:α->β->Prop}(ha:c->mW a b Q)(hb:¬c->mW a' b' Q):mW (if decide c=af then a else a') (if decide c=af then b else b') Q:=by
 by_cases h:c
 .rw[al (au h),al (au h)];exact ha h
 .rw[aj (by simpa using h),aj (by simpa using h)];exact hb h
def xP{α:Type}{l:List α}{i:Int}(h0:0<=i)(h1:i<(l.length:Int)):∃x,idx l i=aa x/\x∈l:=by
 obtain⟨k,rfl⟩:=aqV h0
 have hk:k<l.length:=by omega
 exact⟨_,aF hk,aqN hk⟩
def fg{α:Type}(l:List α)(i:Int)(y:α):(bn l i y).length=l.length:=by unfold bn;simp
def ids(P:Nat->Bool)(k:Nat):List Int:=((arK k).filter P).map λi:Nat=>(i:Int)
theorem oX(P:Nat->Bool)(k:Nat):ids P (k+1)=ids P k++(if P k=af then[(k:Int)]else[]):=by
 unfold ids;rw[List.range_succ,List.filter_append,List.map_append];by_cases h:P k=af
 .rw[al h];simp[h]
 .rw[aj h];simp[h]
theorem kG{P:Nat->Bool}{k:Nat}{j:Int}:j∈ids P k↔∃i:Nat,i<k/\P i=af/\j=(i:Int):=by
 unfold ids;simp only[List.mem_map,List.mem_filter,List.mem_range];constructor
 .rintro⟨i,⟨h1,h2⟩,rfl⟩;exact⟨i,h1,h2,rfl⟩
 .rintro⟨i,h1,h2,rfl⟩;exact⟨i,⟨h1,h2⟩,rfl⟩
def pI(P:Nat->Bool)(k:Nat):(ids P k).length<=k:=by
 unfold ids;rw[arb];exact Nat.le_trans (List.length_filter_le ..) (by simp)
def EC(P:Nat->Bool)(k:Nat):(ids P k).Pairwise (· < ·):=by
 induction k with
 |zero=>exact .nil
 |succ k ih=>
  rw[oX,List.pairwise_append];refine⟨ih,by split<;>simp,λa ha b hb=>?_⟩;obtain⟨i,h1,_,rfl⟩:=kG.1 ha;split at hb
  .obtain rfl:b=(k:Int):=by simpa using hb
   omega
  .cases hb
def LW:∀{a b:List Int},a.Pairwise (· < ·)->b.Pairwise (· < ·)->(∀x,x∈a↔x∈b)->a=b
 |[],[],_,_,_=>rfl
 |[],y::b,_,_,h=>absurd ((h y).2 (ary ..)) (by simp)
 |x::a,[],_,_,h=>absurd ((h x).1 (ary ..)) (by simp)
 |x::a,y::b,ha,hb,h=>by
  rw[arS]at ha hb
  have Bg:x=y:=by
   rcases arw.1 ((h x).1 (ary ..))with e|h1
   .exact e
   .rcases arw.1 ((h y).2 (ary ..))with e|h2
    .exact e.symm
    .have:=hb.1 x h1;have:=ha.1 y h2;omega
  subst Bg;rw[LW ha.2 hb.2 λz=>⟨λhz=>?_,λhz=>?_⟩]
  .rcases arw.1 ((h z).1 (List.mem_cons_of_mem _ hz))with e|g
   .have:=ha.1 z hz;omega
   .exact g
  .rcases arw.1 ((h z).2 (List.mem_cons_of_mem _ hz))with e|g
   .have:=hb.1 z hz;omega
   .exact g
def kp(rules:List jV)(Pr:jV->Bool)(i:Nat):Bool:=match rules[i]? with
 |some r=>Pr r
 |none=>ah
def qD{rules:List jV}{Pr:jV->Bool}{i:Nat}(h:i<rules.length):kp rules Pr i=Pr rules[i]:=by
 unfold kp;rw[aqK h]
def Sp{rules:List jV}{K:jV->Int->Int->Option (Bool×Int×Int)}{Pr:jV->Bool}{a d:Int}(hK:∀r,K r a d=aa (Pr r,a,d))(hl:rules.length<=100000):
 Wp ((ol (rules.length:Int) (0:Int)).bind λl1=>
Loop (S:=Int×Int×Int×(List Int)×(List Int)×List Int) (X:=Int×Int×(List Int)×List Int) (λs2=>
(if(decide (s2.1<(rules.length:Int)))=af then
((idx rules s2.1).bind λx4=>
(((if(decide ((0:Int)<=x4.2.2.1))=af then
some (decide (x4.2.2.1<s2.1))
else
some ah):Option (Bool)).bind λj6=>
(if j6=af then
(idx s2.2.2.2.1 x4.2.2.1).bind λx7=>
some x7
else
some (-1:Int)):Option (Int)).bind λj5=>
(idx s2.2.2.2.1 s2.1).bind λx8=>
(K x4 s2.2.1 s2.2.2.1).bind λy9=>
(if y9.1=af then
(idx (bn s2.2.2.2.1 s2.1 j5) s2.1).bind λWl=>
(cf s2.2.2.2.2.1 ([s2.1]:List Int)).bind λl11=>
(cf s2.2.2.2.2.2 ([j5]:List Int)).bind λl12=>
some (y9.2.1,y9.2.2,bn (bn s2.2.2.2.1 s2.1 j5) s2.1 (s2.2.2.2.2.1.length:Int),l11,l12)
else
some (y9.2.1,y9.2.2,bn s2.2.2.2.1 s2.1 j5,s2.2.2.2.2.1,s2.2.2.2.2.2)):Option (Int×Int×(List Int)×(List Int)×List Int)).bind λj3=>
some (arj (aqJ.wrap (s2.1+(1:Int)),j3.1,j3.2.1,j3.2.2.1,j3.2.2.2.1,j3.2.2.2.2))
else
some (arc (s2.2.1,s2.2.2.1,s2.2.2.2.2.1,s2.2.2.2.2.2)))) aJ ((0:Int),a,d,l1,([]:List Int),([]:List Int))) λr=>r.1=a/\r.2.1=d/\r.2.2.1=ids (kp rules Pr) rules.length/\r.2.2.2.length=r.2.2.1.length:=by
 rw[wp_bind];refine sY.2 ⟨by omega,?_⟩;rw[aqR]
 refine Wp.count (λs=>s.1) rules.length (λk s=>s.2.1=a/\s.2.2.1=d/\s.2.2.2.1.length=rules.length/\s.2.2.2.2.1=ids (kp rules Pr) k/\s.2.2.2.2.2.length=s.2.2.2.2.1.length) (by omega) rfl ⟨rfl,rfl,by simp,rfl,rfl⟩ λk s hk hs hJ=>?_
 obtain⟨i,a',d',near,li,pa⟩:=s;obtain⟨j1,j2,j3,j4,j5⟩:=hJ;dsimp only at hs j1 j2 j3 j4 j5;subst hs j1 j2
 refine Wp.dec (λaI=>?_) λhge=>?_
 .have aI:k<rules.length:=by dsimp only at aI;omega
  have If:=pI (kp rules Pr) k;dsimp only
  refine Wp.seq (λj=>j.1=a'/\j.2.1=d'/\j.2.2.1.length=rules.length/\j.2.2.2.1=ids (kp rules Pr) (k+1)/\j.2.2.2.2.length=j.2.2.2.1.length) ?_ λj hj=> .some ⟨aI,bF (m:=rules.length) (by omega) aI,hj⟩
  rw[aF aI,aqI]
  refine Wp.seq (λ_=>True) ?_ λv _=>?_
  .refine Wp.seq (λj=>j=af->(0:Int)<=rules[k].2.2.1/\(rules[k].2.2.1:Int)<(k:Int)) ?_ λj h6=>?_
   .refine Wp.dec (λh=> .some λg=>⟨h,ao g⟩) λh=> .some λg=>by cases g
   .cases j with
    |true=>
     obtain⟨g1,g2⟩:=h6 rfl;obtain⟨x,hx,_⟩:=xP (l:=near) (i:=rules[k].2.2.1) g1 (Int.lt_trans g2 (show(k:Int)<(near.length:Int) by omega));rw[al rfl,hx];exact .some trivial
    |false=>
     rw[aj (by decide)];exact .some trivial
  .rw[aF (show k<near.length by omega),aqI,hK,aqI,oX,qD aI];dsimp only;by_cases hp:Pr rules[k]=af
   .rw[al hp,al hp,aF (show k<(bn near (k:Int) v).length by rw[fg];omega),aqI,br (by simp[j4];omega),aqI,br (by simp[j5,j4];omega),aqI];exact .some ⟨rfl,rfl,by rw[fg,fg];exact j3,by rw[j4],by simp[j5]⟩
   .rw[aj hp,aj hp];exact .some ⟨rfl,rfl,by rw[fg];exact j3,by rw[j4];simp,j5⟩
 .have hge:k=rules.length:=by dsimp only at hge;omega
  exact .some ⟨rfl,rfl,by rw[<-hge];exact j4,j5⟩
def Be(a d:Int)(r:jV):Bool:=decide ((r.2.1:Int)=a/\wQ r.2.2.2.2.1 d)
def uG(rules:List jV)(a d:Int):List Int:=ids (kp rules (Be a d)) rules.length
theorem ED{r:jV}{a d:Int}{β:Type}{k:Bool->Option β}:(((if(decide (r.2.1=a))=af then(aa (decide (wQ r.2.2.2.2.1 d)):Option Bool)else aa ah):Option Bool).bind k)=k (Be a d r):=by
 unfold Be;by_cases h:(r.2.1:Int)=a
 .rw[al (by simpa using h),aqI]
  congr 1
  simp[h]
 .rw[aj (by simpa using h),aqI]
  congr 1
  simp[h]
def acq(a d:Int)(r:jV):M.gu aJ r a d=aa (Be a d r,a,d):=by
 unfold M.gu;simp only[xO,aqI];exact ED
def Sq(a d:Int)(r:jV):M.dW aJ r a d=aa (Be a d r,a,d):=by
 unfold M.dW;simp only[xO,aqI];exact ED
def J5(x:iV)(a d:Int)(hl:x.2.2.2.2.length<=100000):M.kE aJ x a d=aa (uG x.2.2.2.2 a d):=by
 apply Wp.eq;unfold M.kE M.jQ
 refine Wp.seq _ (Sp (acq a d) hl) λy hy=> .some hy.2.2.1
def Oc(x:iV)(a d:Int)(hl:x.2.2.2.2.length<=100000):Wp (M.fP aJ x a d) λr=>r.1=uG x.2.2.2.2 a d/\r.2.1.length=r.1.length/\r.2.2.length=r.1.length:=by
 unfold M.fP M.fA
 refine Wp.seq _ (Sp (Sq a d) hl) λy hy=>?_
 obtain⟨y1,y2,li,pa⟩:=y;obtain⟨_,_,h3,h4⟩:=hy;dsimp only at h3 h4⊢
 have hle:li.length<=x.2.2.2.2.length:=by rw[h3];exact pI ..
 refine Wp.seq (λp=>p.length=li.length) ?_ λp hp=> .some ⟨h3,h4,hp⟩
 refine Wp.count (λs=>s.1) li.length (λk s=>s.2.length=k) (by omega) rfl rfl λk s hk hs hJ=>?_
 obtain⟨i,l⟩:=s;dsimp only at hs hJ;subst hs
 refine Wp.dec (λaI=>?_) λhge=>?_
 .have aI:k<li.length:=by dsimp only at aI;omega
  dsimp only
  have vi:∀z∈li,z∈uG x.2.2.2.2 a d:=λz hz=>by
   rw[h3]at hz;exact hz
  obtain⟨j,hj,_,hje⟩:=kG.1 (vi _ (aqN aI));rw[aF aI,aqI,hje,aF hj,aqI,br (by simp;omega),aqI];exact .some ⟨aI,bF (m:=li.length) (by omega) aI,by simp[hJ]⟩
 .have hge:k=li.length:=by dsimp only at hge;omega
  exact .some (show l.length=li.length by omega)
def Pl(n:Nat)(v:Int):Prop:=v= -1\/v= -2\/0<=v/\v<(n:Int)
def HI(p:List Int)(i:Int)(hl:p.length<=8):Wp (M.fB aJ p i) λr=>r.length<=p.length/\∀x∈r,(0:Int)<=x/\x<(p.length:Int):=by
 unfold M.fB
 refine Wp.count (λs=>s.1) p.length (λk s=>s.2.length<=k/\∀x∈s.2,(0:Int)<=x/\x<(p.length:Int)) (by omega) rfl ⟨aqS _,λx h=>by cases h⟩ λk s hk hs hJ=>?_
 obtain⟨c,l⟩:=s;obtain⟨j1,j2⟩:=hJ;dsimp only at hs j1 j2;subst hs
 refine Wp.dec (λaI=>?_) λhge=> .some ⟨by dsimp only;omega,j2⟩
 have aI:k<p.length:=by dsimp only at aI;omega
 dsimp only
 refine Wp.seq (λj=>j.length<=k+1/\∀x∈j,(0:Int)<=x/\x<(p.length:Int)) ?_ λj hj=> .some ⟨aI,bF (m:=p.length) (by omega) aI,hj⟩
 rw[aF aI,aqI]
 refine Wp.dec (λ_=>?_) λ_=> .some ⟨by omega,j2⟩
 rw[br (by simp;omega),aqI];refine .some ⟨by simp;omega,λx hx=>?_⟩
 rcases aq7.1 hx with h|h
 .exact j2 x h
 .obtain rfl:x=(k:Int):=by simpa using h
  omega
def Vt{p q r:List Int}(i:Int)(hl:p.length<=8)(hq:q.length=p.length)(hr:r.length=p.length):Wp (M.fQ aJ (p,(q,r)) i) λb=>∀x∈b,(0:Int)<=x/\x<(p.length:Int):=by
 unfold M.fQ
 refine Wp.seq _ (HI p i hl) λy hy=>?_
 obtain⟨y1,y2⟩:=hy
 refine Wp.count (λs=>s.1) y.length (λk s=>s.2.length<=k/\∀x∈s.2,(0:Int)<=x/\x<(p.length:Int)) (by omega) rfl ⟨aqS _,λx h=>by cases h⟩ λk s hk hs hJ=>?_
 obtain⟨c,l⟩:=s;obtain⟨j1,j2⟩:=hJ;dsimp only at hs j1 j2;subst hs
 refine Wp.dec (λaI=>?_) λhge=> .some j2
 have aI:k<y.length:=by dsimp only at aI;omega
 dsimp only
 refine Wp.seq (λj=>j.length<=k+1/\∀x∈j,(0:Int)<=x/\x<(p.length:Int)) ?_ λj hj=> .some ⟨aI,bF (m:=y.length) (by omega) aI,hj⟩
 have hv:=y2 _ (aqN aI);rw[aF aI,aqI];generalize y[k]=v at hv⊢
 have at_:∀{l:List Int}{u:Int},l.length=p.length->(0:Int)<=u/\u<(p.length:Int)->∃z,idx l u=aa z:=λ{l u}h h'=>by
  obtain⟨z,hz,_⟩:=xP (l:=l) (i:=u) h'.1 (by omega);exact⟨z,hz⟩
 obtain⟨z1,e1⟩:=at_ hr hv;obtain⟨z2,e2⟩:=at_ hq hv
 have hd:∀{l:List Int},0<l.length->(∀x∈l,(0:Int)<=x/\x<(p.length:Int))->∃u z,idx l (0:Int)=aa u/\idx q u=aa z:=λ{l}h h'=>by
  obtain⟨u,hu,hm⟩:=xP (l:=l) (i:=0) (arO _) (by omega);obtain⟨z,hz⟩:=at_ hq (h' u hm);exact⟨u,z,hu,hz⟩
 rw[e1,aqI]
 refine Wp.dec (λ_=> .some ⟨by omega,j2⟩) λ_=>?_
 refine Wp.seq (λj=>j.length<=k/\∀x∈j,(0:Int)<=x/\x<(p.length:Int)) ?_ λl6 h6=>?_
 .refine Wp.seq (λ_=>True) ?_ λj7 _=>?_
  .refine Wp.dec (λh=>?_) λ_=> .some trivial
   obtain⟨u,z,hu,hz⟩:=hd (l:=l) (by omega) j2;rw[e2,aqI,hu,aqI,hz];exact .some trivial
  .refine Wp.ite (λ_=>?_) λ_=> .some ⟨j1,j2⟩
   rw[pA (l:=l) (i:=0) (j:=0) 0 0 rfl rfl (aqS _) (aq2 _),aqI];exact .some ⟨by simp,by simp⟩
 .obtain⟨g1,g2⟩:=h6
  refine Wp.seq (λ_=>True) ?_ λS9 _=>?_
  .refine Wp.dec (λ_=> .some trivial) λh=>?_
   obtain⟨u,z,hu,hz⟩:=hd (l:=l6) (by omega) g2;rw[e2,aqI,hu,aqI,hz];exact .some trivial
  .refine Wp.ite (λ_=>?_) λ_=> .some ⟨by omega,g2⟩
   rw[br (by simp;omega),aqI];refine .some ⟨by simp;omega,λx hx=>?_⟩
   rcases aq7.1 hx with h|h
   .exact g2 x h
   .obtain rfl:x=v:=by simpa using h
    exact hv
def LX{p q r:List Int}(i:Int)(hl:p.length<=8)(hq:q.length=p.length)(hr:r.length=p.length)(hp:∀x∈r,Pl p.length x):Wp (M.cS aJ (p,(q,r)) i) (Pl p.length):=by
 unfold M.cS
 refine Wp.seq _ (Vt i hl hq hr) λb hb=>?_
 refine Wp.dec (λ_=> .some (.inl rfl)) λh0=>?_
 refine Wp.dec (λh1=>?_) λ_=> .some (.inr (.inl rfl))
 obtain⟨u,hu,hm⟩:=xP (l:=b) (i:=0) (arO _) (by omega);have:=hb u hm;obtain⟨z,hz,hzm⟩:=xP (l:=r) (i:=u) this.1 (by omega);rw[hu,aqI];dsimp only;rw[hz,aqI];exact .some (hp z hzm)
def HJ{α:Type}{l:List α}{i:Int}{y x:α}(h:x∈bn l i y):x∈l\/x=y:=by
 unfold bn at h;exact List.mem_or_eq_of_mem_set h
def Vu{p q:List Int}{a:List Bool}(hl:p.length<=8)(hq:q.length=p.length)(ha:a.length=p.length):Wp (M.gv aJ p q a) λr=>r.length=p.length/\∀x∈r,Pl p.length x:=by
 unfold M.gv;rw[wp_bind];refine sY.2 ⟨by omega,?_⟩;rw[aqR]
 have hw:∀n:Nat,n<=8->aqJ.wrap ((n:Int)-1)=(n:Int)-1:=λn h=>aH (by omega) (by omega)
 refine Wp.loop (λs=>(∃k:Nat,s.1=(k:Int)-1/\k<=p.length)/\s.2.length=p.length/\∀x∈s.2,Pl p.length x) (λs=>(s.1+1).toNat) ⟨⟨p.length,hw _ hl,aqS _⟩,by simp,λx hx=>?_⟩ ?_ ?_
 .rw[List.mem_replicate]at hx;exact .inr (.inr ⟨by omega,by omega⟩)
 .dsimp only;rw[hw _ hl];unfold aJ;omega
 .rintro⟨c,l⟩ ⟨⟨k,hk,If⟩,j1,j2⟩
  dsimp only at hk j1 j2;subst hk
  refine Wp.dec (λaI=>?_) λhge=> .some ⟨j1,j2⟩
  obtain⟨m,rfl⟩:∃m,k=m+1:=⟨k-1,by dsimp only at aI;omega⟩
  have hm:(((m+1:Nat):Int)-1)=(m:Int):=by omega
  rw[hm]
  have hml:m<p.length:=by omega
  dsimp only
  refine Wp.seq (λj=>j.length=p.length/\∀x∈j,Pl p.length x) ?_ λj hj=> .some ⟨⟨⟨m,by rw[hw _ (by omega)],by omega⟩,hj⟩,by dsimp only;rw[hw _ (by omega)];omega⟩
  refine Wp.seq _ (LX (m:Int) hl hq j1 j2) λv hv=>?_
  have s1:(bn l (m:Int) v).length=p.length:=by rw[fg];exact j1
  have s2:∀x∈bn l (m:Int) v,Pl p.length x:=λx hx=>by
   rcases HJ hx with h|rfl
   .exact j2 x h
   .exact hv
  rw[aF (show m<l.length by omega),aqI]
  refine Wp.seq (λ_=>True) ?_ λj6 _=>?_
  .rw[aF (show m<(bn l (m:Int) v).length by omega),aqI]
   refine Wp.dec (λ_=>?_) λ_=> .some trivial
   rw[aF (show m<a.length by omega),aqI];exact .some trivial
  .refine Wp.ite (λ_=>?_) λ_=> .some ⟨s1,s2⟩
   rw[aF (show m<(bn l (m:Int) v).length by omega),aqI];refine .some ⟨by rw[fg];exact s1,λx hx=>?_⟩
   rcases HJ hx with h|rfl
   .exact s2 x h
   .exact .inr (.inr ⟨by omega,by omega⟩)
def Od(p q:List Int)(a:List Bool)(hp:p.length<=100000):Wp (M.eP aJ p q a) (Pl p.length):=by
 unfold M.eP
 have hV:Wp (M.eB aJ p q) λc=>c=0->p.length<=8/\q.length=p.length:=by
  unfold M.eB
  refine Wp.mO (λ_=> .some λh=>by cases h) λh1=>?_
  refine Wp.dec (λ_=> .some λh=>by cases h) λh2=>?_
  have hq:q.length=p.length:=by omega
  refine Wp.count (λs=>s) p.length (λ_ _=>True) (by omega) rfl trivial λk s hk hs _=>?_
  obtain rfl:s=_:=hs
  refine Wp.dec (λaI=>?_) λhge=> .some λ_=>⟨by omega,hq⟩
  have aI:k<p.length:=by omega
  rw[aF aI,aqI]
  refine Wp.seq (λ_=>True) (Wp.dec (λ_=> .some trivial) λ_=> .some trivial) λj3 _=>?_
  refine Wp.ite (λ_=> .some λh=>by cases h) λ_=>?_
  refine Wp.seq (λ_=>True) ?_ λj4 _=>?_
  .rw[aF (show k<q.length by omega),aqI]
   exact Wp.dec (λ_=> .some trivial) λ_=> .some trivial
  .exact Wp.ite (λ_=> .some λh=>by cases h) λ_=> .some ⟨aI,bF (m:=p.length) (by omega) aI,trivial⟩
 refine Wp.seq (λj=>j=ah->p.length<=8/\q.length=p.length/\a.length=p.length) ?_ λj hj=>?_
 .refine Wp.seq _ hV λc hc=>?_
  refine Wp.mO (λ_=> .some λh=>by cases h) λh=> .some λg=>?_
  obtain⟨h1,h2⟩:=hc h;refine⟨h1,h2,?_⟩
  have:(a.length:Int)=(p.length:Int):=by simpa using g
  omega
 .cases j with
  |true=>rw[al rfl];exact .some (.inl rfl)
  |false=>
   obtain⟨h1,h2,h3⟩:=hj rfl;rw[aj (by decide)]
   refine Wp.seq _ (Vu h1 h2 h3) λr hr=>?_
   rw[wp_bind]
   exact(LX (-1) h1 h2 hr.1 hr.2).mono λy hy=> .some hy
end L
namespace L
def inD(d:Int)(r:jV):Bool:=decide (wQ r.2.2.2.2.1 d)
def yM(rules:List jV)(d:Int):List Int:=ids (kp rules (inD d)) rules.length
def AZ(rules:List jV)(d:Int):(iG d rules).2.1=yM rules d:=by
 suffices∀k,k<=rules.length->(iG d (rules.take k)).2.1=ids (kp rules (inD d)) k by
  have:=this rules.length (aqS _)
  rwa [ara]at this
 intro k
 induction k with
 |zero=>intro _;rfl
 |succ k ih=>
  intro hk
  have aI:k<rules.length:=by omega
  have mf:iG d (rules.take (k+1))=eD d (iG d (rules.take k)) rules[k]:=by
   unfold iG;rw[List.take_add_one,aqK aI,List.foldl_append];rfl
  have hl:=(p8 d (rules.take k)).1
  have NH:(rules.take k).length=k:=by rw[aq9];omega
  rw[mf,oX,qD aI,<-ih (by omega)];unfold eD inD;by_cases h:wQ rules[k].2.2.2.2.1 d
  .rw[al h,al (au h),hl,NH]
  .rw[aj h,aj (show¬decide (wQ rules[k].2.2.2.2.1 d)=af by simpa using h),List.append_nil]
def Oe{rules:List jV}{d:Int}{i:Nat}(h:i<(fY rules d).length)(h':i<(yM rules d).length):∃j,∃hj:j<rules.length,(yM rules d)[i]=(j:Int)/\wQ rules[j].2.2.2.2.1 d/\∃p:Int,(fY rules d)[i]=HB rules[j] p:=by
 obtain⟨j,hj,hp,he⟩:=kG.1 (aqN h');rw[qD hj]at hp;refine⟨j,hj,he,ao hp,?_⟩
 have hi:i<(iG d rules).2.1.length:=by rw[AZ];exact h'
 have hi2:i<(iG d rules).2.2.length:=by rw[(p8 d rules).2.2];exact hi
 refine⟨(iG d rules).2.2[i],?_⟩
 have e1:(iG d rules).2.1[i]=(j:Int):=by
  rw[<-he];exact List.getElem_of_eq (AZ rules d) hi
 have:(fY rules d)[i]=yp rules ((iG d rules).2.1[i],(iG d rules).2.2[i]):=by
  simp only[fY,List.getElem_map,List.getElem_zip]
 rw[this,e1];unfold yp;simp only[aqR,aqK hj,arn]
def Sr{l:List Int}(hl:l.length<=1000000)(hn:l.Nodup):∃r,M.cW aJ l=aa r/\r.Pairwise (· < ·)/\∀y,y∈r↔y∈l:=by
 refine⟨ra l,?_,?_,λy=>List.mem_mergeSort⟩
 .unfold M.cW Cw;rw[al (by omega)]
 .have h1:(ra l).Pairwise λa b=>decide (a<=b)=af:=List.pairwise_mergeSort (λa b c h1 h2=>by simp at*;omega) (λa b=>by simp;omega) l
  have h2:(ra l).Nodup:=(List.mergeSort_perm l _).symm.nodup hn
  refine(h1.and h2).imp λ{a b}h=>?_
  have:=h.1;have:=h.2;simp at*;omega
def Vv{a b:Nat}(h:a+b<=2000000):aqJ.wrap (iF .u64 (aqP.wrap (aqJ.wrap ((a:Int)+(b:Int)))) (1:Int))=(((a+b)/2:Nat):Int):=by
 rw[aH (n:=(a:Int)+(b:Int)) (by omega) (by omega)]
 have h1:aqP.wrap ((a:Int)+(b:Int))=(a:Int)+(b:Int):=by
  simp[IntKind.wrap,ase,IntKind.signed];omega
 rw[h1]
 have h2:iF .u64 ((a:Int)+(b:Int)) 1=(((a+b)/2:Nat):Int):=by
  unfold iF
  show((a:Int)+(b:Int)).fdiv 2=_
  rw[Int.fdiv_eq_ediv_of_nonneg _ (by decide)];omega
 rw[h2,aH (by omega) (by omega)]
def Of{l:List Int}{i:Nat}(hl:l.length<=1000000)(hs:l.Pairwise (· < ·))(hi:i<l.length):∃b,M.dC aJ l l[i]=aa ((i:Int),b):=by
 have aI:∀{a b:Nat}(ha:a<l.length)(hb:b<l.length),a<b->l[a]<l[b]:=λha hb h=>List.pairwise_iff_getElem.1 hs _ _ ha hb h
 have acr:∀a b:Int,M.cmp_Less_int aJ a b=aa (decide (a<b)):=λa b=>by
  unfold M.cmp_Less_int M.cmp_isNaN_int;simp
 have:Wp (M.dC aJ l l[i]) λr=>r.1=(i:Int):=by
  unfold M.dC
  refine Wp.seq (λp=>p=(i:Int)) ?_ λp hp=>?_
  .refine Wp.loop (λs=>∃a b:Nat,s=((a:Int),(b:Int))/\a<=i/\i<=b/\b<=l.length/\(b=i\/i<b)) (λs=>(s.2-s.1).toNat) ⟨0,l.length,rfl,by omega,by omega,by omega,by omega⟩ (by dsimp only;unfold aJ;omega) ?_
   rintro s ⟨a,b,rfl,h1,h2,h3,h4⟩
   dsimp only
   refine Wp.dec (λh=>?_) λh=> .some (show((a:Nat):Int)=(i:Int) by omega)
   have hm:(a+b)/2<l.length:=by omega
   rw[Vv (by omega)]
   refine Wp.seq (λj=>∃a' b':Nat,j=((a':Int),(b':Int))/\a'<=i/\i<=b'/\b'<=l.length/\b'-a'<b-a) ?_ λj hj=>?_
   .rw[aF hm,aqI,acr,aqI]
    refine Wp.dec (λg=> .some ⟨(a+b)/2+1,b,?_,?_,h2,h3,by omega⟩) λg=> .some ⟨a,(a+b)/2,rfl,h1,?_,by omega,by omega⟩
    .rw[bF (m:=l.length) (by omega) hm]
    .by_cases e:i<=(a+b)/2
     .rcases Nat.lt_or_eq_of_le e with e|e
      .have:=aI hi hm e;omega
      .subst e;omega
     .omega
    .by_cases e:(a+b)/2<i
     .exact absurd (aI hm hi e) g
     .omega
   .obtain⟨a',b',rfl,g1,g2,g3,g4⟩:=hj;exact .some ⟨⟨a',b',rfl,g1,g2,g3,by omega⟩,by dsimp only;omega⟩
  .subst hp
   refine Wp.seq (λr=>r.1=(i:Int)) ?_ λr hr=> .some hr
   refine Wp.dec (λ_=>?_) λh=>absurd (show((i:Nat):Int)<(l.length:Int) by omega) h
   rw[aF hi,aqI]
   exact Wp.dec (λ_=> .some rfl) λh=>absurd rfl h
 obtain⟨⟨r1,r2⟩,e,h⟩:=this;dsimp only at h;exact⟨r2,by rw[e,h]⟩
abbrev Tc:=cn.den
structure BM(l:Lw)(x:iV)(d:Int)(m:Tc):Prop where
 scope:m.1=x
 inds:m.2.2=yM x.2.2.2.2 d
 prg:Prg l x d (m.2.1.2.1,m.2.1.1,m.2.1.2.2.1,m.2.1.2.2.2)
def A0(l:Lw)(hw:WF cC l)(lU:lf l)(hv:Valid l)(k:Nat)(hk:k<l.2.2.length)(d:Int):Wp (M.cX aJ l (k:Int) d) (BM l l.2.2[k] d):=by
 have rE:=lU.2.2.2.2.2 _ (aqN hk);have Zs:=hv.scope k hk;have wP:=hw.2.2.2 _ (aqN hk);unfold M.cX;rw[aF hk,aqI]
 refine Wp.seq _ (J4 l hw lU hv k hk d) λp hp=>?_
 obtain⟨x,hx⟩:∃x,x=l.2.2[k]:=⟨_,rfl⟩
 rw[<-hx]at rE Zs wP hp⊢;have UX:=rE.2.2.2.1;have EO:=rE.2.2.1
 have ajb:∀j(hj:j<x.2.2.2.2.length),∃c,c<x.2.2.2.1.length/\(x.2.2.2.2[j].2.1:Int)=(c:Int):=λj hj=>by
  obtain⟨⟨c,hc,e,_⟩,_⟩:=vw wP hj (Zs.2.2.2.2.2.2.1 j hj);exact⟨c,hc,e⟩
 refine Wp.seq (λj=>j.1=p.2.1/\j.2.1=p.2.2.1/\j.2.2.1=p.2.2.2/\j.2.2.2.1=x/\j.2.2.2.2.1=p.1/\j.2.2.2.2.2.length<=100000/\j.2.2.2.2.2.Nodup/\∀y,y∈j.2.2.2.2.2↔y∈yM x.2.2.2.2 d) ?_ λj hj=>?_
 .refine Wp.count (λs=>s.1) x.2.2.2.1.length (λk s=>s.2.1=p.2.1/\s.2.2.1=p.2.2.1/\s.2.2.2.1=p.2.2.2/\s.2.2.2.2.1=x/\s.2.2.2.2.2.1=p.1/\s.2.2.2.2.2.2.length<=k*60/\s.2.2.2.2.2.2.Nodup/\∀y,y∈s.2.2.2.2.2.2↔∃c,c<k/\y∈uG x.2.2.2.2 (c:Int) d) (by omega) rfl ⟨rfl,rfl,rfl,rfl,rfl,aq2 _, .nil,λy=>⟨λh=>(by cases h),λ⟨c,h,_⟩=>(by omega)⟩⟩ λq s hq hs hJ=>?_
  obtain⟨c,o,G,V,x',R,li⟩:=s;obtain⟨j1,j2,j3,j4,j5,j6,j7,j8⟩:=hJ;dsimp only at hs j1 j2 j3 j4 j5 j6 j7 j8;subst hs j1 j2 j3 j4 j5
  refine Wp.dec (λaI=>?_) λhge=>?_
  .have aI:q<x'.2.2.2.1.length:=by dsimp only at aI;omega
   dsimp only;have hle:(uG x'.2.2.2.2 (q:Int) d).length<=60:=Nat.le_trans (pI ..) (by omega);rw[J5 x' (q:Int) d (by omega),aqI,br (by omega),aqI];refine .some ⟨aI,bF (m:=x'.2.2.2.1.length) (by omega) aI,rfl,rfl,rfl,rfl,rfl,by dsimp only;rw[aqT];omega,?_,λy=>?_⟩
   .rw[List.nodup_append];refine⟨j7,(EC ..).imp λh=>by omega,λa ha b hb=>?_⟩;obtain⟨c,hc,hm⟩:=(j8 a).1 ha;obtain⟨i,hi,Kn,rfl⟩:=kG.1 hm;obtain⟨i',jn,Tz,rfl⟩:=kG.1 hb;rw[qD hi]at Kn;rw[qD jn]at Tz;have e1:=(ao Kn).1;have e2:=(ao Tz).1;intro he
    obtain rfl:i=i':=by omega
    have e3:(c:Int)=(q:Int):=e1.symm.trans e2;omega
   .dsimp only;rw[aq7,j8];constructor
    .rintro(⟨c,hc,hm⟩|hm)
     .exact⟨c,by omega,hm⟩
     .exact⟨q,by omega,hm⟩
    .rintro⟨c,hc,hm⟩
     by_cases h:c<q
     .exact .inl ⟨c,h,hm⟩
     .obtain rfl:c=q:=by omega
      exact .inr hm
  .have hge:q=x'.2.2.2.1.length:=by dsimp only at hge;omega
   refine .some ⟨rfl,rfl,rfl,rfl,rfl,by dsimp only;omega,j7,λy=>?_⟩;dsimp only;rw[j8];constructor
   .rintro⟨c,hc,hm⟩
    obtain⟨i,hi,Kn,rfl⟩:=kG.1 hm;rw[qD hi]at Kn;refine kG.2 ⟨i,hi,?_,rfl⟩;rw[qD hi];exact au (ao Kn).2
   .intro hm;obtain⟨i,hi,Kn,rfl⟩:=kG.1 hm;rw[qD hi]at Kn;obtain⟨c,hc,e⟩:=ajb i hi;refine⟨c,by omega,kG.2 ⟨i,hi,?_,rfl⟩⟩;rw[qD hi];exact au ⟨e,ao Kn⟩
 .obtain⟨o,G,V,x',R,li⟩:=j;obtain⟨j1,j2,j3,j4,j5,j6,j7,j8⟩:=hj;dsimp only at j1 j2 j3 j4 j5 j6 j7 j8⊢;subst j1 j2 j3 j4 j5;obtain⟨r,e,h1,h2⟩:=Sr (by omega) j7;rw[e,aqI];refine .some ⟨rfl,?_,hp⟩
  exact LW h1 (EC ..) λy=>(h2 y).trans (j8 y)
def BM.St{l:Lw}{x:iV}{d:Int}{m:Tc}(h:BM l x d m)(hs:jW x){i:Nat}(hi:i<(yM x.2.2.2.2 d).length):M.de aJ m (yM x.2.2.2.2 d)[i]=aa (i:Int):=by
 unfold M.de;rw[h.inds];have UX:=hs.2.2.2.1;have hle:(yM x.2.2.2.2 d).length<=60:=Nat.le_trans (pI ..) (by omega);obtain⟨b,e⟩:=Of (l:=yM x.2.2.2.2 d) (by omega) (EC ..) hi;rw[e];rfl
end L
namespace L.P.V
end L.P.V
namespace L
abbrev Vl:Type:=aE.den
def YR(vs:List Vl)(fs:List Fd):Prop:=vs.length=fs.length/\∀(k:Nat)(v:Vl)(f:Fd),vs[k]? =aa v->fs[k]? =aa f->P.ma v f.2
def Td(vs:List Vl)(fs:List Fd):Prop:=vs.length=fs.length/\∀(k:Nat)(v:Vl)(f:Fd),vs[k]? =aa v->fs[k]? =aa f->P.ma v f.2\/(v.1:Int)=0
def EnL(l:Lw):Prop:=l.1.length<=8/\∀e∈l.1,e.2.length<=16
def Valid.enl{l:Lw}(h:Valid l):EnL l:=by
 obtain⟨h1,_,_,h4,_⟩:=h.scopes;refine⟨h1,λe he=>?_⟩;obtain⟨k,hk,rfl⟩:=aqZ he;have:=h4 k hk;unfold pk at this;rw[aqK hk]at this;dsimp only at this;split at this
 .cases this
 split at this
 .cases this
 split at this
 .cases this
 split at this
 .cases this
 omega
def YS{l:Lw}(hE:EnL l){t:Ty}{v:Vl}(h1:(v.1:Int)=t.1)(h2:(v.2.1:Int)=t.2)(h3:¬((v.2.2:Int)<(I6 t l.1).1\/(I6 t l.1).2<(v.2.2:Int))):P.ma v t:=by
 obtain⟨(a:Int),(b:Int),(n:Int)⟩:=v;obtain⟨(k:Int),(e:Int)⟩:=t;dsimp only[aC,Row.den]at*;subst h1 h2;unfold I6 at h3;by_cases hv:mH (a,b) l.1.length
 .rw[aj (λg=>g hv)]at h3;refine⟨?_,rfl,rfl⟩;unfold P.bD;unfold mH at hv;dsimp only[aC,Row.den]at*;by_cases c1:a=1
  .rw[al c1]at h3;dsimp only at h3;omega
  rw[aj c1]at h3;by_cases c2:a=2
  .rw[al c2]at h3;dsimp only at h3;omega
  rw[aj c2]at h3;by_cases c3:a=3
  .rw[al c3]at h3;dsimp only at h3;omega
  rw[aj c3]at h3;by_cases c4:a=4
  .rw[al c4]at h3;dsimp only at h3;omega
  rw[aj c4]at h3;by_cases c5:a=5
  .rw[al c5]at h3;dsimp only at h3;omega
  rw[aj c5]at h3;dsimp only at h3;have h8:=hE.1
  have hb:(0:Int)<=b/\b<(l.1.length:Int):=by omega
  have hbl:b.toNat<l.1.length:=by omega
  have Zh:=hE.2 _ (aqN hbl);rw[aqK hbl]at h3;dsimp only[Option.map_some,arn]at h3;rw[aH (by omega) (by omega)]at h3;omega
 .rw[al hv]at h3;dsimp only at h3;omega
def tK{l:Lw}(hE:EnL l)(vs:List Vl)(fs:List Fd)(h1:vs.length<=100000)(h2:fs.length<=100000):Wp (M.dK aJ l vs fs) λr=>r.2=0->YR vs fs:=by
 unfold M.dK
 refine Wp.dec (λ_=> .some λh=>by cases h) λc1=>?_
 refine Wp.dec (λ_=> .some λh=>by cases h) λc2=>?_
 have hl:vs.length=fs.length:=by omega
 refine Wp.count (λs=>s) vs.length (λk _=>∀(j:Nat)(v:Vl)(f:Fd),j<k->vs[j]? =aa v->fs[j]? =aa f->P.ma v f.2) (by omega) rfl (λj v f h=>by omega) λk s hk hs hJ=>?_
 obtain rfl:s=_:=hs
 refine Wp.dec (λaI=>?_) λhge=> .some λ_=>⟨hl,λj v f hv hf=>hJ j v f ?_ hv hf⟩
 .have aI:k<vs.length:=by omega
  rw[aF aI,aqI,aF (show k<fs.length by omega),aqI]
  refine Wp.seq (λj=>j=ah->(vs[k].1:Int)=fs[k].2.1/\(vs[k].2.1:Int)=fs[k].2.2) ?_ λj hj=>?_
  .exact Wp.mO (λ_=> .some λh=>by cases h) λh=> .some λg=>⟨h,by simpa using g⟩
  refine Wp.ite (λ_=> .some λh=>by cases h) λc3=>?_
  obtain⟨g1,g2⟩:=hj (by simpa using c3);rw[ze,aqI]
  refine Wp.seq (λj=>j=ah->¬((vs[k].2.2:Int)<(I6 fs[k].2 l.1).1\/(I6 fs[k].2 l.1).2<(vs[k].2.2:Int))) ?_ λj hj=>?_
  .exact Wp.dec (λ_=> .some λh=>by cases h) λh=> .some λg=>λo=>o.elim h (by simpa using g)
  refine Wp.ite (λ_=> .some λh=>by cases h) λc4=> .some ⟨aI,bF (m:=vs.length) (by omega) aI,λj v f EL hv hf=>?_⟩
  by_cases e:j<k
  .exact hJ j v f e hv hf
  .obtain rfl:j=k:=by omega
   rw[aqK aI]at hv;rw[aqK (show j<fs.length by omega)]at hf;obtain rfl:=aqL hv;obtain rfl:=aqL hf;exact YS hE g1 g2 (hj (by simpa using c4))
 .have:=(aqQ.1 hv).1;omega
structure acs(l:Lw)(x:iV)(c:gO.den):Prop where
 inp:YR c.2.1 x.2.2.1
 le:c.2.2.length<=8
 mem:∀vs∈c.2.2,∃k,∃hk:k<l.2.2.length,(x.2.1:Int)=(k:Int)/\YR vs l.2.2[k].2.2.1
def Vw{l:Lw}(hE:EnL l)(lU:lf l){k:Nat}(hk:k<l.2.2.length)(c:gO.den)(h1:c.2.1.length<=14)(h2:c.2.2.length<=10)(h3:∀vs∈c.2.2,vs.length<=14):Wp (M.gq aJ l (k:Int) c) λr=>r.2.2=0->acs l l.2.2[k] c:=by
 have rE:=lU.2.2.2.2.2 _ (aqN hk);unfold M.gq
 refine Wp.seq (λ_=>True) (Wp.dec (λ_=> .some trivial) λ_=> .some trivial) λj1 _=>?_
 refine Wp.ite (λ_=> .some λh=>by cases h) λ_=>?_
 refine Wp.seq (λ_=>True) (Wp.dec (λ_=> .some trivial) λ_=> .some trivial) λj2 _=>?_
 refine Wp.ite (λ_=> .some λh=>by cases h) λ_=>?_
 rw[aF hk,aqI]
 refine Wp.seq _ (tK hE c.2.1 l.2.2[k].2.2.1 (by omega) (by have:=rE.2.1;omega)) λy4 hy4=>?_
 refine Wp.mO (λh=> .some λg=>absurd g h) λc4=>?_
 have eJ:=hy4 c4
 have WG:Wp (M.fK aJ l (k:Int)) λy=>(y.2:Int)<=8/\((y.2:Int)=0\/∃q,∃hq:q<l.2.2.length,(l.2.2[k].2.1:Int)=(q:Int)/\y.1=l.2.2[q].2.2.1)/\y.1.length<=14:=by
  unfold M.fK;rw[aF hk,aqI]
  refine Wp.seq (λj=>j=ah->(0:Int)<=l.2.2[k].2.1/\(l.2.2[k].2.1:Int)<(l.2.2.length:Int)) ?_ λj hj=>?_
  .refine Wp.dec (λ_=> .some λh=>by cases h) λh=> .some λg=>?_
   have g:=aq g;exact⟨Int.not_lt.1 h,Int.not_le.1 g⟩
  refine Wp.ite (λ_=> .some ⟨by show(0:Int)<=8;omega, .inl rfl,by simp⟩) λc=>?_
  obtain⟨g1,g2⟩:=hj (by simpa using c);obtain⟨q,hq⟩:=aqV g1;have g3:(q:Int)<(l.2.2.length:Int):=hq▸g2
  have Og:q<l.2.2.length:=by omega
  have e:idx l.2.2 l.2.2[k].2.1=aa l.2.2[q]:=by
   rw[show idx l.2.2 l.2.2[k].2.1=idx l.2.2 (q:Int)from ay _ hq,aF Og]
  rw[e,aqI];exact .some ⟨by show(8:Int)<=8;omega, .inr ⟨q,Og,hq,rfl⟩,(lU.2.2.2.2.2 _ (aqN Og)).2.1⟩
 refine Wp.seq _ WG λy5 hy5=>?_
 obtain⟨i1,i2,i3⟩:=hy5
 refine Wp.dec (λ_=> .some λh=>by cases h) λc5=>?_
 have h8:c.2.2.length<=8:=by omega
 refine Wp.count (λs=>s) c.2.2.length (λm _=>∀j(h:j<c.2.2.length),j<m->YR c.2.2[j] y5.1) (by omega) rfl (λj h g=>by omega) λm s hm hs hJ=>?_
 obtain rfl:s=_:=hs
 refine Wp.dec (λaI=>?_) λhge=> .some λ_=>⟨eJ,h8,λvs Zq=>?_⟩
 .have aI:m<c.2.2.length:=by omega
  rw[aF aI,aqI]
  refine Wp.seq _ (tK hE c.2.2[m] y5.1 (by have:=h3 _ (aqN aI);omega) (by omega)) λy8 hy8=>?_
  refine Wp.mO (λh=> .some λg=>absurd g h) λc8=> .some ⟨aI,bF (m:=c.2.2.length) (by omega) aI,λj h hj=>?_⟩
  by_cases e:j<m
  .exact hJ j h e
  .obtain rfl:j=m:=by omega
   exact hy8 c8
 .obtain⟨j,hj,rfl⟩:=aqZ Zq
  rcases i2 with i2|⟨q,hq,e1,e2⟩
  .omega
  .exact⟨q,hq,e1,e2▸hJ j hj (by omega)⟩
abbrev Su:=bR.den
structure J6(l:Lw)(x:iV)(d:Int)(env:Su):Prop where
 date:env.1=d
 inp:YR env.2.1 x.2.2.1
 dfs:Td env.2.2.1 x.2.2.2.1
 mts:env.2.2.2.2.1=(dR l x).2.2.2.2.1
 lem:env.2.2.2.1.length<=100
 mem:∀D∈env.2.2.2.1,∀(k:Nat)(t:Ty),(dR l x).2.2.2.2.1[k]? =aa t->∃v,D[k]? =aa v/\(P.ma v t\/(v.1:Int)=0)
 tbs:env.2.2.2.2.2=l.2.1
def J6.ok{l:Lw}(hw:WF cC l){x:iV}{d:Int}{env:Su}(h:J6 l x d env):P.kl env:=by
 refine⟨h.lem,λt ht=>?_⟩;rw[h.tbs]at ht;have:=(hw.2.1.2 t ht).2.2.2.1;unfold maxLen at this;exact this
def J6.agr{l:Lw}{x:iV}{d:Int}{env:Su}(h:J6 l x d env):P.Yz (dR l x) env:=by
 refine⟨λk t hk=>?_,λk t hk=>?_,λk t hk=>?_,h.mem,λk T hk=>?_⟩
 .have hk:(x.2.2.1.map (·.2))[k]? =aa t:=hk;rw[arP]at hk;obtain⟨f,hf,rfl⟩:=arH.1 hk;have hl:=(aqQ.1 hf).1
  have zJ:k<env.2.1.length:=by rw[h.inp.1];exact hl
  exact⟨_,aqK zJ,h.inp.2 k _ f (aqK zJ) hf⟩
 .have hk:(x.2.2.2.1.map (·.2))[k]? =aa t:=hk;rw[arP]at hk;obtain⟨f,hf,rfl⟩:=arH.1 hk;have hl:=(aqQ.1 hf).1
  have zJ:k<env.2.2.1.length:=by rw[h.dfs.1];exact hl
  exact⟨_,aqK zJ,h.dfs.2 k _ f (aqK zJ) hf⟩
 .rw[h.mts];exact hk
 .have hk:l.2.1[k]? =aa T:=hk;rw[h.tbs];exact⟨T,hk,rfl,rfl⟩
structure Rl(l:Lw)(x:iV)(d:Int)(m:Tc)(y:Int)(i j:Nat)(hj:j<x.2.2.2.2.length):Prop where
 num:y=(j:Int)
 pos:M.de aJ m y=aa (i:Int)
 ind:idx m.2.2 (i:Int)=aa y
 code:∃g v,idx m.2.1.2.2.1 (i:Int)=aa g/\idx m.2.1.2.2.2 (i:Int)=aa v/\LV x.2.2.2.2[j].2.2.2.2.2.1 (dR l x) g/\P.V.Code x.2.2.2.2[j].2.2.2.2.2.2.1 (dR l x) v
def BM.Vx{l:Lw}{x:iV}{d:Int}{m:Tc}(h:BM l x d m)(hs:jW x){y:Int}(hy:y∈yM x.2.2.2.2 d):∃i j,∃hj:j<x.2.2.2.2.length,Rl l x d m y i j hj:=by
 obtain⟨i,hi,rfl⟩:=aqZ hy;have hp:=h.prg;have hr:=hp.rules;have h1:=hp.gl;have h2:=hp.vl;have hc:=hp.code;dsimp only at hr h1 h2 hc
 have hl:(fY x.2.2.2.2 d).length=(yM x.2.2.2.2 d).length:=by rw[qC,AZ]
 have jn:i<(fY x.2.2.2.2 d).length:=by omega
 obtain⟨j,hj,e,_,p,ep⟩:=Oe jn hi
 have hir:i<m.2.1.2.1.length:=by rw[hr];exact jn
 obtain⟨c1,c2⟩:=hc i hir (by omega) (by omega)
 have er:m.2.1.2.1[i]=HB x.2.2.2.2[j] p:=by
  rw[<-ep];exact List.getElem_of_eq hr hir
 rw[er]at c1 c2;exact⟨i,j,hj,e,h.St hs hi,by rw[h.inds];exact aF hi,_,_,aF (show i<m.2.1.2.2.1.length by omega),aF (show i<m.2.1.2.2.2.length by omega),c1,c2⟩
inductive Sv(l:Lw)(x:iV)(d:Int)(m:Tc)(mem a:Int):Int×aG.den->Int×aG.den->Prop
 |err {r r':Int} {e:aG.den}:(e.1:Int)≠0->Sv l x d m mem a (r,e) (r',e)
 |none {e:aG.den} {r':Int}:(e.1:Int)=0->Sv l x d m mem a (-1,e) (r',((10:Int),(mem,(a,(-1:Int)))))
 |two {e:aG.den} {r':Int}:(e.1:Int)=0->Sv l x d m mem a (-2,e) (r',((11:Int),(mem,(a,(-1:Int)))))
 |Vx {e e':aG.den} {y:Int} {i j:Nat} {hj:j<x.2.2.2.2.length}:(e.1:Int)=0->(e'.1:Int)=0->0<=y->(x.2.2.2.2[j].2.1:Int)=a->Rl l x d m y i j hj->Sv l x d m mem a (y,e) ((i:Int),e')
end L
namespace L
def has_eq(l:List Int)(x:Int)(hl:l.length<=100000):M.rc aJ l x=aa (decide (x∈l)):=by
 apply Wp.eq;unfold M.rc
 refine Wp.count (λs=>s) l.length (λk _=>∀i(h:i<l.length),i<k->l[i]≠x) (by omega) rfl (λi h g=>by omega) λk s hk hs hJ=>?_
 obtain rfl:s=_:=hs
 refine Wp.dec (λaI=>?_) λhge=> .some ?_
 .have aI:k<l.length:=by omega
  rw[aF aI,aqI]
  refine Wp.dec (λh=> .some ?_) λh=> .some ⟨aI,bF (m:=l.length) (by omega) aI,λi hi hik=>?_⟩
  .exact(au (h▸aqN aI)).symm
  .by_cases e:i<k
   .exact hJ i hi e
   .obtain rfl:i=k:=by omega
    exact h
 .refine(av λhm=>?_).symm;obtain⟨i,hi,e⟩:=aqZ hm;exact hJ i hi (by omega) e
def Sw{s:iV}(hs:jW s)(d:Int)(p:List Int)(hp:p.length<=100000):M.qm aJ s d p=aa (decide (∀y∈mc s d,y∈p)):=by
 have hl:=(ld s d).len;have EO:=hs.2.2.1;apply Wp.eq;unfold M.qm;rw[Li s hs.few d,aqI]
 refine Wp.count (λs=>s) (mc s d).length (λk _=>∀i(h:i<(mc s d).length),i<k->(mc s d)[i]∈p) (by omega) rfl (λi h g=>by omega) λk t hk ht hJ=>?_
 obtain rfl:t=_:=ht
 refine Wp.dec (λaI=>?_) λhge=> .some ?_
 .have aI:k<(mc s d).length:=by omega
  rw[aF aI,aqI,has_eq _ _ hp,aqI]
  refine Wp.mO (λh=> .some ?_) λh=> .some ⟨aI,bF (m:=(mc s d).length) (by omega) aI,λi hi hik=>?_⟩
  .exact(av λg=>h (g _ (aqN aI))).symm
  .by_cases e:i<k
   .exact hJ i hi e
   .obtain rfl:i=k:=by omega
    exact h
 .refine(au λy hy=>?_).symm;obtain⟨i,hi,rfl⟩:=aqZ hy;exact hJ i hi (by omega)
def CX{s:iV}(hs:jW s){o:List Int}(h:tJ s o)(hl:o.length=s.2.2.2.1.length):M.iE aJ s=aa ((0:Int),o):=by
 have EO:=hs.2.2.1;apply Wp.eq;unfold M.iE
 refine Wp.count (λt=>(t.length:Int)) s.2.2.2.1.length (λk t=>t=o.take k) (by omega) rfl (by simp) λk t hk ht hJ=>?_
 subst hJ
 have hlen:(o.take k).length=k:=by rw[aq9];omega
 refine Wp.dec (λaI=>?_) λhge=> .some ?_
 .have jh:k<o.length:=by rw[hlen]at aI;omega
  obtain⟨hR,EB⟩:=h k jh;obtain⟨m,hm⟩:=aqV hR.1.1;have Zj:=hR.1.2;rw[hm]at hR EB Zj
  refine Wp.seq (λj=>j=(m:Int)) ?_ λj hj=>?_
  .refine Wp.count (λi=>i) s.2.2.2.1.length (λi _=>i<=m) (by omega) rfl (aq2 _) λi t hi ht hJ=>?_
   obtain rfl:t=_:=ht
   refine Wp.seq (λb=>b=af↔¬Oa s (o.take k) (i:Int)) ?_ λb hb=>?_
   .refine Wp.dec (λeJ=>?_) λaoS=>absurd Zj (by omega)
    rw[has_eq _ _ (by omega),aqI]
    refine Wp.dec (λvi=> .some (iff_of_true rfl λg=>g.2.1 vi)) λhnm=>?_
    rw[Sw hs _ _ (by omega),aqI];refine .some ?_;rw[Bool.not_eq_true',aB];exact not_congr ⟨λg=>⟨by omega,hnm,g⟩,λg=>g.2.2⟩
   .by_cases hr:Oa s (o.take k) (i:Int)
    .rw[aj (λg=>hb.1 g hr)];have:=EB _ hr;exact .some (show(i:Int)=(m:Int) by omega)
    .rw[al (hb.2 hr)]
     have dG:i≠m:=λe=>hr (e▸hR)
     exact .some ⟨by omega,bF (m:=s.2.2.2.1.length) (by omega) (by omega),by omega⟩
  .subst hj;rw[aj (by rw[az];omega),br (by simp;omega),aqI];refine .some ⟨by omega,by simp[hlen],?_⟩
   show _=o.take (k+1)
   rw[List.take_add_one,aqK jh,hm];rfl
 .rw[hlen]at hge
  show((0:Int),o.take k)=_
  rw[List.take_of_length_le (by omega)]
end L
namespace L.T
def wQ(r:Ty)(d:Int):Prop:=VR r/\(r.1:Int)<=d/\d<(r.2:Int)
instance(r:Ty)(d:Int):Decidable (wQ r d):=by unfold wQ;infer_instance
theorem xO(r:Ty)(d:Int):M.bL aJ r d=aa (decide (wQ r d)):=by
 obtain⟨(r1:Int),(r2:Int)⟩:=r;apply Wp.eq;unfold M.bL;simp only[Ec,W_,aw,ax,reduceCtorEq];unfold wQ
 grind
def fg{α:Type}(l:List α)(i:Int)(y:α):(bn l i y).length=l.length:=by unfold bn;simp
def ids(P:Nat->Bool)(k:Nat):List Int:=((arK k).filter P).map λi:Nat=>(i:Int)
theorem oX(P:Nat->Bool)(k:Nat):ids P (k+1)=ids P k++(if P k=af then[(k:Int)]else[]):=by
 unfold ids;rw[List.range_succ,List.filter_append,List.map_append]
 grind
theorem kG{P:Nat->Bool}{k:Nat}{j:Int}:j∈ids P k↔∃i:Nat,i<k/\P i=af/\j=(i:Int):=by
 grind [ids]
def pI(P:Nat->Bool)(k:Nat):(ids P k).length<=k:=by
 grind [ids]
def ix(l:List Int)(n:Int):Int:=iz (λx=>decide (x=n)) l
theorem YT{l:List Int}{n:Int}:0<=ix l n↔n∈l:=by
 grind [ix,qB]
def HK(P:Nat->Bool)(n:Nat):∀m,∃t,ids P (n+m)=ids P n++t
 |0=>⟨[],by simp⟩
 |m+1=>by
  obtain⟨t,ht⟩:=HK P n m
  grind [oX]
theorem YU{P:Nat->Bool}{n k:Nat}(hk:k<n)(h:P k=af):ix (ids P n) (k:Int)=((ids P k).length:Int):=by
 obtain⟨t,ht⟩:=HK P (k+1) (n-(k+1));rw[show k+1+(n-(k+1))=n by omega,oX,al h,ard]at ht;unfold ix
 refine D8 (k:=(ids P k).length) (by rw[ht];simp) ?_ λj hj EL=>?_
 .grind
 grind [kG,aqN]
def J7(rules:List jV)(L:List Int):Nat->Nat->Int
 |0,_=> -1
 |f+1,i=>match rules[i]? with
  |none=> -1
  |some r=>if 0<=(r.2.2.1:Int)/\(r.2.2.1:Int)<(i:Int)then(if 0<=ix L r.2.2.1 then ix L r.2.2.1 else J7 rules L f (r.2.2.1:Int).toNat)else-1
def CY(rules:List jV)(L:List Int):∀f f' i,i<f->i<f'->J7 rules L f i=J7 rules L f' i
 |0,_,_,h,_=>absurd h (Nat.not_lt_zero _)
 |_+1,0,_,_,h=>absurd h (Nat.not_lt_zero _)
 |f+1,f'+1,i,h,h'=>by
  unfold J7
  cases rules[i]? with
  |none=>rfl
  |some r=>
   dsimp only
   obtain⟨(p:Int),YV⟩:∃p:Int,p=r.2.2.1:=⟨_,rfl⟩
   simp only[<-YV];by_cases hp:0<=p/\p<(i:Int)
   .rw[al hp,al hp];by_cases h0:0<=ix L p
    .grind
    .rw[aj h0,aj h0];exact CY rules L f f' _ (by omega) (by omega)
   grind
def xQ(rules:List jV)(L:List Int)(i:Nat):Int:=J7 rules L (i+1) i
def LY{rules:List jV}{L:List Int}{i:Nat}(hi:i<rules.length):xQ rules L i=if 0<=(rules[i].2.2.1:Int)/\(rules[i].2.2.1:Int)<(i:Int)then(if 0<=ix L rules[i].2.2.1 then ix L rules[i].2.2.1 else xQ rules L (rules[i].2.2.1:Int).toNat)else-1:=by
 show J7 rules L (i+1) i=_
 unfold J7;rw[aqK hi];dsimp only
 obtain⟨(p:Int),YV⟩:∃p:Int,p=rules[i].2.2.1:=⟨_,rfl⟩
 simp only[<-YV];by_cases hp:0<=p/\p<(i:Int)
 .rw[al hp,al hp];by_cases h0:0<=ix L p
  .grind
  .rw[aj h0,aj h0];exact CY rules L _ _ _ (by omega) (by omega)
 grind
def Sz(r:Ty)(d:Int):M.ir aJ r d=aa (decide (wQ r d)):=by
 obtain⟨(r1:Int),(r2:Int)⟩:=r;apply Wp.eq;unfold M.ir;simp only[Ld,W_,aw,ax,reduceCtorEq];unfold wQ
 grind
def J8(l:List Int)(n:Int)(hl:l.length<=100000):M.qp aJ l n=aa (ix l n):=by
 unfold M.qp ix;refine D9 (by unfold maxLen;omega) (λk h=>?_) ?_
 .grind [aF]
 grind
def HL(x:iV)(L:List Int)(hL:L.length<=100000)(i:Nat)(hi:i<x.2.2.2.2.length)(jn:i<=100000):M.px aJ x L (i:Int)=aa (xQ x.2.2.2.2 L i):=by
 obtain⟨rules,hr⟩:∃r:List jV,r=x.2.2.2.2:=⟨_,rfl⟩
 apply Wp.eq;unfold M.px;rw[<-hr]at hi⊢;rw[aF hi,aqI];refine Wp.loop (λs=>∃j:Nat,∃hj:j<rules.length,s=((j:Int),rules[j].2.2.1)/\xQ rules L i=xQ rules L j/\j<=i) (λs=>s.1.toNat) ⟨i,hi,rfl,rfl,aqS _⟩ (by unfold aJ;grind) ?_
 rintro s ⟨j,hj,rfl,hp,hji⟩
 dsimp only
 obtain⟨(p:Int),YV⟩:∃p:Int,p=rules[j].2.2.1:=⟨_,rfl⟩
 rw[hp,LY hj,<-YV]
 refine Wp.seq (λb=>b=decide (0<=p/\p<(j:Int))) ?_ λb hb=>?_
 .refine Wp.dec (λh=> .some ?_) λh=> .some ?_
  all_goals grind
 .subst hb
  refine Wp.dec (λh=>?_) λh=> .some ?_
  .rw[al h,J8 _ _ hL,aqI]
   refine Wp.dec (λg=> .some ?_) λg=>?_
   .show ix L p=_
    rw[al g]
   .obtain⟨q,rfl⟩:=aqV h.1
    have hq:q<j:=by omega
    have Og:q<rules.length:=by omega
    rw[aF Og,aqI];refine .some ⟨⟨q,Og,rfl,?_,by omega⟩,by grind⟩
    grind
  .show(-1:Int)=_
   rw[aj h]
def kp(rules:List jV)(Pr:jV->Bool)(i:Nat):Bool:=match rules[i]? with
 |some r=>Pr r
 |none=>ah
def qD{rules:List jV}{Pr:jV->Bool}{i:Nat}(h:i<rules.length):kp rules Pr i=Pr rules[i]:=by
 grind [kp]
def Be(a d:Int)(r:jV):Bool:=decide ((r.2.1:Int)=a/\wQ r.2.2.2.2.1 d)
def uG(rules:List jV)(a d:Int):List Int:=ids (kp rules (Be a d)) rules.length
theorem ED{r:jV}{a d:Int}{β:Type}{k:Bool->Option β}:(((if(decide (r.2.1=a))=af then(aa (decide (wQ r.2.2.2.2.1 d)):Option Bool)else aa ah):Option Bool).bind k)=k (Be a d r):=by
 grind [Be]
def Sq(a d:Int)(r:jV):M.dW aJ r a d=aa (Be a d r,a,d):=by
 grind [M.dW,xO,ED]
def nV(P:Nat->Bool)(n:Nat):List Nat:=(arK n).filter P
def Oh(P:Nat->Bool)(k:Nat):nV P (k+1)=nV P k++(if P k=af then[k]else[]):=qt k P
def SA(P:Nat->Bool)(k:Nat):(nV P k).length=(ids P k).length:=by unfold ids nV;simp
def CZ(rules:List jV)(a d:Int):List Int:=(nV (kp rules (Be a d)) rules.length).map (xQ rules (uG rules a d))
def C0(rules:List jV)(a d:Int):List Int:=(nV (kp rules (Be a d)) rules.length).map λi=>match rules[i]? with
 |some r=>r.2.2.2.1
 |none=>0
def SB{rules:List jV}{a d:Int}(hl:rules.length<=100000):M.fA aJ rules a d=aa (a,d,uG rules a d,CZ rules a d):=by
 unfold M.fA;refine Wp.eq (wp_bind.2 (sY.2 ⟨by omega,?_⟩));rw[aqR]
 obtain⟨P,hP⟩:∃P,P=kp rules (Be a d):=⟨_,rfl⟩
 obtain⟨L,hL⟩:∃L,L=uG rules a d:=⟨_,rfl⟩
 have hLd:L=ids P rules.length:=by rw[hL,hP];rfl
 refine Wp.count (λs=>s.1) rules.length (λk s=>s.2.1=a/\s.2.2.1=d/\s.2.2.2.1.length=rules.length/\(∀i:Nat,∀h:i<s.2.2.2.1.length,i<k->s.2.2.2.1[i]=if P i=af then ix L i else xQ rules L i)/\s.2.2.2.2.1=ids P k/\s.2.2.2.2.2=(nV P k).map (xQ rules L)) (by omega) rfl ⟨rfl,rfl,by simp,λi _ hi=>absurd hi (by omega),rfl,rfl⟩ λk s hk hs hJ=>?_
 obtain⟨i,a',d',near,li,pa⟩:=s;obtain⟨j1,j2,j3,j4,j5,j6⟩:=hJ;dsimp only at hs j1 j2 j3 j4 j5 j6;subst hs j1 j2 j5 j6
 refine Wp.dec (λaI=>?_) λhge=>?_
 .have aI:k<rules.length:=by dsimp only at aI;omega
  have If:=pI P k;have Bb:=SA P k;dsimp only
  refine Wp.seq (λj=>j.1=a'/\j.2.1=d'/\j.2.2.1.length=rules.length/\(∀i:Nat,∀h:i<j.2.2.1.length,i<k+1->j.2.2.1[i]=if P i=af then ix L i else xQ rules L i)/\j.2.2.2.1=ids P (k+1)/\j.2.2.2.2=(nV P (k+1)).map (xQ rules L)) ?_ λj hj=> .some ⟨aI,bF (m:=rules.length) (by omega) aI,hj⟩
  rw[aF aI,aqI]
  obtain⟨(p:Int),YV⟩:∃p:Int,p=rules[k].2.2.1:=⟨_,rfl⟩
  refine Wp.seq (λv=>v=xQ rules L k) ?_ λv hv=>?_
  .rw[LY aI,<-YV]
   refine Wp.seq (λj=>j=decide (0<=p/\p<(k:Int))) ?_ λj hj=>?_
   .refine Wp.dec (λh=> .some ?_) λh=> .some ?_
    all_goals grind
   .subst hj
    refine Wp.dec (λh=>?_) λh=> .some ?_
    .obtain⟨q,rfl⟩:=aqV h.1
     have hq:q<k:=by omega
     have Og:q<near.length:=by omega
     rw[aF Og,aqI];refine .some ?_
     grind [YT,kG]
    grind
  .subst hv;rw[aF (show k<near.length by omega),aqI,Sq,aqI,oX,Oh]
   have hPk:P k=Be a' d' rules[k]:=by rw[hP];exact qD aI
   rw[hPk];dsimp only;by_cases hp:Be a' d' rules[k]=af
   .rw[al hp,al hp,al hp,aF (show k<(bn near (k:Int) (xQ rules L k)).length by rw[fg];omega),aqI,br (by simp;omega),aqI,br (by simp;omega),aqI];refine .some ⟨rfl,rfl,by rw[fg,fg];exact j3,λi h hi=>?_,rfl,by simp⟩
    grind [bn,YU]
   .rw[aj hp,aj hp,aj hp];refine .some ⟨rfl,rfl,by rw[fg];exact j3,λi h hi=>?_,by simp,by simp⟩
    grind [bn]
 .have hge:k=rules.length:=by dsimp only at hge;omega
  refine .some ?_;subst hge
  show _=_
  grind [CZ]
def Oi(x:iV)(a d:Int)(hl:x.2.2.2.2.length<=100000):M.fP aJ x a d=aa (uG x.2.2.2.2 a d,CZ x.2.2.2.2 a d,C0 x.2.2.2.2 a d):=by
 unfold M.fP;rw[SB hl,aqI]
 obtain⟨rules,hr⟩:∃r:List jV,r=x.2.2.2.2:=⟨_,rfl⟩
 rw[<-hr]at hl⊢
 obtain⟨P,hP⟩:∃P,P=kp rules (Be a d):=⟨_,rfl⟩
 have hi:uG rules a d=(nV P rules.length).map λi:Nat=>(i:Int):=by rw[hP];rfl
 have hNl:(nV P rules.length).length<=rules.length:=by unfold nV;exact(by grind)
 refine Wp.eq (Wp.seq (λj=>j=C0 rules a d) ?_ λj hj=> .some (by rw[hj]));unfold C0;dsimp only;rw[hi,<-hP]
 have vi:∀i∈nV P rules.length,i<rules.length:=λi hi=>List.mem_range.1 (List.mem_filter.1 hi).1
 refine Wp.count (λs=>s.1) (nV P rules.length).length (λk s=>s.2=((nV P rules.length).take k).map λi=>match rules[i]? with
  |some r=>r.2.2.2.1
  |none=>0) (by omega) rfl rfl λk s hk hs hJ=>?_
 obtain⟨kk,l⟩:=s;dsimp only at hs hJ⊢;subst hs hJ;rw[arb]
 refine Wp.dec (λaI=>?_) λhge=>?_
 .have aI:k<(nV P rules.length).length:=by omega
  have hb:=vi _ (aqN aI);refine .bind (.idx k rfl (by simpa using aI) ?_);rw[List.getElem_map,aF hb,aqI];refine .bind (.KT (by simp;omega) (.some ⟨aI,aU (by omega),?_⟩))
  grind [List.take_append_getElem]
 .have:k=(nV P rules.length).length:=by omega
  subst this;refine .some ?_
  show _=_
  grind
def BN(x:iV)(a d:Int)(hl:x.2.2.2.2.length<=100000):M.oC aJ x a d=aa (uG x.2.2.2.2 a d):=by
 unfold M.oC uG
 obtain⟨rules,hr⟩:∃r:List jV,r=x.2.2.2.2:=⟨_,rfl⟩
 rw[<-hr]at hl⊢;refine Wp.eq (Wp.count (λs=>s.1) rules.length (λk s=>s.2=ids (kp rules (Be a d)) k) (by omega) rfl rfl λk s hk hs hJ=>?_);obtain⟨kk,l⟩:=s;dsimp only at hs hJ⊢;subst hs hJ
 refine Wp.dec (λaI=>?_) λhge=> .some ?_
 .have aI:k<rules.length:=by omega
  have If:=pI (kp rules (Be a d)) k
  refine Wp.seq (λj=>j=ids (kp rules (Be a d)) (k+1)) ?_ λj hj=> .some ⟨aI,aU (by omega),hj⟩
  rw[oX,qD aI]
  refine Wp.seq (λb=>b=Be a d rules[k]) (.bind (.idx k rfl aI ?_)) λb hb=>?_
  .unfold Be;by_cases h:(rules[k].2.1:Int)=a
   .rw[al (by simpa using h),aF aI,aqI,Sz,aqI];refine .some ?_;simp[h]
   .rw[aj (by simpa using h)];refine .some ?_;simp[h]
  .subst hb;refine .ite (λh=> .bind (.KT (by simp;omega) (.some ?_))) (λh=> .some ?_)
   all_goals grind
 .have:k=rules.length:=by omega
  subst this;rfl
def SC(x:iV)(a d:Int)(hl:x.2.2.2.2.length<=100000):M.nJ aJ x a d=aa (uG x.2.2.2.2 a d,CZ x.2.2.2.2 a d,C0 x.2.2.2.2 a d):=by
 unfold M.nJ;rw[BN x a d hl,aqI]
 have Ro:=λL(hL:L.length<=100000)i hi jn=>HL x L hL i hi jn
 obtain⟨rules,hr⟩:∃r:List jV,r=x.2.2.2.2:=⟨_,rfl⟩
 rw[<-hr]at hl Ro⊢
 obtain⟨P,hP⟩:∃P,P=kp rules (Be a d):=⟨_,rfl⟩
 obtain⟨L,hL⟩:∃L,L=uG rules a d:=⟨_,rfl⟩
 have hLl:L.length<=100000:=by rw[hL];exact Nat.le_trans (pI _ _) hl
 have hi:uG rules a d=(nV P rules.length).map λi:Nat=>(i:Int):=by rw[hP];rfl
 have hNl:(nV P rules.length).length<=rules.length:=by unfold nV;exact(by grind)
 have vi:∀i∈nV P rules.length,i<rules.length:=λi hi=>List.mem_range.1 (List.mem_filter.1 hi).1
 refine Wp.eq (Wp.seq (λj=>j=(CZ rules a d,C0 rules a d)) ?_ λj hj=> .some (by rw[hj]));unfold CZ C0;rw[<-hP,<-hL]
 have hLm:L=(nV P rules.length).map λi:Nat=>(i:Int):=hL.trans hi
 refine Wp.count (λs=>s.1) (nV P rules.length).length (λk s=>s.2.1=((nV P rules.length).take k).map (xQ rules L)/\s.2.2=((nV P rules.length).take k).map λi=>match rules[i]? with
  |some r=>r.2.2.2.1
  |none=>0) (by omega) rfl ⟨rfl,rfl⟩ λk s hk hs hJ=>?_
 obtain⟨kk,l,m⟩:=s;obtain⟨e1,e2⟩:=hJ;dsimp only at hs e1 e2⊢;subst hs e1 e2
 have hlen:L.length=(nV P rules.length).length:=by rw[hLm];simp
 refine Wp.dec (λaI=>?_) λhge=>?_
 .have aI:k<(nV P rules.length).length:=by rw[<-hlen];omega
  have hb:=vi _ (aqN aI)
  have hx:L[k]'(by omega)=((nV P rules.length)[k]:Int):=by simp only[hLm,List.getElem_map]
  refine .bind (.idx k rfl (by omega) ?_);rw[hx,Ro L hLl _ hb (by omega),aqI];refine .bind (.KT (by simp;omega) (.bind (.idx k rfl (by omega) ?_)));rw[hx,aF hb,aqI];refine .bind (.KT (by simp;omega) (.some ⟨aI,aU (by omega),?_,?_⟩))
  all_goals grind [List.take_append_getElem]
 .have:k=(nV P rules.length).length:=by rw[<-hlen]at hk⊢;omega
  subst this;refine .some ?_
  show(_,_)=(_,_)
  grind
end L.T
end Go.Proofs.YtfjgcenlllgonaaGreatDoor
