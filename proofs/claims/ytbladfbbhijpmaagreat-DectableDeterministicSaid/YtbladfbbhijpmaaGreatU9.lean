/- Joined texts: RW TA TB TC TD TE TF TG TH TJ TT TU TV. -/
import Derived.Test.YtbladfbbhijpmaaGreatU8
open _root_.Bool renaming false->aaM,true->aaL,false_eq_true->Y8,and_eq_true->ZE
open _root_.Classical renaming not_not->aai,propDecidable->ZG
open _root_.Go.Lib renaming compact->ZZ
open _root_.Int renaming eq_ofNat_of_zero_le->Y9,toNat_natCast->Y4
open _root_.Go.IntKind renaming i64->YW,u64->Y2
open _root_.List renaming foldl_cons->ZT,getElem?_eq_getElem->YX,getElem?_eq_some_iff->Zd,getElem_mem->Y0,getElem_of_mem->ZJ,length_append->Zf,length_cons->Ze,mem_append->Y7,mem_cons->Y6,mem_singleton->Y5,pairwise_cons->Zu,take_length->Zh,filter_eq_self->aav,mem_cons_of_mem->Zm,mem_cons_self->Zz,mem_filter->Zt,mem_range->Zn,range->Y1,cons_append->aar,drop_eq_getElem_cons->ZA,replicate->Zq,take_append_getElem->Zk,length_map->Z5,append_assoc->Zp,filter_cons->aax,map_append->ZU,take_append_drop->ZQ,length_filter_le->aaa
open _root_.Nat renaming le_refl->YY,lt_succ_iff_lt_or_eq->Zb,eq_of_testBit_eq->aae,lt_of_lt_of_le->Zv,testBit_or->aao,add_mul->ZH,add_zero->Z1,mul_le_mul_right->Zg,le_trans->Zj
open _root_.Option renaming bind_some->YV,none->aaK
open _root_.BitVec renaming ofInt->ZY
open _root_.Go.Proofs renaming ltOf->ZL
namespace Go.Proofs.YtbladfbbhijpmaaGreat
open Go Go.RowKit
set_option maxRecDepth 100000
set_option linter.unusedSimpArgs false
set_option linter.unusedVariables false
set_option linter.defProp false
namespace L
inductive Ip(D:Int->Int->Prop):Int->Int->Prop
 |one {a b:Int} (h:D a b):Ip D a b
 |step {a b c:Int} (h:Ip D a b) (g:D b c):Ip D a c
def Dp(s:jH)(a b:Int):Prop:=b∈iR s a
theorem sJ{y:Int}:∀{l out:List Int},y∈l.foldl (λo z=>ins z o) out↔y∈l\/y∈out
 |[],_=>by simp
 |x::l,out=>by
  rw[ZT,sJ (l:=l),kc,Y6];exact⟨λh=>by rcases h with h|h|h<;>simp[h],λh=>by rcases h with(h|h)|h<;>simp[h]⟩
theorem kS(s:jH){out:List Int}{y:Int}:y∈stepT s out↔y∈out\/∃x∈out,Dp s x y:=by
 unfold stepT
 suffices∀(l o:List Int),y∈l.foldl (λo x=>(iR s x).foldl (λo y=>ins y o) o) o↔y∈o\/∃x∈l,Dp s x y from this _ _
 intro l
 induction l with
 |nil=>intro o;simp
 |cons x l ih=>
  intro o;rw[ZT,ih,sJ];unfold Dp;constructor
  .rintro((h|h)|⟨z,hz,h⟩)
   .exact .inr ⟨x,by simp,h⟩
   .exact .inl h
   .exact .inr ⟨z,by simp[hz],h⟩
  .rintro(h|⟨z,hz,h⟩)
   .exact .inl (.inr h)
   .rcases Y6.1 hz with rfl|hz
    .exact .inl (.inl h)
    .exact .inr ⟨z,hz,h⟩
theorem mB(s:jH)(d:Int):∀n y,y∈gF s n (iR s d)->Ip (Dp s) d y
 |0,y,h=> .one h
 |n+1,y,h=>by
  rcases(kS s).1 h with h|⟨x,hx,h⟩
  .exact mB s d n y h
  .exact .step (mB s d n x hx) h
theorem Ep{l m:List Int}(hl:l.Pairwise (· < ·))(hm:m.Pairwise (· < ·))(h:∀y,y∈l↔y∈m):l=m:=by
 induction l generalizing m with
 |nil=>
  cases m with
  |nil=>rfl
  |cons y m=>exact absurd ((h y).2 (by simp)) (by simp)
 |cons x l ih=>
  cases m with
  |nil=>exact absurd ((h x).1 (by simp)) (by simp)
  |cons y m=>
   obtain⟨h1,h2⟩:=Zu.1 hl;obtain⟨g1,g2⟩:=Zu.1 hm
   have e:x=y:=by
    rcases Y6.1 ((h x).1 (by simp))with e|e
    .exact e
    .rcases Y6.1 ((h y).2 (by simp))with e'|e'
     .exact e'.symm
     .have:=g1 x e;have:=h1 y e';omega
   subst e
   congr 1
   refine ih h2 g2 λz=>?_
   have:=h z;rw[Y6,Y6]at this;constructor
   .intro hz
    rcases this.1 (.inr hz)with rfl|hz'
    .have:=h1 z hz;omega
    .exact hz'
   .intro hz
    rcases this.2 (.inr hz)with rfl|hz'
    .have:=g1 z hz;omega
    .exact hz'
theorem Er{l:List Int}:∀{m:List Int},l.Nodup->(∀y,y∈l->y∈m)->l.length<=m.length:=by
 induction l with
 |nil=>intro m _ _;simp
 |cons x l ih=>
  intro m hn h;obtain⟨h1,h2⟩:=List.nodup_cons.1 hn;have hx:=h x (by simp)
  have:=ih (m:=m.erase x) h2 λy hy=>(List.mem_erase_of_ne (λe:y=x=>h1 (by rw[<-e];exact hy))).2 (h y (by simp[hy]))
  rw[List.length_erase_of_mem hx]at this;have:=List.length_pos_of_mem hx;simp only[Ze];omega
theorem Cj{l m:List Int}(hl:l.Pairwise (· < ·))(_:m.Pairwise (· < ·))(h:∀y,y∈l->y∈m)(hx:∃y,y∈m/\y∉l):l.length<m.length:=by
 have nd:l.Nodup:=hl.imp λh=>by omega
 obtain⟨y,hy,hn⟩:=hx;have Xx:(y::l).Nodup:=List.nodup_cons.2 ⟨hn,nd⟩
 have:(y::l).length<=m.length:=Er Xx λz hz=>by
  rcases Y6.1 hz with rfl|hz
  .exact hy
  .exact h z hz
 simp only[Ze]at this;omega
theorem wh(s:jH)(d:Int):(∀n,n<=s.2.2.2.1.length->(stepT s (gF s n (iR s d))=gF s n (iR s d)\/n<=(gF s n (iR s d)).length)):=by
 have srt:∀m,qC s.2.2.2.1.length (gF s m (iR s d)):=λm=>by
  induction m with
  |zero=>exact mv s d
  |succ m ih=>exact nc s ih
 intro n
 induction n with
 |zero=>intro _;exact .inr (Nat.zero_le _)
 |succ n ih=>
  intro hn
  rcases ih (by omega)with h|h
  .left
   show stepT s (stepT s (gF s n (iR s d)))=stepT s (gF s n (iR s d))
   rw[h,h]
  .by_cases hx:∃y,y∈stepT s (gF s n (iR s d))/\y∉gF s n (iR s d)
   .right
    have:=Cj (srt n).1 (nc s (srt n)).1 (λy hy=>(kS s).2 (.inl hy)) hx
    show n+1<=(stepT s (gF s n (iR s d))).length
    omega
   .left
    have:stepT s (gF s n (iR s d))=gF s n (iR s d):=Ep (nc s (srt n)).1 (srt n).1 λy=>⟨λh=>aai.1 λhn=>hx ⟨y,h,hn⟩,λh=>(kS s).2 (.inl h)⟩
    show stepT s (stepT s (gF s n (iR s d)))=stepT s (gF s n (iR s d))
    rw[this,this]
theorem Ju(s:jH)(d y:Int):y∈EV s d↔Ip (Dp s) d y:=by
 refine⟨λh=>mB s d _ y h,λh=>?_⟩
 have closed:∀x z,x∈EV s d->Dp s x z->z∈EV s d:=by
  intro x z hx hz
  rcases wh s d s.2.2.2.1.length (YY _)with h|h
  .have:z∈stepT s (gF s s.2.2.2.1.length (iR s d)):=(kS s).2 (.inr ⟨x,hx,hz⟩);rw[h]at this;exact this
  .have hs:=Jo s d;have MO:=(mv s x).2 z hz
   refine aai.1 λhn=>?_
   have:=Cj (l:=EV s d) (m:=ins z (EV s d)) hs.1 (AR hs.1) (λy hy=>kc.2 (.inr hy)) ⟨z,kc.2 (.inl rfl),hn⟩;have:=(hs.ins MO).len;have:s.2.2.2.1.length<=(EV s d).length:=h;omega
 have start:∀z,Dp s d z->z∈EV s d:=by
  intro z hz
  show z∈gF s s.2.2.2.1.length (iR s d)
  have:∀n,z∈gF s n (iR s d):=λn=>by
   induction n with
   |zero=>exact hz
   |succ n ih=>exact(kS s).2 (.inl ih)
  exact this _
 induction h with
 |one h=>exact start _ h
 |step _ g ih=>exact closed _ _ ih g
theorem yD(d:Array Int)(y:Int):∀m,y∈Go.Lib.compactUpTo d m↔∃j,j<m/\d[j]! =y
 |0=>by simp[Go.Lib.compactUpTo]
 |m+1=>by
  rw[Go.Lib.compactUpTo_succ,Y7,yD d y m];constructor
  .rintro(⟨j,hj,h⟩|h)
   .exact⟨j,by omega,h⟩
   .split at h
    .rw[Y5]at h;exact⟨m,by omega,h.symm⟩
    .cases h
  .rintro⟨j,hj,h⟩
   rcases Zb.1 hj with h1|rfl
   .exact .inl ⟨j,h1,h⟩
   .by_cases hk:Go.Lib.keeps d j=aaL
    .right;rw[aaP hk,Y5];exact h.symm
    .left
     unfold Go.Lib.keeps at hk;rw[aaW]at hk
     have h0:j≠0:=λe=>hk (.inl e)
     have h1:d[j]! =d[j-1]! :=aai.1 λe=>hk (.inr e)
     exact⟨j-1,by omega,by rw[<-h1];exact h⟩
theorem yE(l:List Int)(y:Int):y∈ZZ l↔y∈l:=by
 unfold ZZ;rw[yD];constructor
 .rintro⟨j,hj,rfl⟩
  have:l.toArray[j]! =l[j]:=by simp[hj]
  rw[this];exact Y0 hj
 .intro h;obtain⟨j,hj,rfl⟩:=ZJ h;exact⟨j,hj,by simp[hj]⟩
theorem uR(l:List Int)(hl:l.length<=1000000):Wp ((M.cH bd l).bind λy1=>(M.bY bd y1).bind λy2=>some y2) λr=>r.length<=l.length/\∀y,y∈r↔y∈l:=by
 have e1:M.cH bd l=some (nA l):=by
  unfold M.cH yk;rw[aaP (by omega)]
 have hs:(nA l).length=l.length:=List.length_mergeSort ..
 have e2:M.bY bd (nA l)=some (ZZ (nA l)):=by
  unfold M.bY mg;rw[aaP (by omega)]
 rw[e1,YV,e2];refine .some ⟨?_,λy=>?_⟩
 .have:=sy (nA l);omega
 .rw[yE];exact List.mem_mergeSort
theorem mC(l:List Int)(hl:l.length<=1000000):Wp (M.eA bd l) λr=>r.length<=l.length/\∀y,y∈r↔y∈l:=uR l hl
theorem wi(l:List Int)(hl:l.length<=1000000):Wp (M.gW bd l) λr=>r.length<=l.length/\∀y,y∈r↔y∈l:=uR l hl
def Es(e:List Ty)(y:Int):Prop:=∃n∈e,(n.1:Int)=8/\(n.2:Int)=y
theorem A0(p:Int->Bool)(e:List Ty)(y:Int):y∈lu p e↔∃n∈e,p n.1=aaL/\(n.2:Int)=y:=by
 unfold lu
 suffices∀(e:List Ty)(l:List Int),y∈e.foldl (λl n=>if p n.1=aaL then ins n.2 l else l) l↔y∈l\/∃n∈e,p n.1=aaL/\(n.2:Int)=y by simpa using this e []
 intro e
 induction e with
 |nil=>intro l;simp
 |cons n e ih=>
  intro l;rw[ZT,ih];split
  .rename_i h;rw[kc];constructor
   .rintro((h1|h1)|⟨q,hq,h1⟩)
    .exact .inr ⟨n,by simp,h,h1.symm⟩
    .exact .inl h1
    .exact .inr ⟨q,by simp[hq],h1⟩
   .rintro(h1|⟨q,hq,h1,h2⟩)
    .exact .inl (.inr h1)
    .rcases Y6.1 hq with rfl|hq
     .exact .inl (.inl h2.symm)
     .exact .inr ⟨q,hq,h1,h2⟩
  .rename_i h;constructor
   .rintro(h1|⟨q,hq,h1⟩)
    .exact .inl h1
    .exact .inr ⟨q,by simp[hq],h1⟩
   .rintro(h1|⟨q,hq,h1,h2⟩)
    .exact .inl h1
    .rcases Y6.1 hq with rfl|hq
     .exact absurd h1 h
     .exact .inr ⟨q,hq,h1,h2⟩
theorem qE(e:List Ty)(y:Int):y∈lu qB e↔Es e y:=by
 rw[A0];unfold Es qB;simp only[aaW]
theorem nE(e:List Ty)(he:e.length<=100000):Wp (M.eX bd e) λr=>r.2.1.length<=e.length/\∀y,y∈r.2.1↔Es e y:=by
 unfold M.eX;rw[wp_bind]
 refine Wp.count (λs=>s.1) e.length (λk s=>(s.2.1.length<=k/\s.2.2.1.length<=k/\s.2.2.2.length<=k)/\∀y,y∈s.2.2.1↔∃j,∃h:j<e.length,j<k/\(e[j].1:Int)=8/\(e[j].2:Int)=y) (by omega) rfl ⟨by simp,λy=>by simp⟩ λk s hk hs hJ=>?_
 obtain⟨i,a,b,c⟩:=s;obtain⟨⟨l1,l2,l3⟩,hm⟩:=hJ;dsimp only at hs l1 l2 l3 hm;subst hs;simp only[W_,aaT,aaU,reduceCtorEq,aQ,aI];refine⟨λai=>?_,λhge=>?_⟩
 .have ai:k<e.length:=by omega
  have nxt:∀b':List Int,(∀y,y∈b'↔y∈b\/((e[k].1:Int)=8/\(e[k].2:Int)=y))->∀y,y∈b'↔∃j,∃h:j<e.length,j<k+1/\(e[j].1:Int)=8/\(e[j].2:Int)=y:=λb' hb y=>by
   rw[hb,hm];constructor
   .rintro(⟨j,h,h1,h2⟩|h)
    .exact⟨j,h,by omega,h2⟩
    .exact⟨k,ai,by omega,h⟩
   .rintro⟨j,h,h1,h2⟩
    rcases Zb.1 h1 with h3|rfl
    .exact .inl ⟨j,h,h3,h2⟩
    .exact .inr h2
  have same:(e[k].1:Int)≠8->∀y,y∈b↔∃j,∃h:j<e.length,j<k+1/\(e[j].1:Int)=8/\(e[j].2:Int)=y:=λh=>nxt b λy=>⟨.inl,λg=>g.resolve_right λg=>h g.1⟩
  simp only[ao ai,cX (m:=e.length) (by omega) ai,W_,aaT,aaU,reduceCtorEq]
  have p3:∀(q:List Int)(v:Int)(Q:List Int->Prop),q.length<=k->Q (q++[v])->Wp (b7 q [v]) Q:=λq v Q hq h=>nY.2 ⟨by simp;omega,h⟩
  refine⟨λh=>p3 _ _ _ l1 ⟨ai,by simp;omega,same (by rw[h];decide)⟩,λ_=>⟨λh=>p3 _ _ _ l2 ⟨ai,by simp;omega,nxt _ λy=>?_⟩,λh8=>?_⟩⟩
  .rw[Y7,Y5];exact⟨λg=>g.imp id λg=>⟨h,g.symm⟩,λg=>g.imp id λg=>g.2.symm⟩
  .have Kk:k<e.length/\(a.length<=k+1/\b.length<=k+1/\c.length<=k+1)/\∀y,y∈b↔∃j,∃h:j<e.length,j<k+1/\(e[j].1:Int)=8/\(e[j].2:Int)=y:=⟨ai,by omega,same h8⟩
   have Cc:Wp (b7 c [(e[k].2:Int)]) λx=>k<e.length/\(a.length<=k+1/\b.length<=k+1/\x.length<=k+1)/\∀y,y∈b↔∃j,∃h:j<e.length,j<k+1/\(e[j].1:Int)=8/\(e[j].2:Int)=y:=p3 _ _ _ l3 ⟨ai,by simp;omega,same h8⟩
   exact⟨λ_=>⟨λ_=>Cc,λ_=>Kk⟩,λ_=>⟨λ_=>⟨λ_=>Cc,λ_=>Kk⟩,λ_=>⟨λ_=>⟨λ_=>Cc,λ_=>Kk⟩,λ_=>⟨λ_=>Cc,λ_=>Kk⟩⟩⟩⟩
 .refine(mC a (by omega)).mono λ_ _=>?_
  refine(mC b (by omega)).mono λr hr=>?_
  refine(mC c (by omega)).mono λ_ _=>?_
  refine⟨by omega,λy=>?_⟩;rw[hr.2,hm];unfold Es;constructor
  .rintro⟨j,h,_,h2⟩
   exact⟨_,Y0 h,h2⟩
  .rintro⟨n,hn,h⟩
   obtain⟨j,hj,rfl⟩:=ZJ hn;exact⟨j,hj,by omega,h⟩
def A3(r:fT)(n:Nat)(y:Int):Prop:=(Es r.2.2.2.2.2.1 y\/Es r.2.2.2.2.2.2.1 y)/\0<=y/\y<(n:Int)
theorem Ck(l o:List Int)(n:Nat)(hl:l.length<=100000)(ho:o.length<=100000):Wp (Loop (S:=Int×List Int) (X:=List Int) (λs4=>
 (if(decide (s4.1<(l.length:Int)))=aaL then
 ((idx l s4.1).bind λx6=>
 ((if(decide ((0:Int)<=x6))=aaL then
 some (decide (x6<(n:Int)))
 else
 some aaM):Option (Bool)).bind λj7=>
 (if j7=aaL then
 (b7 s4.2 ([x6]:List Int)).bind λl8=>
 some l8
 else
 some s4.2):Option (List Int)).bind λj5=>
 some (Sum.inl (YW.wrap (s4.1+(1:Int)),j5))
 else
 some (Sum.inr s4.2))) bd ((0:Int),o)) λr=>r.length<=o.length+l.length/\∀y,y∈r↔y∈o\/(y∈l/\0<=y/\y<(n:Int)):=by
 refine Wp.count (λs=>s.1) l.length (λk s=>s.2.length<=o.length+k/\∀y,y∈s.2↔y∈o\/((∃j,∃h:j<l.length,j<k/\l[j]=y)/\0<=y/\y<(n:Int))) (by omega) rfl ⟨by simp,λy=>by simp⟩ λk s hk hs hJ=>?_
 obtain⟨i,q⟩:=s;obtain⟨h1,hm⟩:=hJ;dsimp only at hs h1 hm;subst hs;simp only[W_,aaT,aaU,reduceCtorEq,aQ,aI];refine⟨λai=>?_,λhge=>?_⟩
 .have ai:k<l.length:=by omega
  simp only[ao ai,cX (m:=l.length) (by omega) ai,W_,aaT,aaU,reduceCtorEq]
  have keep:¬(0<=l[k]/\l[k]<(n:Int))->k<l.length/\q.length<=o.length+(k+1)/\∀y,y∈q↔y∈o\/((∃j,∃h:j<l.length,j<k+1/\l[j]=y)/\0<=y/\y<(n:Int)):=λhn=>⟨ai,by omega,λy=>by
   rw[hm];refine or_congr Iff.rfl (and_congr_left λhy=>⟨λ⟨j,h,h1,h2⟩=>⟨j,h,by omega,h2⟩,λ⟨j,h,h1,h2⟩=>?_⟩)
   rcases Zb.1 h1 with h3|rfl
   .exact⟨j,h,h3,h2⟩
   .exact absurd (h2▸hy) hn⟩
  refine⟨λh0=>⟨λrC=>nY.2 ⟨by simp;omega,ai,by simp;omega,λy=>?_⟩,λrC=>keep λg=>rC g.2⟩,λh0=>keep λg=>h0 g.1⟩;rw[Y7,Y5,hm];constructor
  .rintro((h|⟨⟨j,h,h2,h3⟩,h4⟩)|rfl)
   .exact .inl h
   .exact .inr ⟨⟨j,h,by omega,h3⟩,h4⟩
   .exact .inr ⟨⟨k,ai,by omega,rfl⟩,h0,rC⟩
  .rintro(h|⟨⟨j,h,h2,h3⟩,h4⟩)
   .exact .inl (.inl h)
   .rcases Zb.1 h2 with h5|rfl
    .exact .inl (.inr ⟨⟨j,h,h5,h3⟩,h4⟩)
    .exact .inr h3.symm
 .refine⟨by omega,λy=>?_⟩;rw[hm];refine or_congr Iff.rfl (and_congr_left λhy=>⟨λ⟨j,h,_,h2⟩=>h2▸Y0 h,λh=>?_⟩);obtain⟨j,hj,e⟩:=ZJ h;exact⟨j,hj,by omega,e⟩
theorem Et(r:fT)(n:Nat)(h1:r.2.2.2.2.2.1.length<=50)(h2:r.2.2.2.2.2.2.1.length<=50):Wp (M.eN bd r (n:Int)) λl=>l.length<=100/\∀y,y∈l↔A3 r n y:=by
 unfold M.eN;rw[wp_bind]
 refine(nE _ (by omega)).mono λa ha=>?_
 rw[wp_bind]
 refine(nE _ (by omega)).mono λb hb=>?_
 rw[wp_bind]
 refine(Ck a.2.1 [] n (by omega) (by simp)).mono λc hc=>?_
 have ES:=hc.1;simp only[List.length_nil]at ES
 refine(Ck b.2.1 c n (by omega) (by omega)).mono λq hq=>⟨by omega,λy=>?_⟩
 rw[hq.2,hc.2,ha.2,hb.2];unfold A3;constructor
 .rintro((h|h)|h)
  .cases h
  .exact⟨.inl h.1,h.2⟩
  .exact⟨.inr h.1,h.2⟩
 .rintro⟨h|h,h3⟩
  .exact .inl (.inr ⟨h,h3⟩)
  .exact .inr ⟨h,h3⟩
theorem p9(n:Nat)(y:Int):∀(l out:List Int),y∈ke n out l↔y∈out\/(y∈l/\0<=y/\y<(n:Int))
 |[],out=>by show y∈out↔_;simp
 |x::l,out=>by
  show y∈ke n (if 0<=x/\x<(n:Int)then ins x out else out) l↔_
  rw[p9 n y l];split
  .rename_i h;rw[kc,Y6];constructor
   .rintro((rfl|h1)|⟨h1,h2⟩)
    .exact .inr ⟨.inl rfl,h⟩
    .exact .inl h1
    .exact .inr ⟨.inr h1,h2⟩
   .rintro(h1|⟨h1|h1,h2⟩)
    .exact .inl (.inr h1)
    .exact .inl (.inl h1)
    .exact .inr ⟨h1,h2⟩
  .rename_i h;rw[Y6];constructor
   .rintro(h1|⟨h1,h2⟩)
    .exact .inl h1
    .exact .inr ⟨.inr h1,h2⟩
   .rintro(h1|⟨h1|h1,h2⟩)
    .exact .inl h1
    .exact absurd (h1▸h2) h
    .exact .inr ⟨h1,h2⟩
theorem Hj(s:jH)(d y:Int):Dp s d y↔(0<=d/\d<(s.2.2.2.1.length:Int))/\∃r∈s.2.2.2.2,(r.2.1:Int)=d/\A3 r s.2.2.2.1.length y:=by
 unfold Dp iR;split
 .rename_i hd
  suffices∀(rs:List fT)(out:List Int),y∈rs.foldl (λout r=>if(r.2.1:Int)=d then ke s.2.2.2.1.length (ke s.2.2.2.1.length out (lu qB r.2.2.2.2.2.1)) (lu qB r.2.2.2.2.2.2.1)else out) out↔y∈out\/∃r∈rs,(r.2.1:Int)=d/\A3 r s.2.2.2.1.length y by
   rw[this];simp[hd]
  intro rs
  induction rs with
  |nil=>intro out;simp
  |cons r rs ih=>
   intro out;rw[ZT,ih];split
   .rename_i h;rw[p9,p9,qE,qE];unfold A3;constructor
    .rintro(((h1|h1)|h1)|⟨q,hq,h1⟩)
     .exact .inl h1
     .exact .inr ⟨r,by simp,h, .inl h1.1,h1.2⟩
     .exact .inr ⟨r,by simp,h, .inr h1.1,h1.2⟩
     .exact .inr ⟨q,by simp[hq],h1⟩
    .rintro(h1|⟨q,hq,h1,h2,h3⟩)
     .exact .inl (.inl (.inl h1))
     .rcases Y6.1 hq with rfl|hq
      .rcases h2 with h2|h2
       .exact .inl (.inl (.inr ⟨h2,h3⟩))
       .exact .inl (.inr ⟨h2,h3⟩)
      .exact .inr ⟨q,hq,h1,h2,h3⟩
   .rename_i h;constructor
    .rintro(h1|⟨q,hq,h1⟩)
     .exact .inl h1
     .exact .inr ⟨q,by simp[hq],h1⟩
    .rintro(h1|⟨q,hq,h1,h2⟩)
     .exact .inl h1
     .rcases Y6.1 hq with rfl|hq
      .exact absurd h1 h
      .exact .inr ⟨q,hq,h1,h2⟩
 .rename_i hd;simp[hd]
def OG(s:jH)(L:List (List Int)):Prop:=L.length=s.2.2.2.1.length/\∀d,∀h:d<L.length,L[d].length<=6000/\∀y,y∈L[d]↔Dp s (d:Int) y
theorem wj(s:jH)(hs:p4 s):Wp (M.gX bd s) (OG s):=by
 have Up:=hs.2.2.1;have Uo:=hs.2.2.2.1;have Xy:=hs.2.2.2.2.2.2;unfold M.gX;rw[wp_bind];refine lq.2 ⟨by omega,?_⟩;rw[wp_bind,Y4]
 refine Wp.count (λs=>s.1) s.2.2.2.2.length (λk q=>q.2.length=s.2.2.2.1.length/\∀d,∀h:d<q.2.length,q.2[d].length<=100*k/\∀y,y∈q.2[d]↔∃j,∃h:j<s.2.2.2.2.length,j<k/\(s.2.2.2.2[j].2.1:Int)=(d:Int)/\A3 s.2.2.2.2[j] s.2.2.2.1.length y) (by omega) rfl ⟨by simp,λd h=>by simp⟩ λk q hk zo hJ=>?_
 obtain⟨i,q⟩:=q;obtain⟨hl,hm⟩:=hJ;dsimp only at zo hl hm;subst zo;simp only[W_,aaT,aaU,reduceCtorEq,aQ,aI];refine⟨λai=>?_,λhge=>?_⟩
 .have ai:k<s.2.2.2.2.length:=by omega
  have Uu:=Xy _ (Y0 ai);simp only[ao ai,cX (m:=s.2.2.2.2.length) (by omega) ai,hl,W_,aaT,aaU,reduceCtorEq]
  have HY:∀d,∀h:d<q.length,(¬(s.2.2.2.2[k].2.1:Int)=(d:Int))->q[d].length<=100*(k+1)/\∀y,y∈q[d]↔∃j,∃h:j<s.2.2.2.2.length,j<k+1/\(s.2.2.2.2[j].2.1:Int)=(d:Int)/\A3 s.2.2.2.2[j] s.2.2.2.1.length y:=λd h hn=>⟨by have:=(hm d h).1;omega,λy=>by
   rw[(hm d h).2];constructor
   .rintro⟨j,h1,h2,h3⟩;exact⟨j,h1,by omega,h3⟩
   .rintro⟨j,h1,h2,h3,h4⟩
    rcases Zb.1 h2 with h5|rfl
    .exact⟨j,h1,h5,h3,h4⟩
    .exact absurd h3 hn⟩
  have Xz:=Et s.2.2.2.2[k] s.2.2.2.1.length Uu.2.2.1 Uu.2.2.2
  obtain⟨(v:Int),hv⟩:∃v:Int,v=s.2.2.2.2[k].2.1:=⟨_,rfl⟩
  simp only[<-hv]at HY⊢;refine⟨λh0=>⟨λh1=>?_,λh1=>⟨ai,λd h=>HY d (by omega) λe=>h1 (e▸Int.ofNat_lt.2 h)⟩⟩,λh0=>⟨ai,λd h=>HY d (by omega) λe=>h0 (e▸Int.natCast_nonneg d)⟩⟩;obtain⟨c,rfl⟩:=Y9 h0
  have hc:c<q.length:=by rw[hl];exact Int.ofNat_lt.1 h1
  simp only[ao hc,W_,aaT,aaU,reduceCtorEq]
  refine Xz.mono λl9 h9=>nY.2 ⟨by have:=(hm c hc).1;omega,?_⟩
  refine⟨ai,by rw[iM];exact hl,λd h=>?_⟩
  have hd:d<q.length:=by rw[iM]at h;exact h
  rw[vq h hd]
  by_cases e:(c:Int)=(d:Int)
  .rw[aaP e]
   have e:c=d:=by omega
   subst e;refine⟨by rw[Zf];have:=(hm c hd).1;have:=h9.1;omega,λy=>?_⟩;rw[Y7,(hm c hd).2,h9.2];constructor
   .rintro(⟨j,h1,h2,h3⟩|h3)
    .exact⟨j,h1,by omega,h3⟩
    .exact⟨k,ai,by omega,hv.symm,h3⟩
   .rintro⟨j,h1,h2,h3,h4⟩
    rcases Zb.1 h2 with h5|rfl
    .exact .inl ⟨j,h1,h5,h3,h4⟩
    .exact .inr h4
  .rw[aaO e];exact HY d hd e
 obtain rfl:k=s.2.2.2.2.length:=by omega
 have Q2:∀d,∀h:d<q.length,q[d].length<=6000/\∀y,y∈q[d]↔Dp s (d:Int) y:=λd h=>⟨by have:=(hm d h).1;omega,λy=>by
  rw[(hm d h).2,Hj];constructor
  .rintro⟨j,h1,_,h2,h3⟩
   exact⟨by omega,_,Y0 h1,h2,h3⟩
  .rintro⟨_,r,hr,h2,h3⟩
   obtain⟨j,hj,rfl⟩:=ZJ hr
   exact⟨j,hj,hj,h2,h3⟩⟩
 refine Wp.count (λs=>s.1) q.length (λk z=>z.2.length=q.length/\∀d,∀h:d<z.2.length,z.2[d].length<=6000/\∀y,y∈z.2[d]↔Dp s (d:Int) y) (by omega) rfl ⟨rfl,Q2⟩ λk z hk zo hJ=>?_
 obtain⟨i,z⟩:=z;obtain⟨zl,zm⟩:=hJ;dsimp only at zo zl zm;subst zo;simp only[W_,aaT,aaU,reduceCtorEq,aQ,aI];refine⟨λai=>?_,λhge=>⟨by rw[zl];exact hl,zm⟩⟩
 have ai:k<q.length:=by omega
 have Uv:k<z.length:=by omega
 simp only[ao Uv,cX (m:=q.length) (by omega) ai,W_,aaT,aaU,reduceCtorEq]
 refine(wi z[k] (by have:=(zm k Uv).1;omega)).mono λr hr=>⟨ai,by rw[iM];exact zl,λd h=>?_⟩
 have hd:d<z.length:=by rw[iM]at h;exact h
 rw[vq h hd]
 by_cases e:(k:Int)=(d:Int)
 .rw[aaP e]
  have e:k=d:=by omega
  subst e;exact⟨by have:=(zm k hd).1;have:=hr.1;omega,λy=>by rw[hr.2];exact(zm k hd).2 y⟩
 .rw[aaO e];exact zm d hd
def Sn(seen:List Bool)(y:Int):Prop:=0<=y/\seen[y.toNat]? =some aaL
theorem LZ{seen:List Bool}{x:Int}(hx:0<=x/\x.toNat<seen.length)(y:Int):Sn (bz seen x aaL) y↔y=x\/Sn seen y:=by
 unfold Sn bz;rw[List.getElem?_set];by_cases e:x.toNat=y.toNat
 .rw[aaP e,aaP hx.2];constructor
  .rintro⟨h,_⟩;exact .inl (by omega)
  .rintro(rfl|⟨h,_⟩)
   .exact⟨hx.1,rfl⟩
   .exact⟨h,rfl⟩
 .rw[aaO e];constructor
  .exact .inr
  .rintro(rfl|h)
   .exact absurd rfl e
   .exact h
structure RI(D:Int->Int->Prop)(d0:Int)(n:Nat)(ex:Int->Prop)(seen:List Bool)(q:List Int):Prop where
 len:seen.length=n
 qo:∀x∈q,0<=x/\x<(n:Int)/\(x=d0\/Sn seen x)
 snd:∀y,Sn seen y->Ip D d0 y
 clo:∀x,(x=d0\/Sn seen x)->x∈q\/ex x\/∀y,D x y->Sn seen y
 bud:q.length+seen.count aaM<=n+1
theorem A4(s:jH)(L:List (List Int))(hL:OG s L)(d:Nat)(hd:d<s.2.2.2.1.length)(Up:s.2.2.2.1.length<=14):Wp (M.jg bd L (d:Int)) λr=>r.length<=1000/\∀y,y∈r↔Ip (Dp s) (d:Int) y:=by
 obtain⟨hl,hL⟩:=hL
 have hD:∀a b,Dp s a b->0<=b/\b<(s.2.2.2.1.length:Int):=λa b h=>(mv s a).2 b h
 generalize s.2.2.2.1.length=n at*;unfold M.jg;rw[wp_bind];refine lq.2 ⟨by omega,?_⟩;rw[wp_bind,Y4,hl]
 refine Wp.loop (λq=>RI (Dp s) (d:Int) n (λ_=>False) q.1 q.2) (λq=>2*q.1.count aaM+q.2.length) ?_ ?_ λq hq=>?_
 .refine⟨by simp,λx hx=>?_,λy hy=>?_,λx hx=>?_,by simp;omega⟩
  .rw[Y5.1 hx];exact⟨by omega,by omega, .inl rfl⟩
  .exfalso;have:=hy.2;rw[List.getElem?_replicate]at this
   split at this<;>cases this
  .rcases hx with rfl|hx
   .exact .inl (by simp)
   .exfalso;have:=hx.2;rw[List.getElem?_replicate]at this
    split at this<;>cases this
 .simp[List.count_replicate];unfold bd;omega
 obtain⟨seen,q⟩:=q;dsimp only at hq;dsimp only
 have XA:∀l:List Bool,l.count aaM<=l.length:=λl=>List.count_le_length
 refine Wp.dec (λh0=>?_) λh0=>?_
 .have M9:0<q.length:=by omega
  obtain⟨x,t,rfl⟩:=List.exists_cons_of_ne_nil (List.length_pos_iff.1 M9);have hx:=hq.qo x (by simp);obtain⟨c,rfl⟩:=Y9 hx.1
  have hc:c<L.length:=by omega
  have i0:idx ((c:Int)::t) (0:Int)=some (c:Int):=rfl
  have zu:eG ((c:Int)::t) (1:Int) (((c:Int)::t).length:Int)=some t:=by
   apply Wp.eq;refine wp_cut.2 ⟨by simp;omega,?_⟩;rw[Y4,Zh];rfl
  rw[i0,YV,zu,YV,ao hc,YV]
  have MV:∀y,Dp s (c:Int) y->Ip (Dp s) (d:Int) y:=λy h=>by
   rcases hx.2.2 with e|e
   .exact .one (e▸h)
   .exact .step (hq.snd _ e) h
  have Kr:=(hL c hc).2;have Mp:=(hL c hc).1;have Uw:=hq.bud;simp only[Ze]at Uw;generalize L[c]=l at*
  refine Wp.count (λs=>s.1) l.length (λk z=>RI (Dp s) (d:Int) n (λy=>y=(c:Int)) z.2.1 z.2.2/\(∀j,j<k->∀h:j<l.length,Sn z.2.1 l[j])/\2*z.2.1.count aaM+z.2.2.length<=2*seen.count aaM+t.length) (by omega) rfl ⟨⟨hq.len,λx hx=>hq.qo x (by simp[hx]),hq.snd,λx hx=>?_,by dsimp only;omega⟩,λj hj=>by omega,YY _⟩ λk z hk zo hJ=>?_
  .rcases hq.clo x hx with h|h|h
   .rcases Y6.1 h with rfl|h
    .exact .inr (.inl rfl)
    .exact .inl h
   .exact h.elim
   .exact .inr (.inr h)
  obtain⟨i,sn,qu⟩:=z;obtain⟨hR,hP,hB⟩:=hJ;dsimp only at zo hR hP hB;subst zo;simp only[W_,aaT,aaU,reduceCtorEq,aQ,aI];refine⟨λai=>?_,λhge=>?_⟩
  .have ai:k<l.length:=by omega
   have hy:Dp s (c:Int) l[k]:=(Kr _).1 (Y0 ai);have OH:=hD _ _ hy;simp only[ao ai,cX (m:=l.length) (by omega) ai,W_,aaT,aaU,reduceCtorEq]
   obtain⟨y,Nq⟩:∃y,y=l[k]:=⟨_,rfl⟩
   simp only[<-Nq]at hy OH⊢
   have PJ:y.toNat<sn.length:=by rw[hR.len];omega
   refine dz.2 ⟨by rw[hR.len];omega,λhf=>dz.2 ⟨by rw[hR.len];omega,nY.2 ⟨?_,ai,?_⟩⟩,λht=>⟨ai,hR,bJ hP λ_=>?_,hB⟩⟩
   .have:=hR.bud;simp;omega
   .have kT:=LZ (seen:=sn) (x:=y) ⟨OH.1,PJ⟩
    have Jr:(bz sn y aaL).count aaM+1=sn.count aaM:=by
     unfold bz;rw[List.count_set PJ];have h1:0<sn.count aaM:=List.count_pos_iff.2 (hf▸Y0 PJ);simp[hf];omega
    refine⟨⟨by unfold bz;simp[hR.len],λx hx=>?_,λz hz=>?_,λx hx=>?_,?_⟩,bJ (λj hj h=>?_) λh=>?_,?_⟩
    .rcases Y7.1 hx with hx|hx
     .obtain⟨a1,a2,a3⟩:=hR.qo x hx;exact⟨a1,a2,a3.imp id λg=>(kT x).2 (.inr g)⟩
     .rw[Y5.1 hx];exact⟨OH.1,OH.2, .inr ((kT y).2 (.inl rfl))⟩
    .rcases(kT z).1 hz with rfl|hz
     .exact MV _ hy
     .exact hR.snd z hz
    .have go:x=(d:Int)\/Sn sn x->x∈qu++[y]\/x=(c:Int)\/∀z,Dp s x z->Sn (bz sn y aaL) z:=λg=>by
      rcases hR.clo x g with h|h|h
      .exact .inl (by simp[h])
      .exact .inr (.inl h)
      .exact .inr (.inr λz hz=>(kT z).2 (.inr (h z hz)))
     rcases hx with hx|hx
     .exact go (.inl hx)
     .rcases(kT x).1 hx with rfl|hx
      .exact .inl (by simp)
      .exact go (.inr hx)
    .have:=hR.bud;simp;omega
    .exact(kT _).2 (.inr (hP j hj h))
    .exact(kT _).2 (.inl Nq.symm)
    .simp;omega
   .rw[<-Nq];exact⟨OH.1,by rw[YX PJ,ht]⟩
  .obtain rfl:k=l.length:=by omega
   show GU _ _ _ _ (.inl _)
   refine⟨⟨hR.len,hR.qo,hR.snd,λx hx=>?_,hR.bud⟩,?_⟩
   .rcases hR.clo x hx with h|h|h
    .exact .inl h
    .refine .inr (.inr λy hy=>?_);rw[h]at hy;obtain⟨j,hj,e⟩:=ZJ ((Kr y).2 hy);exact e▸hP j hj hj
    .exact .inr (.inr h)
   .show 2*sn.count aaM+qu.length<2*seen.count aaM+((c:Int)::t).length
    simp only[Ze];omega
 .have M9:q=[]:=by
   cases q with
   |nil=>rfl
   |cons x t=>simp at h0
  subst M9;refine .some ?_
  show Wp _ _
  have KP:∀y,Sn seen y↔Ip (Dp s) (d:Int) y:=λy=>⟨hq.snd y,λh=>by
   have cl:∀x,(x=(d:Int)\/Sn seen x)->∀z,Dp s x z->Sn seen z:=λx hx=>by
    rcases hq.clo x hx with h|h|h
    .cases h
    .exact h.elim
    .exact h
   induction h with
   |one h=>exact cl _ (.inl rfl) _ h
   |step _ g ih=>exact cl _ (.inr ih) _ g⟩
  have fc:=hq.len
  refine Wp.count (λs=>s.1) seen.length (λk z=>z.2.length<=k/\∀y,y∈z.2↔Sn seen y/\y<(k:Int)) (by omega) rfl ⟨by simp,λy=>⟨λh=>(by cases h),λh=>(by have:=h.1.1;have:=h.2;omega)⟩⟩ λk z hk zo hJ=>?_
  obtain⟨i,o⟩:=z;obtain⟨XB,hJ⟩:=hJ;dsimp only at zo XB hJ;subst zo;simp only[W_,aaT,aaU,reduceCtorEq,aQ,aI];refine⟨λai=>?_,λhge=>⟨by omega,λy=>?_⟩⟩
  .have ai:k<seen.length:=by omega
   have Mo:Sn seen (k:Int)↔seen[k]=aaL:=by
    unfold Sn;rw[Y4,YX ai];simp
   simp only[ao ai,cX (m:=seen.length) (by omega) ai,W_,aaT,aaU,reduceCtorEq];refine⟨λh=>nY.2 ⟨by simp;omega,ai,by simp;omega,λy=>?_⟩,λh=>⟨ai,by omega,λy=>?_⟩⟩
   .rw[Y7,Y5,hJ];constructor
    .rintro(⟨h1,h2⟩|rfl)
     .exact⟨h1,by omega⟩
     .exact⟨Mo.2 h,by omega⟩
    .rintro⟨h1,h2⟩
     by_cases e:y=(k:Int)
     .exact .inr e
     .exact .inl ⟨h1,by omega⟩
   .rw[hJ];refine⟨λ⟨h1,h2⟩=>⟨h1,by omega⟩,λ⟨h1,h2⟩=>⟨h1,?_⟩⟩
    have:y≠(k:Int):=λe=>by
     rw[e,Mo,h]at h1;cases h1
    omega
  .rw[hJ,<-KP];refine⟨λh=>h.1,λh=>⟨h,?_⟩⟩;have:=(Zd.1 h.2).1;have:=h.1;omega
theorem Ek.all(x:jH)(hs:p4 x):Ek x:=λd hd=>by
 have key:Wp (M.eY bd x (d:Int)) λtr=>tr.length<=1000/\∀y,y∈tr↔Ip (Dp x) (d:Int) y:=by
  unfold M.eY;rw[aaO (by simp),YV,aaO (by simp;omega),wp_bind]
  refine(wj x hs).mono λL hL=>?_
  rw[wp_bind]
  exact(A4 x L hL d hd hs.2.2.1).mono λr hr=> .some hr
 obtain⟨tr,e,h1,h2⟩:=key;exact⟨tr,e,h1,by rw[h2,Ju]⟩
theorem Cm(l:Lw)(hw:WF ew l)(qk:ko l):M.dM bd l=some (yw l):=
 yC l hw qk (λ_ _=>yB.all _) λx hx=>Ek.all x (qk.2.2.2.2.2 x hx)
end L
namespace L
def dX(a b:Nat):Nat:=a ^^^(a&&& b)
theorem bA(a b i:Nat):(dX a b).testBit i=(a.testBit i&& !b.testBit i):=by
 unfold dX;rw[Nat.testBit_xor,Nat.testBit_and]
 cases a.testBit i<;>cases b.testBit i<;>rfl
theorem jo{a:Nat}(h:a<9223372036854775808):(ZY 64 (a:Int)).toNat=a:=by
 rw[BitVec.ofInt_natCast,BitVec.toNat_ofNat];exact Nat.mod_eq_of_lt (by omega)
theorem wrap_i64{x:Nat}(h:x<9223372036854775808):YW.wrap (x:Int)=(x:Int):=GV (by omega)
theorem A5{a b:Nat}(ha:a<9223372036854775808)(hb:b<9223372036854775808):ak .and .i64 (a:Int) (b:Int)=((a&&& b:Nat):Int):=by
 show YW.wrap ((ZY 64 (a:Int)&&& ZY 64 (b:Int)).toNat:Int)=_
 rw[BitVec.toNat_and,jo ha,jo hb,wrap_i64 (Nat.lt_of_le_of_lt Nat.and_le_left ha)]
theorem OI{a b:Nat}(ha:a<9223372036854775808)(hb:b<9223372036854775808):ak .xor .i64 (a:Int) (b:Int)=((a ^^^ b:Nat):Int):=by
 show YW.wrap ((ZY 64 (a:Int)^^^ ZY 64 (b:Int)).toNat:Int)=_
 have h:a ^^^ b<2 ^ 63:=Nat.xor_lt_two_pow (by omega) (by omega);rw[BitVec.toNat_xor,jo ha,jo hb,wrap_i64 (by omega)]
theorem Eu{a b:Nat}(ha:a<9223372036854775808)(hb:b<9223372036854775808):ak .andNot .i64 (a:Int) (b:Int)=((dX a b:Nat):Int):=by
 show YW.wrap ((ZY 64 (a:Int)&&& ~~~ZY 64 (b:Int)).toNat:Int)=_
 have h:(ZY 64 (a:Int)&&& ~~~ZY 64 (b:Int)).toNat=dX a b:=by
  apply aae;intro i;rw[bA,BitVec.testBit_toNat,BitVec.getLsbD_and,BitVec.getLsbD_not,<-BitVec.testBit_toNat,<-BitVec.testBit_toNat,jo ha,jo hb];by_cases hi:i<64
  .simp[hi]
  .have:a.testBit i=aaM:=Nat.testBit_lt_two_pow (Zv ha (by have:=Nat.pow_le_pow_right (n:=2) (by omega) (show 63<=i by omega);omega));simp[hi,this]
 have hl:dX a b<=a:=by
  apply Nat.le_of_testBit;intro i;rw[bA]
  cases a.testBit i<;>simp
 rw[h,wrap_i64 (by omega)]
theorem A6(a b:Nat):dX a b<=a:=by
 apply Nat.le_of_testBit;intro i;rw[bA]
 cases a.testBit i<;>simp
noncomputable def eF(a:Int):Int:=(M.fb 0 (Y2.wrap a)).getD 0
theorem wk(N:Nat)(a:Int):M.b8 N (Y2.wrap a)=some (eF a):=by
 unfold M.b8 eF;rfl
def L1(a b:Int):Int:=if a<b then-1 else if b<a then 1 else 0
theorem oe(N:Nat)(a b:Int):M.cmp_Compare_int N a b=some (L1 a b):=by
 simp only[M.cmp_Compare_int,M.cmp_isNaN_int,YV,decide_true,Bool.not_true,Y8,if_false,aaW,L1];split
 .rfl
 .split<;>rfl
theorem or_eq(a b c:Int):M.lg bd [a,b,c]=some (if a≠0 then a else if b≠0 then b else c):=by
 unfold M.lg;refine Wp.eq ?_
 refine Wp.count (λs=>s) 3 (λk _=>(1<=k->a=0)/\(2<=k->b=0)/\(3<=k->c=0)) (by omega) rfl ⟨by omega,by omega,by omega⟩ λk s hk hs hJ=>?_
 subst hs
 match k,hk with
 |0,_=>
  refine .dec (λ_=> .bind (.idx 0 rfl (show 0<3 by omega) ?_)) (λh=>absurd (show(0:Int)<3 by omega) h);refine .pZ (λh=> .some ?_) (λh=> .some ?_)
  .show a=_
   rw[aaP (show a≠0 from h)]
  .exact⟨by omega,by decide,λ_=>h,by omega,by omega⟩
 |1,_=>
  refine .dec (λ_=> .bind (.idx 1 rfl (show 1<3 by omega) ?_)) (λh=>absurd (show(1:Int)<3 by omega) h);have h0:=hJ.1 (by omega);refine .pZ (λh=> .some ?_) (λh=> .some ?_)
  .show b=_
   rw[aaO (by simpa using h0),aaP (show b≠0 from h)]
  .exact⟨by omega,by decide,λ_=>h0,λ_=>h,by omega⟩
 |2,_=>
  refine .dec (λ_=> .bind (.idx 2 rfl (show 2<3 by omega) ?_)) (λh=>absurd (show(2:Int)<3 by omega) h);have h0:=hJ.1 (by omega);have h1:=hJ.2.1 (by omega);refine .pZ (λh=> .some ?_) (λh=> .some ?_)
  .show c=_
   rw[aaO (by simpa using h0),aaO (by simpa using h1)]
  .exact⟨by omega,by decide,λ_=>h0,λ_=>h1,λ_=>h⟩
 |3,_=>
  have h0:=hJ.1 (by omega);have h1:=hJ.2.1 (by omega);have h2:=hJ.2.2 (by omega);refine .dec (λh=>absurd h (by simp)) (λ_=> .some ?_)
  show(0:Int)=_
  rw[aaO (by simpa using h0),aaO (by simpa using h1),h2]
def L2(a b c d:Int)(f g:Int):Int:=if f<g then-1 else if g<f then 1 else if a<c then-1 else if c<a then 1 else if b<d then-1 else if d<b then 1 else 0
theorem cmp_eq(a b c d:Int):M.bP bd (a,b) (c,d)=some (L2 a b c d (eF a) (eF c)):=by
 unfold M.bP;rw[wk,YV,wk,YV,oe,YV,oe,YV,oe,YV,or_eq,YV];unfold L1 L2;dsimp only
 congr 1
 generalize eF a=f;generalize eF c=g;by_cases h1:f<g
 .simp[h1]
 .by_cases h2:g<f
  .simp[h1,h2]
  .by_cases h3:a<c
   .simp[h1,h2,h3]
   .by_cases h4:c<a<;>simp[h1,h2,h3,h4]
def lP(x y:Int×Int):Prop:=eF x.1<eF y.1\/eF x.1=eF y.1/\(x.1<y.1\/x.1=y.1/\x.2<y.2)
theorem wm(x y:Int×Int):ZL (lM λa b c d=>M.bP bd (a,b) (c,d)) x y=aaL↔lP x y:=by
 unfold ZL lM
 show decide ((M.bP bd (x.1,x.2) (y.1,y.2)).getD 0<0)=aaL↔_
 rw[cmp_eq,Option.getD_some];unfold L2 lP;generalize eF x.1=f;generalize eF y.1=g;rw[aaW]
 grind
theorem og(x y:Int×Int):ZL (lM λa b c d=>M.bP bd (a,b) (c,d)) x y=aaM↔¬lP x y:=by
 rw[<-wm];simp
theorem OJ:GL λa b c d=>M.bP bd (a,b) (c,d) where
 all a b c d:=⟨_,cmp_eq a b c d⟩
 swo:=⟨λx=>by rw[og];unfold lP;omega,λx y z h1 h2=>by rw[wm]at*;unfold lP at*;omega,λx y z h1 h2=>by rw[og]at*;unfold lP at*;omega⟩
 tot x y h1 h2:=by
  rw[og]at*;unfold lP at*
  refine Prod.ext ?_ ?_<;>omega
end L
namespace L
theorem dU{x m b:Nat}:x&&& m=b↔∀i,(x.testBit i&&m.testBit i)=b.testBit i:=by
 constructor
 .rintro rfl i;rw[Nat.testBit_and]
 .intro h;apply aae;intro i;rw[Nat.testBit_and];exact h i
theorem ee{b m:Nat}:b&&& m=b↔∀i,b.testBit i=aaL->m.testBit i=aaL:=by
 rw[dU];constructor
 .intro h i hb;have:=h i;rw[hb]at this;simpa using this
 .intro h i
  cases hb:b.testBit i with
  |false=>rfl
  |true=>rw[h i hb];rfl
theorem dC(j i:Nat):(2 ^ j).testBit i=decide (j=i):=Nat.testBit_two_pow
theorem rn{m n:Nat}(h:m<2 ^ n){i:Nat}(hi:m.testBit i=aaL):i<n:=by
 refine Classical.byContradiction λg=>?_
 rw[Nat.testBit_lt_two_pow (Zv h (Nat.pow_le_pow_right (by omega) (by omega)))]at hi;cases hi
def mD(n:Nat)(S:Nat->Prop)(m b:Nat):Prop:=m<2 ^ n/\b&&& m=b/\∀x,x<2 ^ n->x&&& m=b->S x
theorem mD.lt{n:Nat}{S:Nat->Prop}{m b:Nat}(h:mD n S m b):b<2 ^ n:=Nat.lt_of_le_of_lt (by rw[<-h.2.1];exact Nat.and_le_right) h.1
theorem mD.merge{n:Nat}{S:Nat->Prop}{m b j:Nat}(h:mD n S m b)(g:mD n S m (b ^^^ 2 ^ j))(Ux:m.testBit j=aaL):mD n S (dX m (2 ^ j)) (dX b (2 ^ j)):=by
 refine⟨Nat.lt_of_le_of_lt (A6 _ _) h.1,?_,λx hx hm=>?_⟩
 .rw[ee];intro i;rw[bA,bA];have:=ee.1 h.2.1 i;intro h2;simp only[ZE]at h2⊢;exact⟨this h2.1,h2.2⟩
 .have hm:=dU.1 hm;by_cases HZ:x.testBit j=b.testBit j
  .refine h.2.2 x hx (dU.2 λi=>?_);have h1:=hm i;rw[bA,bA,dC]at h1;by_cases e:j=i
   .subst e;rw[HZ,Ux];simp
   .simpa[e]using h1
  .refine g.2.2 x hx (dU.2 λi=>?_);have h1:=hm i;rw[bA,bA,dC]at h1;rw[Nat.testBit_xor,dC];by_cases e:j=i
   .subst e;rw[Ux];cases YE:x.testBit j<;>cases u0:b.testBit j<;>simp_all
   .simpa[e]using h1
theorem mD.wider{n:Nat}{S:Nat->Prop}{m b j:Nat}(h:mD n S m b)(hj:m.testBit j=aaM)(hn:j<n):mD n S (m|||2 ^ j) b/\mD n S (m|||2 ^ j) (b ^^^ 2 ^ j):=by
 have ai:m|||2 ^ j<2 ^ n:=Nat.or_lt_two_pow h.1 (Nat.pow_lt_pow_right (by omega) hn)
 have hb:b.testBit j=aaM:=by
  cases e:b.testBit j with
  |false=>rfl
  |true=>rw[ee.1 h.2.1 j e]at hj;cases hj
 refine⟨⟨ai,?_,λx hx hm=>h.2.2 x hx (dU.2 λi=>?_)⟩,⟨ai,?_,λx hx hm=>h.2.2 x hx (dU.2 λi=>?_)⟩⟩
 .rw[ee];intro i hi;rw[aao,ee.1 h.2.1 i hi];rfl
 .have:=dU.1 hm i;rw[aao,dC]at this;by_cases e:j=i
  .subst e;rw[hj,hb];simp
  .simpa[e]using this
 .rw[ee];intro i hi;rw[Nat.testBit_xor,dC]at hi;rw[aao,dC];by_cases e:j=i
  .simp[e]
  .have:b.testBit i=aaL:=by simpa[e]using hi
   rw[ee.1 h.2.1 i this];rfl
 .have:=dU.1 hm i;rw[aao,dC,Nat.testBit_xor,dC]at this;by_cases e:j=i
  .subst e;rw[hj,hb];simp
  .simpa[e]using this
theorem L3{m j:Nat}(h:m.testBit j=aaM):dX (m|||2 ^ j) (2 ^ j)=m:=by
 apply aae;intro i;rw[bA,aao,dC];by_cases e:j=i
 .subst e;simp[h]
 .simp[e]
theorem sK{b j:Nat}(h:b.testBit j=aaM):dX b (2 ^ j)=b:=by
 apply aae;intro i;rw[bA,dC];by_cases e:j=i
 .subst e;simp[h]
 .simp[e]
theorem Jv(b j:Nat):dX (b ^^^ 2 ^ j) (2 ^ j)=dX b (2 ^ j):=by
 apply aae;intro i;rw[bA,bA,Nat.testBit_xor,dC]
 by_cases e:j=i<;>simp[e]
theorem Jw(b j:Nat):b ^^^ 2 ^ j ^^^ 2 ^ j=b:=by rw[Nat.xor_assoc,Nat.xor_self,Nat.xor_zero]
theorem sL{n i:Nat}(h:i<n):(2 ^ n-1).testBit i=aaL:=by rw[Nat.testBit_two_pow_sub_one];simpa using h
theorem A7{n:Nat}{S:Nat->Prop}{In:Nat->Nat->Prop}(h0:∀x,x<2 ^ n->S x->In (2 ^ n-1) x)
 (hc:∀m b j,j<n->m.testBit j=aaL->In m b->In m (b ^^^ 2 ^ j)->In (dX m (2 ^ j)) (dX b (2 ^ j))):∀k m b,2 ^ n-m=k->mD n S m b->In m b:=by
 intro k
 induction k using Nat.strongRecOn with
 |_ k ih=>
  intro m b hk h;by_cases hf:∃j,j<n/\m.testBit j=aaM
  .obtain⟨j,hj,hm⟩:=hf;obtain⟨h1,h2⟩:=h.wider hm hj
   have hgt:m<m|||2 ^ j:=by
    refine Nat.lt_of_le_of_ne Nat.left_le_or λe=>?_
    have:(m|||2 ^ j).testBit j=aaL:=by rw[aao,dC];simp
    rw[<-e,hm]at this;cases this
   have ai:=h1.1;have:=hc (m|||2 ^ j) b j hj (by rw[aao,dC];simp) (ih _ (by omega) _ _ rfl h1) (ih _ (by omega) _ _ rfl h2)
   have hb:b.testBit j=aaM:=by
    cases e:b.testBit j with
    |false=>rfl
    |true=>rw[ee.1 h.2.1 j e]at hm;cases hm
   rwa [L3 hm,sK hb]at this
  .have hm:m=2 ^ n-1:=by
    apply aae;intro i;rw[Nat.testBit_two_pow_sub_one];by_cases hi:i<n
    .cases e:m.testBit i with
     |true=>simp[hi]
     |false=>exact absurd ⟨i,hi,e⟩ hf
    .cases e:m.testBit i with
     |true=>exact absurd (rn h.1 e) hi
     |false=>simp[hi]
   subst hm;exact h0 b h.lt (h.2.2 b h.lt h.2.1)
theorem mD.full{n:Nat}{S:Nat->Prop}{x:Nat}(hx:x<2 ^ n)(hS:S x):mD n S (2 ^ n-1) x:=by
 have hp:0<2 ^ n:=Nat.two_pow_pos n;refine⟨by omega,?_,λy hy he=>?_⟩
 .rw[ee];intro i hi;exact sL (rn hx hi)
 .have:y&&&(2 ^ n-1)=y:=by rw[ee];intro i hi;exact sL (rn hy hi)
  rw[this]at he;subst he;exact hS
end L
namespace L
abbrev PS:Type:=List (aa.den×Bool)
def In(l:PS)(p:Int×Int):Prop:=(bk aa l p).getD aaM=aaL
def wo(a b:Int×Int):Prop:=a.1<b.1\/a.1=b.1/\a.2<b.2
structure ie(l:PS):Prop where
 tr:∀e∈l,e.2=aaL
 srt:l.Pairwise λe f=>wo e.1 f.1
theorem wo.trans{a b c:Int×Int}(h:wo a b)(g:wo b c):wo a c:=by unfold wo at*;omega
theorem wo.total{a b:Int×Int}(h:¬wo a b)(g:b≠a):wo b a:=by
 have g:¬(b.1=a.1/\b.2=a.2):=λe=>g (Prod.ext e.1 e.2)
 unfold wo at*;omega
theorem iz(a b:Int×Int):bV aa a b=aaL↔a=b:=by
 show decide ((a.1:Int)=b.1/\(a.2:Int)=b.2)=aaL↔_
 rw[aaW,Prod.ext_iff]
theorem iT(a b:Int×Int):bV aa a b=aaM↔a≠b:=by rw[<-Bool.not_eq_true,ne_eq,iz]
theorem uS(a b:Int×Int):FV aa a b=aaL↔wo a b:=by
 show decide ((a.1:Int)<b.1\/((a.1:Int)=b.1/\(a.2:Int)<b.2))=aaL↔_
 rw[aaW];rfl
theorem ig:{l:PS}->{p:Int×Int}->(∀e∈l,e.2=aaL)->(In l p↔(p,aaL)∈l)
 |[],p,_=>by simp[In,bk]
 |q::l,p,h=>by
  have ih:=ig (l:=l) (p:=p) λe he=>h e (Zm _ he)
  have hq:=h q Zz;unfold In bk;by_cases e:bV aa q.1 p=aaL
  .rw[aaP e];have e':=(iz _ _).1 e;have:q=(p,aaL):=Prod.ext e' hq;simp[this]
  .rw[aaO e]
   have e':q.1≠p:=λg=>e ((iz _ _).2 g)
   refine ih.trans ⟨λg=>Zm _ g,λg=>?_⟩
   rcases Y6.1 g with g|g
   .exact absurd (by rw[<-g]) e'
   .exact g
theorem ie.nil:ie []:=⟨λe h=>by simp at h, .nil⟩
theorem sM{l:PS}{p:Int×Int}{v:Bool}{e:(Int×Int)×Bool}:e∈xn aa l p v↔e=(p,v)\/e∈l:=by rw[(mT p v l).mem_iff,Y6]
theorem yF{p:Int×Int}{v:Bool}:{l:PS}->l.Pairwise (λe f=>wo e.1 f.1)->(∀e∈l,e.1≠p)->(xn aa l p v).Pairwise λe f=>wo e.1 f.1
 |[],_,_=>by simp[xn]
 |q::l,h,hn=>by
  obtain⟨h1,h2⟩:=Zu.1 h;unfold xn;by_cases hk:FV aa p q.1=aaL
  .rw[aaP hk];have hk:=(uS _ _).1 hk;refine Zu.2 ⟨λe he=>?_,h⟩
   rcases Y6.1 he with rfl|he
   .exact hk
   .exact hk.trans (h1 e he)
  .rw[aaO hk]
   have hk:¬wo p q.1:=λg=>hk ((uS _ _).2 g)
   refine Zu.2 ⟨λe he=>?_,yF h2 λe he=>hn e (Zm _ he)⟩
   rcases sM.1 he with rfl|he
   .exact wo.total hk (hn q Zz)
   .exact h1 e he
theorem ie.put{l:PS}(h:ie l)(p:Int×Int):ie (nk aa l p aaL):=by
 refine⟨λe he=>?_,yF (h.srt.filter _) λe he=>?_⟩
 .rcases sM.1 he with rfl|he
  .rfl
  .exact h.tr e (Zt.1 he).1
 .have:=(Zt.1 he).2;intro e';rw[Bool.not_eq_true',iT]at this;exact this e'
theorem wq{l:PS}(h:ie l){p q:Int×Int}:In (nk aa l p aaL) q↔q=p\/In l q:=by
 rw[ig (h.put p).tr,ig h.tr];unfold nk;rw[sM,Zt,Bool.not_eq_true',iT];constructor
 .rintro(e|⟨e,_⟩)
  .exact .inl (Prod.ext_iff.1 e).1
  .exact .inr e
 .rintro(rfl|e)
  .exact .inl rfl
  .by_cases g:q=p
   .exact .inl (by rw[g])
   .exact .inr ⟨e,g⟩
theorem Jx{l:PS}(h:ie l){p:Int×Int}(hn:¬In l p):(nk aa l p aaL).length=l.length+1:=by
 unfold nk;refine(mT (K:=aa) p aaL _).length_eq.trans ?_;rw[Ze,aav.2];intro e he;rw[Bool.not_eq_true',iT];intro g;refine hn ((ig h.tr).2 ?_);have:e=(p,aaL):=Prod.ext g (h.tr e he);rw[<-this];exact he
theorem ie.ext{l m:PS}(h:ie l)(g:ie m)(e:∀p,In l p↔In m p):l=m:=by
 have zS:∀{l:PS},ie l->l.Nodup:=λh=>h.srt.imp λg e=>by
  subst e;unfold wo at g;omega
 have hm:∀a:aa.den×Bool,a∈l↔a∈m:=λa=>by
  constructor
  .intro ha;have:a=(a.1,aaL):=Prod.ext rfl (h.tr a ha);rw[this]at ha⊢;exact(ig g.tr).1 ((e _).1 ((ig h.tr).2 ha))
  .intro ha;have:a=(a.1,aaL):=Prod.ext rfl (g.tr a ha);rw[this]at ha⊢;exact(ig h.tr).1 ((e _).2 ((ig g.tr).2 ha))
 refine List.Perm.eq_of_pairwise (le:=λe f:aa.den×Bool=>wo e.1 f.1) (λa b _ _ h1 h2=>?_) h.srt g.srt ((List.perm_ext_iff_of_nodup (zS h) (zS g)).2 hm);unfold wo at h1 h2;omega
theorem nf{α:Type}:∀{A B:List α},A.Nodup->(∀x∈A,x∈B)->A.length<=B.length
 |[],_,_,_=>Nat.zero_le _
 |a::A,B,h,hs=>by
  obtain⟨h1,h2⟩:=List.nodup_cons.1 h;obtain⟨s,t,rfl⟩:=List.append_of_mem (hs a Zz)
  have:=nf (A:=A) (B:=s++t) h2 λx hx=>by
   have:=hs x (Zm _ hx)
   have cq:x≠a:=λe=>h1 (e▸hx)
   simp only[Y7,Y6]at this⊢
   rcases this with h|h|h
   .exact .inl h
   .exact absurd h cq
   .exact .inr h
  simp only[Zf,Ze]at this⊢;omega
theorem ie.len{l:PS}(h:ie l)(k:Nat)(hk:∀p,In l p->∃m b:Nat,p=((m:Int),(b:Int))/\m<k/\b<k):l.length<=k*k:=by
 have:=nf (A:=l.map λe=>(e.1.1*k+e.1.2:Int)) (B:=(Y1 (k*k)).map λx:Nat=>(x:Int)) ?_ λx hx=>?_
 .simpa using this
 .rw[List.Nodup,List.pairwise_map];refine List.Pairwise.imp_of_mem (λ{e f}he hf ai=>?_) h.srt
  have key:∀{e:aa.den×Bool},e∈l->In l e.1:=λ{e}he=>(ig h.tr).2 (by rw[show(e.1,aaL)=e from Prod.ext rfl (h.tr e he).symm];exact he)
  obtain⟨m,b,e1,h1,h2⟩:=hk _ (key he);obtain⟨m',b',e2,h3,h4⟩:=hk _ (key hf);rw[e1,e2]at ai⊢;dsimp only[wo]at ai⊢;intro g
  have g:m*k+b=m'*k+b':=by exact_mod_cast g
  have h5:(m*k+b)/k=m:=by rw[Nat.mul_comm,Nat.mul_add_div (by omega),Nat.div_eq_of_lt h2,Z1]
  have h6:(m'*k+b')/k=m':=by rw[Nat.mul_comm,Nat.mul_add_div (by omega),Nat.div_eq_of_lt h4,Z1]
  have:m=m':=by rw[<-h5,<-h6,g]
  subst this;omega
 .obtain⟨e,he,rfl⟩:=List.mem_map.1 hx;have:In l e.1:=(ig h.tr).2 (by rw[show(e.1,aaL)=e from Prod.ext rfl (h.tr e he).symm];exact he);obtain⟨m,b,e1,h1,h2⟩:=hk _ this;rw[e1];refine List.mem_map.2 ⟨m*k+b,Zn.2 ?_,by simp⟩;have:=Zg k (show m+1<=k by omega);rw[ZH]at this;omega
theorem yG{α A R:Type}{l0:List (aa.den×α)}{fin:List (aa.den×α)×List (aa.den×α)×A->Option R}{step:List (aa.den×α)×List (aa.den×α)×A->(aa.den×α)->Option A}(I:List (aa.den×α)->A->Prop){OK:R->Prop}(hu:∀r r',OK r->OK r'->r=r')
 (cQ:∀left acc x,x∈left->I left acc->Wp (step (l0,left,acc) x) (I (jw aa left x.1)))(Fp:∀acc,I [] acc->Wp (fin (l0,[],acc)) OK):
 ∀(n N:Nat)left acc,left.length<=n->n<N->I left acc->Wp (mc (λs k2=>if s.2.1.isEmpty=aaL then fin s else IK (λp=>p∈s.2.1) λx=>(step s x).bind λa=>k2 (s.1,jw aa s.2.1 x.1,a)) N (l0,left,acc)) OK:=by
 intro n
 induction n with
 |zero=>
  intro N left acc hl hN hi;obtain⟨N,rfl⟩:=Nat.exists_eq_succ_of_ne_zero (show N≠0 by omega);obtain rfl:=List.eq_nil_of_length_eq_zero (Nat.le_zero.1 hl);obtain⟨r,hr,h⟩:=Fp acc hi;refine⟨r,?_,h⟩;unfold mc;exact(aaP rfl).trans hr
 |succ n ih=>
  intro N left acc hl hN hi;obtain⟨N,rfl⟩:=Nat.exists_eq_succ_of_ne_zero (show N≠0 by omega)
  by_cases he:left=[]
  .subst he;obtain⟨r,hr,h⟩:=Fp acc hi;refine⟨r,?_,h⟩;unfold mc;exact(aaP rfl).trans hr
  .have he':¬left.isEmpty=aaL:=by simpa using he
   have key:∀x,x∈left->∃a r,step (l0,left,acc) x=some a/\mc (λs k2=>if s.2.1.isEmpty=aaL then fin s else IK (λp=>p∈s.2.1) λx=>(step s x).bind λa=>k2 (s.1,jw aa s.2.1 x.1,a)) N (l0,jw aa left x.1,a)=some r/\OK r:=λx hx=>by
    obtain⟨a,ha,ik⟩:=cQ left acc x hx hi
    have:(jw aa left x.1).length<left.length:=by
     unfold jw;refine List.length_filter_lt_length_iff_exists.2 ⟨x,hx,?_⟩;rw[(iz _ _).2 rfl];simp
    obtain⟨r,hr,h⟩:=ih N (jw aa left x.1) a (by omega) (by omega) ik;exact⟨a,r,ha,hr,h⟩
   obtain⟨x0,MG⟩:=List.exists_mem_of_ne_nil _ he;obtain⟨_,r0,_,_,h0⟩:=key x0 MG;refine⟨r0,?_,h0⟩;unfold mc;refine(aaO he').trans (KW ⟨x0,MG⟩ λx hx=>?_);obtain⟨a,r,ha,hr,h⟩:=key x hx;rw[ha,YV,hu _ _ h0 h];exact hr
end L
namespace L
theorem jk{j:Nat}(h:j<62):ph .i64 (1:Int) (j:Int)=some ((2 ^ j:Nat):Int):=by
 unfold ph;rw[aaO (by omega)];unfold Fz
 have h1:min (j:Int).toNat YW.bits=j:=by simp[IntKind.bits];omega
 have h2:2 ^ j<2 ^ 62:=Nat.pow_lt_pow_right (by omega) h
 have e:(1:Int)*2 ^ j=((2 ^ j:Nat):Int):=by rw[Int.one_mul];simp
 rw[h1,e,wrap_i64 (by omega)]
theorem Hk:∀j,j<8->eF ((2 ^ j:Nat):Int)=1:=by
 intro j hj
 have h:((Y1 8).all λj=>decide (eF ((2 ^ j:Nat):Int)=1))=aaL:=by kernel_rfl
 exact aaQ (List.all_eq_true.1 h j (Zn.2 hj))
abbrev pI(m b:Nat):Int×Int:=((m:Int),(b:Int))
theorem oh{m b m' b':Nat}(h:pI m b=pI m' b'):m=m'/\b=b':=by
 have h:=Prod.ext_iff.1 h;have h1:(m:Int)=m':=h.1;have h2:(b:Int)=b':=h.2;omega
theorem wu(b j:Nat):b ^^^(b ^^^ 2 ^ j)=2 ^ j:=by rw[<-Nat.xor_assoc,Nat.xor_self,Nat.zero_xor]
theorem lN{n:Nat}(h:n<=8):2 ^ n<=256:=Nat.pow_le_pow_right (n:=2) (by omega) h
theorem Jy{b j:Nat}(hb:b<256)(hj:j<8):b ^^^ 2 ^ j<256:=Nat.xor_lt_two_pow (n:=8) hb (by have:=Nat.pow_lt_pow_right (a:=2) (by omega) hj;omega)
theorem wv{j:Nat}(hj:j<8):2 ^ j<256:=Nat.pow_lt_pow_right (a:=2) (by omega) hj
theorem Hl{m b j:Nat}(hm:m<256)(hb:b<256)(hj:j<8)(EW:m.testBit j=aaL):M.iG bd (pI m b) (pI m (b ^^^ 2 ^ j))=some (pI (dX m (2 ^ j)) (dX b (2 ^ j)),aaL):=by
 have h2:=wv hj
 have hx:ak .xor .i64 (b:Int) ((b ^^^ 2 ^ j:Nat):Int)=((2 ^ j:Nat):Int):=by rw[OI (by omega) (by have:=Jy hb hj;omega),wu]
 have ha:ak .and .i64 ((2 ^ j:Nat):Int) (m:Int)≠0:=by
  rw[A5 (by omega) (by omega)];intro h
  have h:2 ^ j&&& m=0:=by exact_mod_cast h
  have:=aaV (λx=>x.testBit j) h;simp only[Nat.testBit_and,dC,EW,Nat.zero_testBit]at this;simp at this
 have ho:M.b8 bd (Y2.wrap ((2 ^ j:Nat):Int))=some 1:=by rw[wk,Hk j hj]
 have h0:decide (ak .and .i64 ((2 ^ j:Nat):Int) (m:Int)=0)=aaM:=aaS ha;unfold M.iG;simp only[hx,ho,h0,YV,decide_true,Bool.not_true,Y8,if_false,Eu (show m<9223372036854775808 by omega) (show 2 ^ j<9223372036854775808 by omega),Eu (show b<9223372036854775808 by omega) (show 2 ^ j<9223372036854775808 by omega)]
structure kU(n:Nat)(S:Nat->Prop)(l:PS):Prop where
 ok:ie l
 imp:∀p,In l p->∃m b:Nat,p=pI m b/\mD n S m b
 base:∀x,x<2 ^ n->S x->In l (pI (2 ^ n-1) x)
theorem kU.len{n:Nat}{S:Nat->Prop}{l:PS}(h:kU n S l)(hn:n<=8):l.length<=65536:=by
 have:=h.ok.len (2 ^ n) λp hp=>by
  obtain⟨m,b,e,hi⟩:=h.imp p hp;exact⟨m,b,e,hi.1,hi.lt⟩
 have h8:=lN hn;exact Zj this (Zj (Nat.mul_le_mul h8 h8) (by omega))
def Cl(n:Nat)(l:PS)(OL:List (Int×Int)):Prop:=
 ∀m b j:Nat,j<n->m.testBit j=aaL->In l (pI m b)->In l (pI m (b ^^^ 2 ^ j))->pI m b∉OL->pI m (b ^^^ 2 ^ j)∉OL->In l (pI (dX m (2 ^ j)) (dX b (2 ^ j)))
def A8(n:Nat)(S:Nat->Prop)(l:PS):Prop:=ie l/\∀p,In l p↔∃m b:Nat,p=pI m b/\mD n S m b
theorem A8.L4{n:Nat}{S:Nat->Prop}{l l':PS}(h:A8 n S l)(g:A8 n S l'):l=l':=h.1.ext g.1 λp=>(h.2 p).trans (g.2 p).symm
theorem kU.done{n:Nat}{S:Nat->Prop}{l:PS}(h:kU n S l)(hc:Cl n l []):A8 n S l:=
 ⟨h.ok,λp=>⟨h.imp p,λ⟨m,b,e,hi⟩=>by
   rw[e]
   exact A7 (In:=λm b=>In l (pI m b)) h.base (λm b j hj hm h1 h2=>hc m b j hj hm h1 h2 (by simp) (by simp)) _ m b rfl hi⟩⟩
theorem kU.put{n:Nat}{S:Nat->Prop}{l:PS}(h:kU n S l){m b:Nat}(hi:mD n S m b):kU n S (nk aa l (pI m b) aaL):=
 ⟨h.ok.put _,λp hp=>by
   rcases(wq h.ok).1 hp with rfl|hp
   .exact⟨m,b,rfl,hi⟩
   .exact h.imp p hp,λx hx hS=>(wq h.ok).2 (.inr (h.base x hx hS))⟩
structure tG(n:Nat)(S:Nat->Prop)(L0:Nat)(qF rest:List (Int×Int))(m b:Nat)(j:Nat)(l:PS)(nx:List (Int×Int)):Prop where
 good:kU n S l
 levs:∀p∈qF,In l p
 nxt:∀p∈nx,In l p
 len:l.length=L0+nx.length
 cl:Cl n l (pI m b::rest++nx)
 bits:∀i,i<j->m.testBit i=aaL->In l (pI m (b ^^^ 2 ^ i))->pI m (b ^^^ 2 ^ i)∉nx->In l (pI (dX m (2 ^ i)) (dX b (2 ^ i)))
theorem tG.same{n:Nat}{S:Nat->Prop}{L0:Nat}{qF rest:List (Int×Int)}{m b j:Nat}{l:PS}{nx:List (Int×Int)}(h:tG n S L0 qF rest m b j l nx)(hb:m.testBit j=aaL->In l (pI m (b ^^^ 2 ^ j))->In l (pI (dX m (2 ^ j)) (dX b (2 ^ j)))):
 tG n S L0 qF rest m b (j+1) l nx:=
 ⟨h.good,h.levs,h.nxt,h.len,h.cl,λi hi hm h1 h2=>by
   rcases Zb.1 hi with hi|rfl
   .exact h.bits i hi hm h1 h2
   .exact hb hm h1⟩
theorem tG.add{n:Nat}{S:Nat->Prop}{L0:Nat}{qF rest:List (Int×Int)}{m b j:Nat}{l:PS}{nx:List (Int×Int)}(h:tG n S L0 qF rest m b j l nx)(hi:mD n S (dX m (2 ^ j)) (dX b (2 ^ j)))(hn:¬In l (pI (dX m (2 ^ j)) (dX b (2 ^ j)))):
 tG n S L0 qF rest m b (j+1) (nk aa l (pI (dX m (2 ^ j)) (dX b (2 ^ j))) aaL) (nx++[pI (dX m (2 ^ j)) (dX b (2 ^ j))]):=by
 have hp:∀q,In (nk aa l (pI (dX m (2 ^ j)) (dX b (2 ^ j))) aaL) q↔q=pI (dX m (2 ^ j)) (dX b (2 ^ j))\/In l q:=λq=>wq h.good.ok
 refine⟨h.good.put hi,λp zg=>(hp p).2 (.inr (h.levs p zg)),λp zg=>(hp p).2 ?_,by rw[Jx h.good.ok hn,h.len];simp;omega,λm' b' i ik hm h1 h2 h3 h4=>(hp _).2 ?_,λi ik hm h1 h2=>(hp _).2 ?_⟩
 .rcases Y7.1 zg with h'|h'
  .exact .inr (h.nxt p h')
  .exact .inl (Y5.1 h')
 .simp only[aar,Y6,Y7,List.not_mem_nil,or_false,not_or]at h3 h4
  rcases(hp _).1 h1 with e|h1
  .exact absurd e h3.2.2.2
  .rcases(hp _).1 h2 with e|h2
   .exact absurd e h4.2.2.2
   .exact .inr (h.cl m' b' i ik hm h1 h2 (by simp only[aar,Y6,Y7,not_or];exact⟨h3.1,h3.2.1,h3.2.2.1⟩) (by simp only[aar,Y6,Y7,not_or];exact⟨h4.1,h4.2.1,h4.2.2.1⟩))
 .simp only[Y7,Y5,not_or]at h2
  rcases Zb.1 ik with ik|rfl
  .rcases(hp _).1 h1 with e|h1
   .exact absurd e h2.2
   .exact .inr (h.bits i ik hm h1 h2.1)
  .exact .inl rfl
theorem tG.out{n:Nat}{S:Nat->Prop}{L0:Nat}{qF rest:List (Int×Int)}{m b:Nat}{l:PS}{nx:List (Int×Int)}(h:tG n S L0 qF rest m b n l nx):Cl n l (rest++nx):=by
 intro m' b' i hi hm h1 h2 h3 h4
 have Uy:=h3;have QP:=h4
 simp only[Y7,not_or]at h3 h4;by_cases e1:pI m' b'=pI m b
 .obtain⟨rfl,rfl⟩:=oh e1;exact h.bits i hi hm h2 h4.2
 .by_cases e2:pI m' (b' ^^^ 2 ^ i)=pI m b
  .obtain⟨rfl,e3⟩:=oh e2
   have e4:b'=b ^^^ 2 ^ i:=by rw[<-e3,Jw]
   subst e4;rw[Jv];exact h.bits i hi hm h1 h3.2
  .exact h.cl m' b' i hi hm h1 h2 (by simp only[aar,Y6,not_or];exact⟨e1,Uy⟩) (by simp only[aar,Y6,not_or];exact⟨e2,QP⟩)
theorem Jz{n:Nat}{S:Nat->Prop}{m b j:Nat}(h:mD n S m b)(g:mD n S m (b ^^^ 2 ^ j)):m.testBit j=aaL:=by
 cases hb:b.testBit j with
 |true=>exact ee.1 h.2.1 j hb
 |false=>exact ee.1 g.2.1 j (by rw[Nat.testBit_xor,dC,hb];simp)
theorem S8(n:Nat)(hn:n<=8)(S:Nat->Prop)(l0:PS)(h0:ie l0)(Uz:∀p,In l0 p↔∃x,x<2 ^ n/\S x/\p=pI (2 ^ n-1) x):Wp (M.dO bd (n:Int) l0) (A8 n S):=by
 have h8:=lN hn
 have UA:kU n S l0:=⟨h0,λp hp=>by
  obtain⟨x,hx,hS,e⟩:=(Uz p).1 hp
  exact⟨_,x,e, .full hx hS⟩,λx hx hS=>(Uz _).2 ⟨x,hx,hS,rfl⟩⟩
 have YF:=UA.len hn;unfold M.dO;refine yG (λleft acc=>(∀e∈left,e∈l0)/\(∀p∈acc,In l0 p)/\(∀p,In l0 p->p∈acc\/∃e∈left,e.1=p)/\acc.length+left.length<=l0.length) (λr r' h g=>h.L4 g) (λleft acc x hx hI=>?_) (λacc hI=>?_) l0.length bd l0 [] (YY _) (by unfold bd;omega) ⟨λe he=>he,λp hp=>by simp at hp,λp hp=> .inr ⟨(p,aaL),(ig h0.tr).1 hp,rfl⟩,by simp⟩
 .obtain⟨h1,h2,h3,h4⟩:=hI
  have hlen:(jw aa left x.1).length<left.length:=by
   unfold jw;refine List.length_filter_lt_length_iff_exists.2 ⟨x,hx,?_⟩;rw[(iz _ _).2 rfl];simp
  have lK:∀e,e∈jw aa left x.1↔e∈left/\e.1≠x.1:=λe=>by
   unfold jw;rw[Zt,Bool.not_eq_true',iT]
  have MG:In l0 x.1:=(ig h0.tr).2 (by rw[show(x.1,aaL)=x from Prod.ext rfl (h0.tr x (h1 x hx)).symm];exact h1 x hx);refine Wp.p3 (by simp;omega) ⟨λe he=>h1 e ((lK e).1 he).1,λp hp=>?_,λp hp=>?_,by simp;omega⟩
  .rcases Y7.1 hp with hp|hp
   .exact h2 p hp
   .rw[Y5.1 hp];exact MG
  .by_cases e:p=x.1
   .exact .inl (List.mem_append_right _ (by rw[e];exact List.mem_singleton_self _))
   .rcases h3 p hp with h|⟨f,hf,rfl⟩
    .exact .inl (List.mem_append_left _ h)
    .exact .inr ⟨f,(lK f).2 ⟨hf,e⟩,rfl⟩
 .obtain⟨-,h2,h3,h4⟩:=hI
  refine Wp.loop (λs=>kU n S s.1/\(∀p∈s.2,In s.1 p)/\Cl n s.1 s.2/\s.2.length<=s.1.length) (λs=>2*(65536-s.1.length)+(if s.2=[]then 0 else 1)) ⟨UA,h2,λm b j _ _ hm _ hn _=>absurd ?_ hn,by simpa using h4⟩ (by unfold bd;show 2*(65536-l0.length)+(if acc=[]then 0 else 1)<_;split<;>omega) λs hs=>?_
  .rcases h3 _ hm with h|⟨e,he,_⟩
   .exact h
   .simp at he
  .obtain⟨l,qF⟩:=s;obtain⟨hg,OM,ES,hle⟩:=hs;dsimp only at hg OM ES hle⊢;have Mp:=hg.len hn;refine .dec (λcq=>?_) (λhe=> .some ?_)
   .have Dm:qF≠[]:=λe=>by subst e;simp at cq
    refine Wp.seq (λj=>kU n S j.1/\(∀p∈j.2,In j.1 p)/\Cl n j.1 j.2/\j.1.length=l.length+j.2.length) ?_ λj hj=> .some ⟨⟨hj.1,hj.2.1,hj.2.2.1,by have:=hj.2.2.2;show j.2.length<=j.1.length;omega⟩,?_⟩
    .refine Wp.count (λs=>s.1) qF.length (λk s=>kU n S s.2.1/\(∀p∈qF,In s.2.1 p)/\(∀p∈s.2.2,In s.2.1 p)/\s.2.1.length=l.length+s.2.2.length/\Cl n s.2.1 (qF.drop k++s.2.2)) (by omega) rfl ⟨hg,OM,λp hp=>by simp at hp,by simp,by simpa using ES⟩ λk s hk hs hJ=>?_
     obtain⟨i,l1,nx⟩:=s;obtain⟨g1,g2,g3,g4,g5⟩:=hJ;dsimp only at hs g1 g2 g3 g4 g5⊢;subst hs;refine .dec (λai=>?_) (λhge=> .some ?_)
     .have ai:k<qF.length:=by omega
      refine Wp.seq (λj=>kU n S j.1/\(∀p∈qF,In j.1 p)/\(∀p∈j.2,In j.1 p)/\j.1.length=l.length+j.2.length/\Cl n j.1 (qF.drop (k+1)++j.2)) (.bind (.idx k rfl ai ?_)) λj hj=> .some ⟨ai,aF (by omega),hj⟩
      obtain⟨m,b,hp,hi⟩:=g1.imp _ (g2 qF[k] (Y0 ai));rw[ZA ai]at g5;rw[hp]at g5⊢;have hm:=hi.1;have hb:=hi.lt
      refine Wp.count (λs=>s.1) n (λj s=>tG n S l.length qF (qF.drop (k+1)) m b j s.2.1 s.2.2) (by omega) rfl ⟨g1,g2,g3,g4,g5,λi hi=>absurd hi (by omega)⟩ λj s hj hs hB=>?_
      obtain⟨jj,l2,ny⟩:=s;dsimp only at hs hB⊢;subst hs;refine .dec (λI8=>?_) (λhge=> .some ?_)
      .have PK:j<8:=by omega
       have hx:ak .xor .i64 (b:Int) ((2 ^ j:Nat):Int)=((b ^^^ 2 ^ j:Nat):Int):=OI (by omega) (by have:=wv PK;omega)
       refine Wp.seq (λq=>tG n S l.length qF (qF.drop (k+1)) m b (j+1) q.1 q.2) (.aT (jk (by omega)) ?_) λq hq=> .some ⟨by omega,aF (by omega),hq⟩
       rw[hx];refine .ite (λzc=> .some (hB.same λ_ h=>?_)) (λS9=>?_)
       .rw[show(bk aa l2 (pI m (b ^^^ 2 ^ j))).getD aaM=aaL from h]at zc;cases zc
       .have bL:In l2 (pI m (b ^^^ 2 ^ j)):=by simpa[In]using S9
        obtain⟨m',b',e,ik⟩:=hB.good.imp _ bL;obtain⟨rfl,rfl⟩:=oh e;have EW:=Jz hi ik;have XC:=hi.merge ik EW;refine .aT (Hl (by omega) (by omega) PK EW) ?_;by_cases rH:In l2 (pI (dX m (2 ^ j)) (dX b (2 ^ j)))
        .have e:(bk aa l2 (pI (dX m (2 ^ j)) (dX b (2 ^ j)))).getD aaM=aaL:=rH;simp only[if_true,e,Bool.not_true,YV,Y8,if_false];exact .some (hB.same λ_ _=>rH)
        .have e:(bk aa l2 (pI (dX m (2 ^ j)) (dX b (2 ^ j)))).getD aaM=aaM:=by simpa[In]using rH
         simp only[if_true,e,Bool.not_false,YV];have ON:=hB.good.len hn;refine .bind (.p3 (by have:=hB.len;simp;omega) (.some (hB.add XC rH)))
      .have:j=n:=by omega
       subst this;exact⟨hB.good,hB.levs,hB.nxt,hB.len,hB.out⟩
     .have:k=qF.length:=by omega
      subst this;rw[List.drop_length]at g5;exact⟨g1,g3,g5,g4⟩
    .have h5:=hj.1.len hn;have h6:=hj.2.2.2
     show 2*(65536-j.1.length)+(if j.2=[]then 0 else 1)<2*(65536-l.length)+(if qF=[]then 0 else 1)
     rw[aaO Dm];split
     .omega
     .rename_i h7;have:0<j.2.length:=List.length_pos_iff.2 h7;omega
   .have:qF=[]:=List.eq_nil_of_length_eq_zero (by have:¬(0:Int)<(qF.length:Int):=he;omega);subst this;exact hg.done ES
end L
namespace L
def zp(n:Nat)(S:Nat->Prop)(m b:Nat):Prop:=mD n S m b/\∀j,j<n->m.testBit j=aaL->¬mD n S (dX m (2 ^ j)) (dX b (2 ^ j))
theorem lP.trans{x y z:Int×Int}(h:lP x y)(g:lP y z):lP x z:=by unfold lP at*;omega
theorem lP.irrefl(x:Int×Int):¬lP x x:=by unfold lP;omega
theorem lP.total{x y:Int×Int}(h:¬lP y x)(g:x≠y):lP x y:=by
 have g:¬(x.1=y.1/\x.2=y.2):=λe=>g (Prod.ext e.1 e.2)
 have h1:x.1=y.1->eF x.1=eF y.1:=λe=>by rw[e]
 unfold lP at*;omega
theorem qG{l m:List (Int×Int)}(h:l.Pairwise lP)(g:m.Pairwise lP)(e:∀p,p∈l↔p∈m):l=m:=by
 have zS:∀{l:List (Int×Int)},l.Pairwise lP->l.Nodup:=λh=>h.imp λg e=>by subst e;exact lP.irrefl _ g
 exact List.Perm.eq_of_pairwise (le:=lP) (λa b _ _ h1 h2=>absurd (h1.trans h2) (lP.irrefl _)) h g ((List.perm_ext_iff_of_nodup (zS h) (zS g)).2 e)
theorem Hm{l:List aa.den}(hl:l.length<4611686018427387904)(hn:l.Nodup):Wp (M.aK bd l) λr=>r.Pairwise lP/\∀p,p∈r↔p∈l:=by
 unfold M.aK uJ;rw[aaP ⟨OJ,hl⟩];refine .some ?_;generalize hg:ZL (lM λa b c d=>M.bP bd (a,b) (c,d))=lt
 have ai:∀x y:Int×Int,lt x y=aaL↔lP x y:=λx y=>by rw[<-hg];exact wm x y
 have PL:∀x y:Int×Int,(!lt x y)=aaL↔¬lP x y:=λx y=>by rw[<-ai];simp
 have hp:=List.pairwise_mergeSort (le:=λx y:Int×Int=> !lt y x) (λa b c h1 h2=>by
  rw[PL]at h1 h2⊢
  unfold lP at*;omega) (λa b=>by
  rw[Bool.or_eq_true,PL,PL]
  unfold lP;omega) l
 have hm:∀p,p∈l.mergeSort (λx y:Int×Int=> !lt y x)↔p∈l:=λp=>List.mem_mergeSort
 refine⟨?_,hm⟩;have Ft:(l.mergeSort (λx y:Int×Int=> !lt y x)).Nodup:=(List.mergeSort_perm l _).symm.nodup hn
 exact(hp.and Ft).imp λ⟨h1,h2⟩=>lP.total ((PL _ _).1 h1) h2
def Hn(n:Nat)(S:Nat->Prop)(l:PS)(r:PS×List aa.den):Prop:=r.1=l/\r.2.Pairwise lP/\∀p,p∈r.2↔∃m b:Nat,p=pI m b/\zp n S m b
theorem Hn.L4{n:Nat}{S:Nat->Prop}{l:PS}{r r':PS×List aa.den}(h:Hn n S l r)(g:Hn n S l r'):r=r':=
 Prod.ext (h.1.trans g.1.symm) (qG h.2.1 g.2.1 λp=>(h.2.2 p).trans (g.2.2 p).symm)
theorem Cn{m j:Nat}(h:m.testBit j=aaL):dX m (2 ^ j)≠m:=λe=>by
 have:(dX m (2 ^ j)).testBit j=aaM:=by rw[bA,dC];simp
 rw[e,h]at this;cases this
theorem Ev(n:Nat)(hn:n<=8)(S:Nat->Prop)(l:PS)(h:A8 n S l):Wp (M.ff bd (n:Int) l) (Hn n S l):=by
 have h8:=lN hn
 have hlen:l.length<=65536:=by
  have:=h.1.len (2 ^ n) λp hp=>by
   obtain⟨m,b,e,hi⟩:=(h.2 p).1 hp;exact⟨m,b,e,hi.1,hi.lt⟩
  exact Zj this (Zj (Nat.mul_le_mul h8 h8) (by omega))
 unfold M.ff
 refine yG (λleft acc=>(∀e∈left,e∈l)/\acc.Nodup/\(∀p∈acc,∃m b:Nat,p=pI m b/\zp n S m b)/\(∀m b:Nat,zp n S m b->pI m b∈acc\/∃e∈left,e.1=pI m b)/\(∀p∈acc,∀e∈left,e.1≠p)/\acc.length+left.length<=l.length)
  (λr r' h g=>h.L4 g) (λleft acc x hx hI=>?_) (λacc hI=>?_) l.length bd l [] (YY _) (by unfold bd;omega) ⟨λe he=>he,List.nodup_nil,λp hp=>by simp at hp,λm b hp=> .inr ⟨(pI m b,aaL),(ig h.1.tr).1 ((h.2 _).2 ⟨m,b,rfl,hp.1⟩),rfl⟩,λp hp=>by simp at hp,by simp⟩
 .obtain⟨h1,h2,h3,h4,h5,h6⟩:=hI
  have ON:(jw aa left x.1).length<left.length:=by
   unfold jw;refine List.length_filter_lt_length_iff_exists.2 ⟨x,hx,?_⟩;rw[(iz _ _).2 rfl];simp
  have lK:∀e,e∈jw aa left x.1↔e∈left/\e.1≠x.1:=λe=>by
   unfold jw;rw[Zt,Bool.not_eq_true',iT]
  have MG:In l x.1:=(ig h.1.tr).2 (by rw[show(x.1,aaL)=x from Prod.ext rfl (h.1.tr x (h1 x hx)).symm];exact h1 x hx);obtain⟨m,b,hp,hi⟩:=(h.2 _).1 MG;have hm:=hi.1;have hb:=hi.lt
  refine Wp.seq (λj=>j=aaL↔zp n S m b) ?_ λj hj=>?_
  .refine Wp.count (λs=>s.2) n (λj s=>s.1=aaL↔∀i,i<j->m.testBit i=aaL->¬mD n S (dX m (2 ^ i)) (dX b (2 ^ i))) (by omega) rfl ⟨λ_ i hi=>absurd hi (by omega),λ_=>rfl⟩ λj s hj hs hJ=>?_
   obtain⟨v,jj⟩:=s;dsimp only at hs hJ⊢;subst hs;refine .dec (λai=>?_) (λhge=> .some ?_)
   .have PK:j<8:=by omega
    have YG:=wv PK
    refine Wp.seq (λq=>q=aaL↔∀i,i<j+1->m.testBit i=aaL->¬mD n S (dX m (2 ^ i)) (dX b (2 ^ i))) (.aT (jk (by omega)) (.aT (jk (by omega)) ?_)) λq hq=> .some ⟨by omega,aF (by omega),hq⟩
    have e1:ak .andNot .i64 x.1.1 ((2 ^ j:Nat):Int)=(dX m (2 ^ j):Nat):=by rw[hp];exact Eu (by omega) (by omega)
    have e2:ak .andNot .i64 x.1.2 ((2 ^ j:Nat):Int)=(dX b (2 ^ j):Nat):=by rw[hp];exact Eu (by omega) (by omega)
    rw[e1,e2,hp];have e3:(bk aa l (pI (dX m (2 ^ j)) (dX b (2 ^ j)))).getD aaM=aaL↔mD n S (dX m (2 ^ j)) (dX b (2 ^ j)):=(h.2 _).trans ⟨λ⟨m',b',e,ik⟩=>by obtain⟨rfl,rfl⟩:=oh e;exact ik,λik=>⟨_,_,rfl,ik⟩⟩
    have step:∀t:Bool,(t=aaL↔(m.testBit j=aaL/\mD n S (dX m (2 ^ j)) (dX b (2 ^ j))))->Wp (if t=aaL then some aaM else some v) λq=>q=aaL↔∀i,i<j+1->m.testBit i=aaL->¬mD n S (dX m (2 ^ i)) (dX b (2 ^ i)):=λt ht=>by
     refine .ite (λh1=> .some ⟨λh2=>by(cases h2),λh2=>absurd (ht.1 h1).2 (h2 j (by omega) (ht.1 h1).1)⟩) (λh1=> .some (hJ.trans ⟨λh2 i ik=>?_,λh2 i ik=>h2 i (by omega)⟩))
     rcases Zb.1 ik with ik|rfl
     .exact h2 i ik
     .exact λh3 h4=>h1 (ht.2 ⟨h3,h4⟩)
    by_cases EW:m.testBit j=aaL
    .have e4:ku aa (pI (dX m (2 ^ j)) (dX b (2 ^ j))) (pI m b)=aaM:=pc.2 λe=>Cn EW (oh e).1
     refine Wp.seq (λt=>t=aaL↔(m.testBit j=aaL/\mD n S (dX m (2 ^ j)) (dX b (2 ^ j)))) ?_ step;rw[show ku aa (((dX m (2 ^ j):Nat):Int),((dX b (2 ^ j):Nat):Int)) (pI m b)=aaM from e4];exact .some ⟨λh=>⟨EW,e3.1 h⟩,λh=>e3.2 h.2⟩
    .have Ta:m.testBit j=aaM:=by simpa using EW
     have XD:b.testBit j=aaM:=by
      cases e:b.testBit j with
      |false=>rfl
      |true=>exact absurd (ee.1 hi.2.1 j e) EW
     have e4:ku aa (pI (dX m (2 ^ j)) (dX b (2 ^ j))) (pI m b)=aaL:=kY.2 (by rw[sK Ta,sK XD]);refine Wp.seq (λt=>t=aaL↔(m.testBit j=aaL/\mD n S (dX m (2 ^ j)) (dX b (2 ^ j)))) ?_ step;rw[show ku aa (((dX m (2 ^ j):Nat):Int),((dX b (2 ^ j):Nat):Int)) (pI m b)=aaL from e4];exact .some ⟨λh=>(by cases h),λh=>absurd h.1 EW⟩
   .have:j=n:=by omega
    subst this;exact hJ.trans ⟨λh=>⟨hi,h⟩,λh=>h.2⟩
  .have UB:∀wx:List aa.den,(∀p,p∈wx↔p∈acc\/p=x.1/\j=aaL)->wx.Nodup->wx.length<=acc.length+1->(∀e∈jw aa left x.1,e∈l)/\wx.Nodup/\(∀p∈wx,∃m b:Nat,p=pI m b/\zp n S m b)/\(∀m b:Nat,zp n S m b->pI m b∈wx\/∃e∈jw aa left x.1,e.1=pI m b)/\(∀p∈wx,∀e∈jw aa left x.1,e.1≠p)/\wx.length+(jw aa left x.1).length<=l.length:=λwx hc zS hl=>by
    refine⟨λe he=>h1 e ((lK e).1 he).1,zS,λp zg=>?_,λm' b' zg=>?_,λp zg e he=>?_,by omega⟩
    .rcases(hc p).1 zg with zg|⟨rfl,Ej⟩
     .exact h3 p zg
     .exact⟨m,b,hp,hj.1 Ej⟩
    .rcases h4 m' b' zg with g|⟨e,he,g⟩
     .exact .inl ((hc _).2 (.inl g))
     .by_cases g2:e.1=x.1
      .refine .inl ((hc _).2 (.inr ⟨g.symm.trans g2,hj.2 ?_⟩));obtain⟨rfl,rfl⟩:=oh (g.symm.trans (g2.trans hp));exact zg
      .exact .inr ⟨e,(lK e).2 ⟨he,g2⟩,g⟩
    .obtain⟨XE,Gy⟩:=(lK e).1 he
     rcases(hc p).1 zg with zg|⟨rfl,_⟩
     .exact h5 p zg e XE
     .exact Gy
   refine .ite (λEj=> .bind (.p3 (by simp;omega) (.some (UB _ (λp=>by rw[Y7,Y5];simp[Ej]) ?_ (by simp))))) (λL5=> .some (UB _ (λp=>by simp[L5]) h2 (show acc.length<=acc.length+1 by omega)));refine List.nodup_append.2 ⟨h2,by simp,λa ha c hc e=>?_⟩;rw[Y5]at hc;exact h5 a ha x hx (by rw[e,hc])
 .obtain⟨-,h2,h3,h4,-,h6⟩:=hI
  refine Wp.seq (λr=>r.Pairwise lP/\∀p,p∈r↔p∈acc) (Hm (by show acc.length<_;simp at h6;omega) h2) λr hr=> .some ⟨rfl,hr.1,λp=>(hr.2 p).trans ⟨h3 p,λ⟨m,b,e,hp⟩=>?_⟩⟩
  rcases h4 m b hp with g|⟨e',he,_⟩
  .rw[e];exact g
  .simp at he
end L
namespace L
def yH(a:Int):Nat:=min a.toNat 8
theorem wy(a:Int):yH a<=8:=Nat.min_le_right _ _
theorem yI(a:Int):M.dN bd a=some (yH a:Int):=by
 unfold M.dN yH
 congr 1
 split<;>split<;>omega
theorem Ew(a:Int):M.mq bd a=some (yH a:Int):=by
 unfold M.mq yH;simp only[aaW];split
 .congr 1;omega
 .split<;>(congr 1;omega)
theorem size_eq{n:Nat}(hn:n<=8):M.nW bd (n:Int)=some ((2 ^ n:Nat):Int):=by
 unfold M.nW;refine Wp.eq ?_
 refine Wp.count (λs=>s.2) n (λk s=>s.1=((2 ^ k:Nat):Int)) (by omega) rfl rfl λk s hk hs hJ=>?_
 obtain⟨x,kk⟩:=s;dsimp only at hs hJ⊢;subst hs hJ;refine .dec (λh=> .some ⟨by omega,aF (by omega),?_⟩) (λh=> .some ?_)
 .have h1:2 ^ k<=2 ^ 8:=Nat.pow_le_pow_right (by omega) (by omega)
  show YW.wrap (((2 ^ k:Nat):Int)*2)=((2 ^ (k+1):Nat):Int)
  have e:((2 ^ k:Nat):Int)*2=((2 ^ (k+1):Nat):Int):=by rw[Nat.pow_succ];simp
  rw[e,wrap_i64 (by rw[Nat.pow_succ];omega)]
 .have:k=n:=by omega
  subst this;rfl
def oZ(l:List Int)(k:Nat):List Bool:=(Y1 k).map λx:Nat=>decide ((x:Int)∈l)
theorem JA{α:Type}{k x:Nat}{f:Nat->α}(h:x<k):idx ((Y1 k).map f) (x:Int)=some (f x):=by
 rw[ao (by simpa using h)];simp
theorem wz{α:Type}{k x:Nat}{f:Nat->α}{Q:α->Prop}(h:x<k)(hq:Q (f x)):Wp (idx ((Y1 k).map f) (x:Int)) Q:=⟨_,JA h,hq⟩
theorem o3{α:Type}(k:Nat)(f:Nat->α):(((Y1 k).map f).length:Int)=(k:Int):=by simp
theorem A9{l:List Int}(hl:l.length<=1000000){n:Nat}(hn:n<=8):M.km bd l (n:Int)=some (oZ l (2 ^ n)):=by
 have h8:=lN hn;unfold M.km;rw[size_eq hn,YV];generalize 2 ^ n=K at*;refine Wp.eq (.bind (lq.2 ⟨by omega,?_⟩))
 refine Wp.count (λs=>s.1) l.length (λk s=>s.2=oZ (l.take k) K) (by omega) rfl ?_ λk s hk hs hJ=>?_
 .show Zq _ _=_
  unfold oZ;apply List.ext_getElem (by simp);intro i h1 h2;simp
 .obtain⟨kk,c⟩:=s;dsimp only at hs hJ⊢;subst hs hJ;refine .dec (λh=>?_) (λh=> .some ?_)
  .have ai:k<l.length:=by omega
   have hlen:((oZ (l.take k) K).length:Int)=(K:Int):=o3 _ _
   have Dd:∀y:Int,y∈l.take (k+1)↔y∈l.take k\/y=l[k]:=λy=>by rw[<-Zk ai,Y7,Y5]
   refine Wp.seq (λj=>j=oZ (l.take (k+1)) K) ?_ λj hj=> .some ⟨ai,aF (by omega),hj⟩
   refine Wp.seq (λj=>j=aaL↔0<=l[k]/\l[k]<(K:Int)) (.bind (.idx k rfl ai (.dec (λh0=> .bind (.idx k rfl ai (.some ?_))) (λh0=> .some ⟨λh=>(by cases h),λh=>absurd h.1 h0⟩)))) λj hj=>?_
   .rw[hlen,aaW];exact⟨λh=>⟨h0,h⟩,λh=>h.2⟩
   refine .ite (λEj=> .bind (.idx k rfl ai ?_)) (λL5=> .some ?_)
   .obtain⟨x,hx⟩:=Y9 (hj.1 Ej).1
    have vd:x<K:=by have:=(hj.1 Ej).2;omega
    rw[hx];refine .bind (wz vd (.some ?_));unfold oZ bz;rw[Y4,iI]
    refine List.map_congr_left λy hy=>?_
    by_cases e:y=x
    .subst e;simp[Dd,hx]
    .rw[aaO e];refine decide_eq_decide.2 ?_;rw[Dd,hx];exact⟨.inl,λh=>h.resolve_right λh=>e (by omega)⟩
   .unfold oZ
    refine List.map_congr_left λy hy=>decide_eq_decide.2 ?_
    rw[Dd];refine⟨.inl,λh=>h.resolve_right λh=>L5 (hj.2 ?_)⟩;have:=Zn.1 hy;omega
  .have:k=l.length:=by omega
   subst this
   show oZ (l.take l.length) K=oZ l K
   rw[Zh]
theorem Ho{m:Nat}(hm:m<256):M.nX bd (m:Int)=some (eF (m:Int)):=by
 have h:((Y1 256).all λm=>decide (M.nX bd ((m:Nat):Int)=some (eF ((m:Nat):Int))))=aaL:=by kernel_rfl
 exact aaQ (List.all_eq_true.1 h m (Zn.2 hm))
theorem JB:∀{m n:Nat},n<=8->m<2 ^ n->∃c:Nat,c<=n/\eF (m:Int)=(c:Int):=by
 intro m n hn hm
 have h:((Y1 9).all λn=>(Y1 (2 ^ n)).all λm=>(Y1 (n+1)).any λc=>decide (eF ((m:Nat):Int)=(c:Int)))=aaL:=by kernel_rfl
 have h1:=List.all_eq_true.1 (List.all_eq_true.1 h n (Zn.2 (by omega))) m (Zn.2 hm);obtain⟨c,hc,h2⟩:=List.any_eq_true.1 h1;exact⟨c,by have:=Zn.1 hc;omega,aaQ h2⟩
theorem oi{m b x:Nat}(hm:m<256)(hx:x<256):M.fY bd (pI m b) (x:Int)=some (decide (x&&& m=b)):=by
 unfold M.fY;rw[A5 (by omega) (by omega)]
 congr 1
 exact decide_eq_decide.2 (by show((x&&& m:Nat):Int)=(b:Int)↔_;omega)
def dn(k:Nat)(mem cov:Nat->Bool)(m b:Nat):Bool:=(Y1 k).any λx=>decide (x&&& m=b)&&mem x&& !cov x
theorem Hp{n:Nat}(hn:n<=8){mem cov:Nat->Bool}{m b:Nat}(hm:m<256):M.mr bd (pI m b) ((Y1 (2 ^ n)).map mem) ((Y1 (2 ^ n)).map cov)=some (dn (2 ^ n) mem cov m b):=by
 have h8:=lN hn;unfold M.mr;refine Wp.eq ?_
 refine Wp.count (λs=>s) (2 ^ n) (λk _=>∀x,x<k->(decide (x&&& m=b)&&mem x&& !cov x)=aaM) (by omega) rfl (λx hx=>absurd hx (by omega)) λk s hk hs hJ=>?_
 subst hs;rw[o3];refine .dec (λh=>?_) (λh=> .some ?_)
 .have ai:k<2 ^ n:=by omega
  refine Wp.seq (λj=>j=(decide (k&&& m=b)&&mem k&& !cov k)) (.aT (oi hm (by omega)) (.ite (λh1=> .bind (wz ai (.ite (λh2=> .bind (wz ai (.some ?_))) (λh2=> .some ?_)))) (λh1=> .some ?_))) λj hj=> .ite (λh1=> .some ?_) (λh1=> .some ⟨ai,aF (by omega),λx hx=>?_⟩)
  .rw[h1,h2];rfl
  .rw[h1];simp[h2]
  .simp[h1]
  .show aaL=dn _ _ _ _ _
   unfold dn;exact(List.any_eq_true.2 ⟨k,Zn.2 ai,by rw[<-hj];exact h1⟩).symm
  .rcases Zb.1 hx with hx|rfl
   .exact hJ x hx
   .rw[<-hj];simpa using h1
 .show aaM=dn _ _ _ _ _
  unfold dn;refine(List.any_eq_false.2 λx hx=>?_).symm;rw[hJ x (by have:=Zn.1 hx;omega)];simp
noncomputable def Hq(n:Nat)(S:Nat->Prop)(m b:Nat):Bool:= @decide (∀x,x<2 ^ n->x&&& m=b->S x) (ZG _)
theorem qa{n:Nat}{S:Nat->Prop}{m b:Nat}:Hq n S m b=aaL↔∀x,x<2 ^ n->x&&& m=b->S x:= @decide_eq_true_iff _ (ZG _)
theorem o4{n:Nat}(hn:n<=8){l:List Int}{m b:Nat}(hm:m<256):M.gp bd (pI m b) (oZ l (2 ^ n))=some (Hq n (λx=>(x:Int)∈l) m b):=by
 have h8:=lN hn;unfold M.gp;refine Wp.eq ?_
 refine Wp.count (λs=>s) (2 ^ n) (λk _=>∀x:Nat,x<k->x&&& m=b->(x:Int)∈l) (by omega) rfl (λx hx=>absurd hx (by omega)) λk s hk hs hJ=>?_
 subst hs;rw[show((oZ l (2 ^ n)).length:Int)=((2 ^ n:Nat):Int)from o3 _ _];refine .dec (λh=>?_) (λh=> .some ?_)
 .have ai:k<2 ^ n:=by omega
  refine Wp.seq (λj=>j=aaL↔k&&& m=b/\¬(k:Int)∈l) (.aT (oi hm (by omega)) (.dec (λh1=> .bind (wz ai (.some ?_))) (λh1=> .some ⟨λh=>(by cases h),λh=>absurd h.1 h1⟩))) λj hj=> .ite (λh1=> .some ?_) (λh1=> .some ⟨ai,aF (by omega),λx hx he=>?_⟩)
  .rw[Bool.not_eq_true',decide_eq_false_iff_not];exact⟨λh=>⟨h1,h⟩,λh=>h.2⟩
  .show aaM=Hq _ _ _ _
   refine(Bool.eq_false_iff.2 λg=>?_).symm;exact(hj.1 h1).2 (qa.1 g k ai (hj.1 h1).1)
  .rcases Zb.1 hx with hx|rfl
   .exact hJ x hx he
   .exact Classical.byContradiction λg=>h1 (hj.2 ⟨he,g⟩)
 .have:k=2 ^ n:=by omega
  subst this;exact(qa.2 hJ).symm
theorem yJ{n:Nat}{S:Nat->Prop}{m b:Nat}(hm:m<2 ^ n)(hb:b&&& m=b):Hq n S m b=aaL↔mD n S m b:=by
 rw[qa];exact⟨λh=>⟨hm,hb,h⟩,λh=>h.2.2⟩
theorem JC{m b j:Nat}(h:b&&& m=b):dX b (2 ^ j)&&& dX m (2 ^ j)=dX b (2 ^ j):=by
 rw[ee];intro i;rw[bA,bA];have:=ee.1 h i;intro h2;simp only[ZE]at h2⊢;exact⟨this h2.1,h2.2⟩
theorem Co{m j:Nat}:m&&& 2 ^ j=0↔m.testBit j=aaM:=by
 constructor
 .intro h;have:=aaV (λx=>x.testBit j) h;simpa[Nat.testBit_and,dC]using this
 .intro h;apply aae;intro i;rw[Nat.testBit_and,dC,Nat.zero_testBit];by_cases e:j=i
  .subst e;simp[h]
  .simp[e]
theorem Hr{n:Nat}(hn:n<=8){l:List Int}{m b:Nat}(hm:m<2 ^ n)(hb:b&&& m=b):Wp (M.mu bd (pI m b) (oZ l (2 ^ n))) λr=>r=aaL↔zp n (λx=>(x:Int)∈l) m b:=by
 have h8:=lN hn;have Nk:b<2 ^ n:=Nat.lt_of_le_of_lt (by rw[<-hb];exact Nat.and_le_right) hm;unfold M.mu;refine .aT (o4 hn (by omega)) ?_;have hi:=yJ (S:=λx=>(x:Int)∈l) hm hb
 cases hv:Hq n (λx=>(x:Int)∈l) m b with
 |false=>
  refine .some ⟨λh=>(by cases h),λh=>?_⟩;rw[hv]at hi;exact absurd (hi.2 h.1) (by simp)
 |true=>
  rw[hv]at hi;have hI:=hi.1 rfl
  refine Wp.ite (λh=>absurd h (by simp)) λ_=>?_
  refine Wp.loop (λs=>∃j:Nat,j<=n/\s=((2 ^ j:Nat):Int)/\∀i,i<j->m.testBit i=aaL->¬mD n (λx=>(x:Int)∈l) (dX m (2 ^ i)) (dX b (2 ^ i))) (λs=>1000-s.toNat) ⟨0,Nat.zero_le _,rfl,λi hi=>absurd hi (by omega)⟩ (by unfold bd;omega) λs hs=>?_
  obtain⟨j,hj,rfl,hJ⟩:=hs;rw[show((oZ l (2 ^ n)).length:Int)=((2 ^ n:Nat):Int)from o3 _ _];refine .dec (λh=>?_) (λh=> .some ?_)
  .have ai:2 ^ j<2 ^ n:=by omega
   have QI:j<n:=(Nat.pow_lt_pow_iff_right (by omega)).1 ai;have e0:ak .and .i64 (pI m b).1 ((2 ^ j:Nat):Int)=((m&&& 2 ^ j:Nat):Int):=A5 (by omega) (by omega);have e1:ak .andNot .i64 (pI m b).1 ((2 ^ j:Nat):Int)=(dX m (2 ^ j):Nat):=Eu (by omega) (by omega);have e2:ak .andNot .i64 (pI m b).2 ((2 ^ j:Nat):Int)=(dX b (2 ^ j):Nat):=Eu (by omega) (by omega);have Iv:=A6 m (2 ^ j)
   refine Wp.seq (λq=>q=aaL↔m.testBit j=aaL/\mD n (λx=>(x:Int)∈l) (dX m (2 ^ j)) (dX b (2 ^ j))) ?_ λq hq=> .ite (λh1=> .some ⟨λh=>(by cases h),λh=>absurd (hq.1 h1).2 (h.2 j QI (hq.1 h1).1)⟩) (λh1=> .some ?_)
   .rw[e0,e1,e2];refine .pZ (λh1=> .aT (o4 (m:=dX m (2 ^ j)) (b:=dX b (2 ^ j)) hn (by omega)) (.some ?_)) (λh1=> .some ⟨λh=>(by cases h),λh=>?_⟩)
    .have EW:m.testBit j=aaL:=by
      cases e:m.testBit j with
      |true=>rfl
      |false=>exact absurd (by rw[Co.2 e];rfl) h1
     rw[yJ (by omega) (JC hb)];exact⟨λh=>⟨EW,h⟩,λh=>h.2⟩
    .have h1:m&&& 2 ^ j=0:=by exact_mod_cast h1
     rw[Co.1 h1]at h;cases h.1
   .have e:((2 ^ j:Nat):Int)*2=((2 ^ (j+1):Nat):Int):=by rw[Nat.pow_succ];simp
    have Mr:2 ^ (j+1)=2*2 ^ j:=by rw[Nat.pow_succ,Nat.mul_comm]
    have hp:=Nat.two_pow_pos j
    show GU _ _ _ _ (.inl (YW.wrap (((2 ^ j:Nat):Int)*2)))
    rw[e,wrap_i64 (by omega)];refine⟨⟨j+1,QI,rfl,λi ik=>?_⟩,by show 1000-(((2 ^ (j+1):Nat):Int)).toNat<1000-(((2 ^ j:Nat):Int)).toNat;omega⟩
    rcases Zb.1 ik with ik|rfl
    .exact hJ i ik
    .exact λh3 h4=>h1 (hq.2 ⟨h3,h4⟩)
  .have hge:2 ^ n<=2 ^ j:=by omega
   have:j=n:=by
    have:=(Nat.pow_le_pow_iff_right (a:=2) (by omega)).1 hge;omega
   subst this;exact⟨λ_=>⟨hI,hJ⟩,λ_=>rfl⟩
end L
namespace L
theorem qT(a b:Int):bV ae a b=decide (a=b):=rfl
theorem Hs(l:List (Int×Bool))(k:Int)(v:Bool)(x:Int):bk ae (kE ae l k v) x=if x=k then some v else bk ae l x:=by
 induction l with
 |nil=>
  show(if bV ae k x=aaL then some v else aaK)=if x=k then some v else aaK
  simp only[qT,aaW];by_cases h:x=k
  .rw[aaP h,aaP h.symm]
  .rw[aaO h,aaO (Ne.symm h)]
 |cons p l ih=>
  unfold kE;by_cases h:p.1=k
  .rw[aaP (by rw[qT];exact aaR h)];unfold bk;simp only[qT,aaW];by_cases hx:x=k
   .rw[aaP hx,aaP (by rw[hx];exact h)]
   .have g:¬p.1=x:=by rw[h];exact Ne.symm hx
    rw[aaO hx,aaO g,aaO g]
  .rw[aaO (by rw[qT];simpa using h)];unfold bk;rw[ih];simp only[qT,aaW];by_cases hx:x=k
   .rw[aaP hx,aaO (by rw[hx];exact h),aaP hx]
   .rw[aaO hx,aaO hx]
theorem Ey{l:List (Int×Bool)}{x:Int}(h:∀p∈l,p.1≠x):bk ae l x=aaK:=by
 induction l with
 |nil=>rfl
 |cons p l ih=>
  unfold bk;rw[aaO (by rw[qT];simpa using h p Zz)]
  exact ih λq hq=>h q (Zm _ hq)
abbrev DI(l:List (Int×Bool)):Prop:=l.Pairwise λp q=>p.1≠q.1
theorem JD(l:List (Int×Bool))(k:Int):(lI ae l k).Sublist l:=by
 induction l with
 |nil=>exact .slnil
 |cons p l ih=>
  unfold lI;split
  .exact .cons _ (List.Sublist.refl _)
  .exact ih.cons_cons _
theorem Ht{l:List (Int×Bool)}(hd:DI l)(k x:Int):bk ae (lI ae l k) x=if x=k then aaK else bk ae l x:=by
 induction l with
 |nil=>show aaK=if x=k then aaK else aaK;split<;>rfl
 |cons p l ih=>
  obtain⟨h1,h2⟩:=Zu.1 hd;unfold lI;by_cases h:p.1=k
  .rw[aaP (by rw[qT];exact aaR h)];by_cases hx:x=k
   .rw[aaP hx]
    exact Ey λq hq=>by rw[hx,<-h];exact(h1 q hq).symm
   .rw[aaO hx]
    show _=if bV ae p.1 x=aaL then some p.2 else bk ae l x
    rw[aaO (by rw[qT,h];simpa using Ne.symm hx)]
  .rw[aaO (by rw[qT];simpa using h)];unfold bk;rw[ih h2];simp only[qT,aaW];by_cases hx:x=k
   .rw[aaP hx,aaO (by rw[hx];exact h),aaP hx]
   .rw[aaO hx,aaO hx]
theorem DI.put{l:List (Int×Bool)}(hd:DI l)(k:Int)(v:Bool):DI (kE ae l k v):=by
 have hm:∀{l:List (Int×Bool)}{q:Int×Bool},q∈kE ae l k v->q.1=k\/q∈l:=by
  intro l
  induction l with
  |nil=>intro q hq;exact .inl (by rw[Y5.1 hq])
  |cons p l ih=>
   intro q hq;unfold kE at hq;split at hq
   .rename_i e;rw[qT,aaW]at e
    rcases Y6.1 hq with rfl|hq
    .exact .inl e
    .exact .inr (Zm _ hq)
   .rcases Y6.1 hq with rfl|hq
    .exact .inr Zz
    .exact(ih hq).imp id (Zm _)
 induction l with
 |nil=>exact List.pairwise_singleton _ _
 |cons p l ih=>
  obtain⟨h1,h2⟩:=Zu.1 hd;unfold kE;split
  .exact Zu.2 ⟨h1,h2⟩
  .rename_i e;rw[qT,aaW]at e;refine Zu.2 ⟨λq hq=>?_,ih h2⟩
   rcases hm hq with g|g
   .rw[g];exact e
   .exact h1 q g
def Bs(m:Nat):List (Nat×Nat):=((Y1 (m+1)).filter λb=>decide (b&&& m=b)).map λb=>(m,b)
noncomputable def Ms(n c:Nat):List (Nat×Nat):=(Y1 (2 ^ n)).flatMap λm:Nat=>if eF (m:Int)=(c:Int)then Bs m else[]
noncomputable def Pt(n:Nat):List (Nat×Nat):=(Y1 (n+1)).flatMap (Ms n)
theorem wA{m:Nat}{p:Nat×Nat}:p∈Bs m↔p.1=m/\p.2&&& p.1=p.2:=by
 unfold Bs;rw[List.mem_map];constructor
 .rintro⟨b,hb,rfl⟩
  exact⟨rfl,aaQ (Zt.1 hb).2⟩
 .rintro⟨rfl,h⟩
  refine⟨p.2,Zt.2 ⟨Zn.2 ?_,aaR h⟩,rfl⟩
  have:p.2<=p.1:=by rw[<-h];exact Nat.and_le_right
  omega
theorem wB{n c:Nat}{p:Nat×Nat}:p∈Ms n c↔p.1<2 ^ n/\eF (p.1:Int)=(c:Int)/\p.2&&& p.1=p.2:=by
 unfold Ms;rw[List.mem_flatMap];constructor
 .rintro⟨m,hm,hp⟩
  split at hp
  .obtain⟨h1,h2⟩:=wA.1 hp;subst h1;exact⟨Zn.1 hm,by assumption,h2⟩
  .simp at hp
 .rintro⟨h1,h2,h3⟩
  exact⟨p.1,Zn.2 h1,by rw[aaP h2];exact wA.2 ⟨rfl,h3⟩⟩
theorem lA{n:Nat}(hn:n<=8){p:Nat×Nat}:p∈Pt n↔p.1<2 ^ n/\p.2&&& p.1=p.2:=by
 unfold Pt;rw[List.mem_flatMap];constructor
 .rintro⟨c,hc,hp⟩
  obtain⟨h1,_,h3⟩:=wB.1 hp;exact⟨h1,h3⟩
 .rintro⟨h1,h3⟩
  obtain⟨c,hc,h2⟩:=JB hn h1;exact⟨c,Zn.2 (by omega),wB.2 ⟨h1,h2,h3⟩⟩
theorem qb(n:Nat):(Pt n).Pairwise λp q=>lP (pI p.1 p.2) (pI q.1 q.2):=by
 unfold Pt;refine List.pairwise_flatMap.2 ⟨λc _=>?_,List.pairwise_lt_range.imp λ{c d}YH x hx y hy=>?_⟩
 .unfold Ms;refine List.pairwise_flatMap.2 ⟨λm _=>?_,List.pairwise_lt_range.imp λ{m m'}hm x hx y hy=>?_⟩
  .split
   .unfold Bs;refine List.pairwise_map.2 ((List.pairwise_lt_range.filter _).imp λ{a b}h=>?_);refine .inr ⟨rfl, .inr ⟨rfl,?_⟩⟩
    show(a:Int)<b
    omega
   .exact .nil
  .split at hx
   .split at hy
    .rename_i h1 h2;obtain⟨e1,_⟩:=wA.1 hx;obtain⟨e2,_⟩:=wA.1 hy;subst e1 e2;refine .inr ⟨h1.trans h2.symm, .inl ?_⟩
     show(x.1:Int)<y.1
     omega
    .simp at hy
   .simp at hx
 .obtain⟨_,h1,_⟩:=wB.1 hx;obtain⟨_,h2,_⟩:=wB.1 hy;refine .inl ?_
  show eF (x.1:Int)<eF (y.1:Int)
  omega
noncomputable def tH(n:Nat)(S:Nat->Prop)(p:Nat×Nat):Bool:= @decide (zp n S p.1 p.2) (ZG _)
theorem kV{n:Nat}{S:Nat->Prop}{p:Nat×Nat}:tH n S p=aaL↔zp n S p.1 p.2:= @decide_eq_true_iff _ (ZG _)
def dA(k:Nat)(mem:Nat->Bool):(Nat->Bool)->List (Nat×Nat)->List (Int×Int)
 |_,[]=>[]
 |cov,p::l=>if dn k mem cov p.1 p.2=aaL then pI p.1 p.2::dA k mem (λx=>cov x||decide (x&&& p.1=p.2)) l else dA k mem cov l
theorem gG{k:Nat}{mem cov:Nat->Bool}{p:Nat×Nat}{l:List (Nat×Nat)}:dA k mem cov (p::l)=if dn k mem cov p.1 p.2=aaL then pI p.1 p.2::dA k mem (λx=>cov x||decide (x&&& p.1=p.2)) l else dA k mem cov l:=rfl
noncomputable def yK(n:Nat)(S:Nat->Prop)(mem:Nat->Bool):List (Int×Int):=dA (2 ^ n) mem (λ_=>aaM) ((Pt n).filter (tH n S))
theorem lB{k:Nat}{mem:Nat->Bool}:∀{l:List (Nat×Nat)}{cov cov':Nat->Bool},(∀x,x<k->mem x=aaL->cov x=cov' x)->dA k mem cov l=dA k mem cov' l
 |[],_,_,_=>rfl
 |p::l,cov,cov',h=>by
  have e:dn k mem cov p.1 p.2=dn k mem cov' p.1 p.2:=by
   unfold dn;rw[Bool.eq_iff_iff,List.any_eq_true,List.any_eq_true];constructor
   .rintro⟨x,hx,h2⟩
    have:mem x=aaL:=by simp only[ZE]at h2;exact h2.1.2
    exact⟨x,hx,by rw[<-h x (Zn.1 hx) this];exact h2⟩
   .rintro⟨x,hx,h2⟩
    have:mem x=aaL:=by simp only[ZE]at h2;exact h2.1.2
    exact⟨x,hx,by rw[h x (Zn.1 hx) this];exact h2⟩
  unfold dA;rw[e,lB (cov:=cov) (cov':=cov') h,lB (cov:=λx=>cov x||decide (x&&& p.1=p.2)) (cov':=λx=>cov' x||decide (x&&& p.1=p.2)) λx hx hm=>by rw[h x hx hm]]
end L
namespace L
def cS(l:List Int)(x:Nat):Bool:=decide ((x:Int)∈l)
theorem yL{m b x:Nat}(hm:m<256)(hx:x<256):M.dg bd (pI m b) (x:Int)=some (decide (x&&& m=b)):=by
 unfold M.dg;rw[A5 (by omega) (by omega)]
 congr 1
 exact decide_eq_decide.2 (by show((x&&& m:Nat):Int)=(b:Int)↔_;omega)
theorem Hu{l:List Int}(hl:l.length<=1000000)(a:Int):M.fJ bd l a=some (yK (yH a) (λx=>(x:Int)∈l) (cS l)):=by
 have hn:=wy a;generalize Tb:yH a=n at hn;have h8:=lN hn;have ov:=Nat.two_pow_pos n;unfold M.fJ;rw[yI,YV,Tb,jk (by omega),YV];refine Wp.eq (Wp.seq (λj=>DI j.1/\(∀x:Nat,x<2 ^ n->((bk ae j.1 (x:Int)).getD aaM=aaL↔(x:Int)∈l))/\ie j.2/\∀p,In j.2 p↔∃x:Nat,x<2 ^ n/\(x:Int)∈l/\p=pI (2 ^ n-1) x) ?_ λj hj=>?_)
 .refine Wp.count (λs=>s.1) l.length (λk s=>DI s.2.1/\(∀x:Nat,x<2 ^ n->((bk ae s.2.1 (x:Int)).getD aaM=aaL↔(x:Int)∈l.take k))/\ie s.2.2/\∀p,In s.2.2 p↔∃x:Nat,x<2 ^ n/\(x:Int)∈l.take k/\p=pI (2 ^ n-1) x) (by omega) rfl ⟨.nil,λx hx=>by simp[bk], .nil,λp=>by simp[In,bk]⟩ λk s hk hs hJ=>?_
  obtain⟨kk,Tc,im⟩:=s;obtain⟨g1,g2,g3,g4⟩:=hJ;dsimp only at hs g1 g2 g3 g4⊢;subst hs;refine .dec (λh=>?_) (λh=> .some ?_)
  .have ai:k<l.length:=by omega
   have Dd:∀y:Int,y∈l.take (k+1)↔y∈l.take k\/y=l[k]:=λy=>by rw[<-Zk ai,Y7,Y5]
   refine Wp.seq (λs=>DI s.1/\(∀x:Nat,x<2 ^ n->((bk ae s.1 (x:Int)).getD aaM=aaL↔(x:Int)∈l.take (k+1)))/\ie s.2/\∀p,In s.2 p↔∃x:Nat,x<2 ^ n/\(x:Int)∈l.take (k+1)/\p=pI (2 ^ n-1) x) (.bind (.idx k rfl ai ?_)) λj hj=> .some ⟨ai,aF (by omega),hj⟩
   refine Wp.seq (λj=>j=aaL↔0<=l[k]/\l[k]<((2 ^ n:Nat):Int)) (.dec (λh0=> .some ?_) (λh0=> .some ⟨λh=>(by cases h),λh=>absurd h.1 h0⟩)) λj hj=> .ite (λEj=> .some ?_) (λL5=> .some ?_)
   .rw[aaW];exact⟨λh=>⟨h0,h⟩,λh=>h.2⟩
   .obtain⟨x,hx⟩:=Y9 (hj.1 Ej).1
    have vd:x<2 ^ n:=by have:=(hj.1 Ej).2;rw[hx]at this;exact_mod_cast this
    have hw:YW.wrap (((2 ^ n:Nat):Int)-1)=((2 ^ n-1:Nat):Int):=by
     rw[show((2 ^ n:Nat):Int)-1=((2 ^ n-1:Nat):Int) by omega,wrap_i64 (by omega)]
    rw[hw,hx];refine⟨g1.put _ _,λy hy=>?_,g3.put _,λp=>?_⟩
    .show(bk ae (kE ae Tc (x:Int) aaL) (y:Int)).getD aaM=aaL↔_
     rw[Hs,Dd,hx];by_cases e:(y:Int)=x
     .rw[aaP e];simp[e]
     .rw[aaO e,g2 y hy];simp[e]
    .refine(wq g3 (p:=pI (2 ^ n-1) x)).trans ?_;rw[g4];constructor
     .rintro(e|⟨y,h1,h2,h3⟩)
      .exact⟨x,vd,(Dd _).2 (.inr hx.symm),e⟩
      .exact⟨y,h1,(Dd _).2 (.inl h2),h3⟩
     .rintro⟨y,h1,h2,h3⟩
      rcases(Dd _).1 h2 with h2|h2
      .exact .inr ⟨y,h1,h2,h3⟩
      .have:y=x:=by rw[hx]at h2;exact_mod_cast h2
       subst this;exact .inl h3
   .have JE:∀y:Nat,y<2 ^ n->(y:Int)≠l[k]:=λy hy e=>L5 (hj.2 ⟨by omega,by rw[<-e];exact_mod_cast hy⟩)
    refine⟨g1,λy hy=>?_,g3,λp=>?_⟩
    .rw[Dd];exact(g2 y hy).trans ⟨.inl,λh=>h.resolve_right (JE y hy)⟩
    .rw[show In (Tc,im).2 p↔_ from g4 p];constructor
     .rintro⟨y,h1,h2,h3⟩;exact⟨y,h1,(Dd _).2 (.inl h2),h3⟩
     .rintro⟨y,h1,h2,h3⟩;exact⟨y,h1,((Dd _).1 h2).resolve_right (JE y h1),h3⟩
  .have:k=l.length:=by omega
   subst this;rw[Zh]at g2 g4;exact⟨g1,g2,g3,g4⟩
 .obtain⟨XF,im⟩:=j;obtain⟨j1,j2,j3,j4⟩:=hj;dsimp only at j1 j2 j3 j4⊢
  refine Wp.seq (A8 n λx=>(x:Int)∈l) (S8 n hn (λx=>(x:Int)∈l) im j3 j4) λms Le=>Wp.seq (Hn n (λx=>(x:Int)∈l) ms) (Ev n hn _ ms Le) λr hr=>?_
  obtain⟨YI,pr⟩:=r;obtain⟨-,UC,UD⟩:=hr;dsimp only at UC UD⊢
  have XG:pr=((Pt n).filter (tH n λx=>(x:Int)∈l)).map λp=>pI p.1 p.2:=by
   refine qG UC (List.pairwise_map.2 ((qb n).filter _)) λp=>(UD p).trans ?_
   rw[List.mem_map];constructor
   .rintro⟨m,b,rfl,h⟩
    exact⟨(m,b),Zt.2 ⟨(lA hn).2 ⟨h.1.1,h.1.2.1⟩,kV.2 h⟩,rfl⟩
   .rintro⟨q,hq,rfl⟩
    exact⟨q.1,q.2,rfl,kV.1 (Zt.1 hq).2⟩
  subst XG;unfold yK
  have hQ:∀p∈(Pt n).filter (tH n λx=>(x:Int)∈l),p.1<2 ^ n:=λp hp=>((lA hn).1 (Zt.1 hp).1).1
  have XH:((Pt n).filter (tH n λx=>(x:Int)∈l)).length<=65536:=by
   have:=nf (A:=((Pt n).filter (tH n λx=>(x:Int)∈l)).map λp=>p.1*256+p.2) (B:=Y1 65536) ?_ λx hx=>?_
   .simpa using this
   .rw[List.Nodup,List.pairwise_map];refine List.Pairwise.imp_of_mem (λ{p q}hp hq ai e=>?_) ((qb n).filter _);have h1:=(lA hn).1 (Zt.1 hp).1;have h2:=(lA hn).1 (Zt.1 hq).1
    have h3:p.2<=p.1:=by rw[<-h1.2];exact Nat.and_le_right
    have h4:q.2<=q.1:=by rw[<-h2.2];exact Nat.and_le_right
    have h5:p.1=q.1/\p.2=q.2:=by omega
    rw[h5.1,h5.2]at ai;exact lP.irrefl _ ai
   .obtain⟨p,hp,rfl⟩:=List.mem_map.1 hx;have h1:=(lA hn).1 (Zt.1 hp).1
    have h3:p.2<=p.1:=by rw[<-h1.2];exact Nat.and_le_right
    exact Zn.2 (by omega)
  generalize(Pt n).filter (tH n λx=>(x:Int)∈l)=Q at hQ XH⊢
  refine Wp.count (λs=>s.1) Q.length (λk s=>∃cov:Nat->Bool,DI s.2.1/\(∀x:Nat,x<2 ^ n->(bk ae s.2.1 (x:Int)).getD aaM=(cS l x&& !cov x))/\s.2.2++dA (2 ^ n) (cS l) cov (Q.drop k)=dA (2 ^ n) (cS l) (λ_=>aaM) Q/\s.2.2.length<=k) (by omega) rfl ⟨λ_=>aaM,j1,λx hx=>by rw[Bool.eq_iff_iff,j2 x hx];simp[cS],rfl,YY _⟩ λk s hk hs hJ=>?_
  obtain⟨kk,Tc,MH⟩:=s;obtain⟨cov,g1,g2,g3,g4⟩:=hJ;dsimp only at hs g1 g2 g3 g4⊢;subst hs;rw[Z5];refine .dec (λh=>?_) (λh=> .some ?_)
  .have ai:k<Q.length:=by omega
   have hm:=hQ _ (Y0 ai);rw[ZA ai]at g3
   refine Wp.seq (λs=>∃cov:Nat->Bool,DI s.1/\(∀x:Nat,x<2 ^ n->(bk ae s.1 (x:Int)).getD aaM=(cS l x&& !cov x))/\s.2++dA (2 ^ n) (cS l) cov (Q.drop (k+1))=dA (2 ^ n) (cS l) (λ_=>aaM) Q/\s.2.length<=k+1) ?_ λj hj=> .some ⟨ai,aF (by omega),hj⟩
   refine Wp.seq (λs=>∃cov:Nat->Bool,DI s.1/\(∀x:Nat,x<2 ^ n->(bk ae s.1 (x:Int)).getD aaM=(cS l x&& !cov x))/\s.2++dA (2 ^ n) (cS l) cov (Q.drop (k+1))=dA (2 ^ n) (cS l) (λ_=>aaM) Q/\s.2.length<=k+1) (.bind (.idx k rfl (by simpa using ai) ?_)) λj hj=> .some hj
   rw[List.getElem_map];generalize hp:Q[k]=p at hm g3
   refine Wp.seq (λs=>DI s.2/\(∀x:Nat,x<2 ^ n->(bk ae s.2 (x:Int)).getD aaM=(cS l x&& !(cov x||decide (x&&& p.1=p.2))))/\s.1=dn (2 ^ n) (cS l) cov p.1 p.2) ?_ λt ht=>?_
   .refine Wp.count (λs=>s.2.1) (2 ^ n) (λj s=>DI s.2.2/\(∀x:Nat,x<2 ^ n->(bk ae s.2.2 (x:Int)).getD aaM=(cS l x&& !(cov x||(decide (x<j)&&decide (x&&& p.1=p.2)))))/\(s.1=aaL↔∃x,x<j/\(decide (x&&& p.1=p.2)&&cS l x&& !cov x)=aaL)) (by omega) rfl ⟨g1,λx hx=>by rw[g2 x hx];simp,by simp⟩ λj s hj hs hJ=>?_
    obtain⟨u,jj,mi⟩:=s;obtain⟨f1,f2,f3⟩:=hJ;dsimp only at hs f1 f2 f3⊢;subst hs;refine .dec (λh=>?_) (λh=> .some ?_)
    .have Ah:j<2 ^ n:=by omega
     have yM:=f2 j Ah
     have XI:decide (j<j)=aaM:=by simp
     rw[XI,Bool.false_and,Bool.or_false]at yM
     refine Wp.seq (λs=>DI s.2/\(∀x:Nat,x<2 ^ n->(bk ae s.2 (x:Int)).getD aaM=(cS l x&& !(cov x||(decide (x<j+1)&&decide (x&&& p.1=p.2)))))/\(s.1=aaL↔∃x,x<j+1/\(decide (x&&& p.1=p.2)&&cS l x&& !cov x)=aaL)) ?_ λq hq=> .some ⟨Ah,aF (by omega),hq⟩
     refine Wp.seq (λt=>t=(decide (j&&& p.1=p.2)&&cS l j&& !cov j)) ?_ λt ht=>?_
     .refine .ite (λh1=> .aT (yL (by omega) (by omega)) (.some ?_)) (λh1=> .some ?_)
      .rw[h1]at yM;rw[Bool.and_assoc,<-yM,Bool.and_true]
      .have h1:(bk ae mi (j:Int)).getD aaM=aaM:=by simpa using h1
       rw[h1]at yM;rw[Bool.and_assoc,<-yM,Bool.and_false]
     .subst ht
      have hex:(∃x,x<j+1/\(decide (x&&& p.1=p.2)&&cS l x&& !cov x)=aaL)↔(∃x,x<j/\(decide (x&&& p.1=p.2)&&cS l x&& !cov x)=aaL)\/(decide (j&&& p.1=p.2)&&cS l j&& !cov j)=aaL:=by
       constructor
       .rintro⟨x,h1,h2⟩
        rcases Zb.1 h1 with h1|rfl
        .exact .inl ⟨x,h1,h2⟩
        .exact .inr h2
       .rintro(⟨x,h1,h2⟩|h)
        .exact⟨x,by omega,h2⟩
        .exact⟨j,by omega,h⟩
      refine .ite (λht=> .some ⟨List.Pairwise.sublist (JD _ _) f1,λx hx=>?_,⟨λ_=>hex.2 (.inr ht),λ_=>rfl⟩⟩) (λht=> .some ⟨f1,λx hx=>?_,f3.trans (by rw[hex];exact⟨.inl,λh=>h.resolve_right ht⟩)⟩)
      .show(bk ae (lI ae mi (j:Int)) (x:Int)).getD aaM=_
       rw[Ht f1];by_cases e:x=j
       .subst e;simp only[ZE,aaW]at ht;simp[ht.1.1]
       .have e1:¬(x:Int)=j:=λg=>e (by exact_mod_cast g)
        rw[aaO e1,f2 x hx];have:decide (x<j+1)=decide (x<j):=decide_eq_decide.2 (by omega);rw[this]
      .show(bk ae mi (x:Int)).getD aaM=_
       rw[f2 x hx];by_cases e:x=j
       .subst e
        cases h1:decide (x&&& p.1=p.2)<;>cases h2:cS l x<;>cases h3:cov x<;>simp_all
       .have:decide (x<j+1)=decide (x<j):=decide_eq_decide.2 (by omega);rw[this]
    .have:j=2 ^ n:=by omega
     subst this;refine⟨f1,λx hx=>by rw[f2 x hx,aaR hx,Bool.true_and],?_⟩;unfold dn;rw[Bool.eq_iff_iff,f3,List.any_eq_true];exact⟨λ⟨x,h1,h2⟩=>⟨x,Zn.2 h1,h2⟩,λ⟨x,h1,h2⟩=>⟨x,Zn.1 h1,h2⟩⟩
   .obtain⟨f1,f2,f3⟩:=ht;rw[gG,<-f3]at g3;refine .ite (λh1=> .bind (.p3 (by simp;omega) (.some ⟨λx=>cov x||decide (x&&& p.1=p.2),f1,f2,?_,by simp;omega⟩))) (λh1=> .some ⟨λx=>cov x||decide (x&&& p.1=p.2),f1,f2,?_,by show MH.length<=k+1;omega⟩)
    .rw[aaP h1]at g3;rw[<-g3];simp
    .rw[aaO h1]at g3;rw[<-g3]
     congr 1
     refine lB λx hx FL=>?_
     have hf:dn (2 ^ n) (cS l) cov p.1 p.2=aaM:=by rw[<-f3];simpa using h1
     unfold dn at hf;have:=List.any_eq_false.1 hf x (Zn.2 hx);rw[FL]at this
     cases h2:decide (x&&& p.1=p.2)<;>cases h3:cov x<;>simp_all
  .have:k=Q.length:=by omega
   subst this;rw[List.drop_length]at g3
   show MH=_
   rw[<-g3];simp[dA]
end L
namespace L
def Tr(n:Nat)(l:List Int)(Q:List (Nat×Nat))(s s':(Nat->Bool)×List (Int×Int)):Prop:=
 ∀R:List (Nat×Nat),s.2++dA (2 ^ n) (cS l) s.1 ((Q++R).filter (tH n λx=>(x:Int)∈l))=s'.2++dA (2 ^ n) (cS l) s'.1 (R.filter (tH n λx=>(x:Int)∈l))
theorem Tr.nil{n:Nat}{l:List Int}(s:(Nat->Bool)×List (Int×Int)):Tr n l [] s s:=λ_=>rfl
theorem Tr.trans{n:Nat}{l:List Int}{Q Q':List (Nat×Nat)}{s s' UE:(Nat->Bool)×List (Int×Int)}(h:Tr n l Q s s')(g:Tr n l Q' s' UE):Tr n l (Q++Q') s UE:=λR=>by
 rw[Zp,h,g]
theorem Tr.skip{n:Nat}{l:List Int}{p:Nat×Nat}{s:(Nat->Bool)×List (Int×Int)}(h:dn (2 ^ n) (cS l) s.1 p.1 p.2=aaM\/¬zp n (λx=>(x:Int)∈l) p.1 p.2):Tr n l [p] s s:=λR=>by
 congr 1
 rw[List.singleton_append,aax];split
 .rename_i hp;rw[gG]
  rcases h with h|h
  .rw[h];rfl
  .exact absurd (kV.1 hp) h
 .rfl
theorem Tr.take{n:Nat}{l:List Int}{p:Nat×Nat}{s:(Nat->Bool)×List (Int×Int)}(h:dn (2 ^ n) (cS l) s.1 p.1 p.2=aaL)(hp:zp n (λx=>(x:Int)∈l) p.1 p.2):Tr n l [p] s (λx=>s.1 x||decide (x&&& p.1=p.2),s.2++[pI p.1 p.2]):=λR=>by
 rw[List.singleton_append,aax,aaP (kV.2 hp),gG,aaP h,Zp];rfl
theorem ng{α:Type}(f:Nat->List α)(k:Nat):(Y1 (k+1)).flatMap f=(Y1 k).flatMap f++f k:=by
 rw[List.range_succ,List.flatMap_append];simp
theorem qU(m k:Nat):((Y1 (k+1)).filter λb=>decide (b&&& m=b)).map (λb=>(m,b))=((Y1 k).filter λb=>decide (b&&& m=b)).map (λb=>(m,b))++(if k&&& m=k then[(m,k)]else[]):=by
 rw[ic,ZU]
 congr 1
 by_cases h:k&&& m=k<;>simp[h]
theorem JF{l:List Int}(hl:l.length<=1000000)(a:Int):M.jG bd l a=some (yK (yH a) (λx=>(x:Int)∈l) (cS l)):=by
 have hn:=wy a;generalize Tb:yH a=n at hn;have h8:=lN hn;have ov:=Nat.two_pow_pos n;unfold M.jG;rw[Ew,YV,Tb,A9 hl hn,YV];have hlen:((oZ l (2 ^ n)).length:Int)=((2 ^ n:Nat):Int):=o3 _ _;rw[hlen]
 have oE:Zq (((2 ^ n:Nat):Int)).toNat aaM=(Y1 (2 ^ n)).map λ_=>aaM:=by
  rw[Y4];apply List.ext_getElem (by simp);intro i h1 h2;simp
 refine Wp.eq (.bind (lq.2 ⟨by have:((2 ^ n:Nat):Int)<=256:=by exact_mod_cast h8
                               have h0:(0:Int)<=((2 ^ n:Nat):Int):=Int.natCast_nonneg _
                               omega,?_⟩))
 rw[oE]
 refine Wp.count (λs=>s.1) (n+1) (λc s=>∃cov:Nat->Bool,s.2.1=(Y1 (2 ^ n)).map cov/\Tr n l ((Y1 c).flatMap (Ms n)) (λ_=>aaM,[]) (cov,s.2.2)/\s.2.2.length<=c*65536) (by omega) rfl ⟨λ_=>aaM,rfl,Tr.nil _,Nat.zero_le _⟩ λc s hc hs hJ=>?_
 obtain⟨cc,OP,MH⟩:=s;obtain⟨cov,rfl,hT,OQ⟩:=hJ;dsimp only at hs hT OQ⊢;subst hs;refine .dec (λh=>?_) (λh=> .some ?_)
 .have XA:c<=n:=by omega
  refine Wp.seq (λj=>∃cov':Nat->Bool,j.1=(Y1 (2 ^ n)).map cov'/\Tr n l (Ms n c) (cov,MH) (cov',j.2)/\j.2.length<=c*65536+65536) ?_ λj hj=>?_
  .refine Wp.count (λs=>s.1) (2 ^ n) (λm s=>∃cov':Nat->Bool,s.2.1=(Y1 (2 ^ n)).map cov'/\Tr n l ((Y1 m).flatMap λm:Nat=>if eF (m:Int)=(c:Int)then Bs m else[]) (cov,MH) (cov',s.2.2)/\s.2.2.length<=c*65536+m*256) (by omega) rfl ⟨cov,rfl,Tr.nil _,Zj OQ (by omega)⟩ λm s hm hs hJ=>?_
   obtain⟨mm,OP,rs⟩:=s;obtain⟨cv,rfl,Td,Hv⟩:=hJ;dsimp only at hs Td Hv⊢;subst hs;refine .dec (λh=>?_) (λh=> .some ?_)
   .have Ib:m<2 ^ n:=by exact_mod_cast h
    refine Wp.seq (λj=>∃cov':Nat->Bool,j.1=(Y1 (2 ^ n)).map cov'/\Tr n l (if eF (m:Int)=(c:Int)then Bs m else[]) (cv,rs) (cov',j.2)/\j.2.length<=c*65536+m*256+256) ?_ λj hj=>?_
    .refine Wp.seq (λj=>∃cov':Nat->Bool,j.1=(Y1 (2 ^ n)).map cov'/\Tr n l (if eF (m:Int)=(c:Int)then Bs m else[]) (cv,rs) (cov',j.2)/\j.2.length<=c*65536+m*256+256) (.aT (Ho (by omega)) ?_) λj hj=> .some hj
     refine .pZ (λh1=> .some ⟨cv,rfl,by rw[aaO h1];exact Tr.nil _,Zj Hv (by omega)⟩) (λh1=>?_);rw[aaP h1]
     refine Wp.count (λs=>s.1) (m+1) (λb s=>∃cov':Nat->Bool,s.2.1=(Y1 (2 ^ n)).map cov'/\Tr n l (((Y1 b).filter λb=>decide (b&&& m=b)).map λb=>(m,b)) (cv,rs) (cov',s.2.2)/\s.2.2.length<=c*65536+m*256+b) (by omega) rfl ⟨cv,rfl,Tr.nil _,Zj Hv (by omega)⟩ λb s hb hs hJ=>?_
     obtain⟨bb,OP,rt⟩:=s;obtain⟨cw,rfl,PM,L6⟩:=hJ;dsimp only at hs PM L6⊢;subst hs;refine .dec (λh=>?_) (λh=> .some ?_)
     .have Kq:b<=m:=by omega
      refine Wp.seq (λj=>∃cov':Nat->Bool,j.1=(Y1 (2 ^ n)).map cov'/\Tr n l (((Y1 (b+1)).filter λb=>decide (b&&& m=b)).map λb=>(m,b)) (cv,rs) (cov',j.2)/\j.2.length<=c*65536+m*256+(b+1)) ?_ λj hj=> .some ⟨by omega,aF (by omega),hj⟩
      refine Wp.seq (λj=>∃cov':Nat->Bool,j.1=(Y1 (2 ^ n)).map cov'/\Tr n l (((Y1 (b+1)).filter λb=>decide (b&&& m=b)).map λb=>(m,b)) (cv,rs) (cov',j.2)/\j.2.length<=c*65536+m*256+(b+1)) ?_ λj hj=> .some hj
      rw[A5 (show b<9223372036854775808 by omega) (show m<9223372036854775808 by omega),qU]
      have OR:(b&&& m=b->dn (2 ^ n) (cS l) cw m b=aaM\/¬zp n (λx=>(x:Int)∈l) m b)->Tr n l (((Y1 b).filter λb=>decide (b&&& m=b)).map (λb=>(m,b))++(if b&&& m=b then[(m,b)]else[])) (cv,rs) (cw,rt):=λh=>by
       refine PM.trans ?_;split
       .rename_i e;exact Tr.skip (h e)
       .exact Tr.nil _
      refine Wp.seq (λj=>j=aaL↔(b&&& m=b->dn (2 ^ n) (cS l) cw m b=aaM\/¬zp n (λx=>(x:Int)∈l) m b)) ?_ λj hj=>?_
      .refine .pZ (λh2=> .some ⟨λ_ e=>absurd (by rw[e]) h2,λ_=>rfl⟩) (λh2=> .aT (Hp hn (by omega)) ?_)
       have h2:b&&& m=b:=by exact_mod_cast h2
       cases hf:dn (2 ^ n) (λx=>decide ((x:Int)∈l)) cw m b with
       |false=>exact .ite (λ_=> .some ⟨λ_ _=> .inl hf,λ_=>rfl⟩) (λh=>absurd rfl h)
       |true=>
        refine .ite (λh=>absurd h (by simp)) (λ_=>Wp.seq (λr=>r=aaL↔zp n (λx=>(x:Int)∈l) m b) (Hr hn Ib h2) λr hr=> .some ?_)
        cases UF:r with
        |true=>exact⟨λh=>(by cases h),λh=>by
          rcases h h2 with h|h
          .have ni:dn (2 ^ n) (cS l) cw m b=aaL:=hf;rw[ni]at h;cases h
          .exact absurd (hr.1 UF) h⟩
        |false=>exact⟨λ_ _=> .inr λh=>absurd (UF.symm.trans (hr.2 h)) (by simp),λ_=>rfl⟩
      .refine .ite (λEj=> .some ⟨cw,rfl,OR (hj.1 Ej),Zj L6 (by omega)⟩) (λL5=>?_)
       have Eo:=λh=>L5 (hj.2 h)
       have h2:b&&& m=b:=Classical.byContradiction λg=>Eo λe=>absurd e g
       have vf:dn (2 ^ n) (cS l) cw m b=aaL:=by
        cases e:dn (2 ^ n) (cS l) cw m b with
        |true=>rfl
        |false=>exact absurd (λ_=> .inl e) Eo
       have Db:zp n (λx=>(x:Int)∈l) m b:=Classical.byContradiction λg=>Eo λ_=> .inr g
       refine Wp.seq (λj=>j=(Y1 (2 ^ n)).map λx=>cw x||decide (x&&& m=b)) ?_ λj hj=>?_
       .refine Wp.count (λs=>s.1) (2 ^ n) (λk s=>s.2=(Y1 (2 ^ n)).map λx=>cw x||(decide (x<k)&&decide (x&&& m=b))) (by omega) rfl (by simp) λk s hk hs hJ=>?_
        obtain⟨kk,cc⟩:=s;dsimp only at hs hJ⊢;subst hs hJ;refine .dec (λh=>?_) (λh=> .some ?_)
        .have Ez:k<2 ^ n:=by exact_mod_cast h
         have kT:∀v:Bool,v=(cw k||decide (k&&& m=b))->bz ((Y1 (2 ^ n)).map λx=>cw x||(decide (x<k)&&decide (x&&& m=b))) (k:Int) v=(Y1 (2 ^ n)).map λx=>cw x||(decide (x<k+1)&&decide (x&&& m=b)):=λv hv=>by
          unfold bz;rw[Y4,iI]
          refine List.map_congr_left λy hy=>?_
          by_cases e:y=k
          .subst e;rw[aaP rfl,hv];simp
          .rw[aaO e];have:decide (y<k+1)=decide (y<k):=decide_eq_decide.2 (by omega);rw[this]
         refine Wp.seq (λj=>j=(Y1 (2 ^ n)).map λx=>cw x||(decide (x<k+1)&&decide (x&&& m=b))) (.bind (wz Ez ?_)) λj hj=> .some ⟨Ez,aF (by omega),hj⟩
         refine .ite (λh1=> .bind (wz Ez (.some (kT _ ?_)))) (λh1=> .aT (oi (by omega) (by omega)) (.bind (wz Ez (.some (kT _ ?_)))))
         .have:cw k=aaL:=by simpa using h1
          rw[this];rfl
         .have:cw k=aaM:=by simpa using h1
          rw[this];rfl
        .have:k=2 ^ n:=by have:¬k<2 ^ n:=λg=>h (by exact_mod_cast g);omega
         subst this
         refine List.map_congr_left λx hx=>?_
         rw[aaR (Zn.1 hx),Bool.true_and]
       .refine .bind (.p3 (by have OT:c*65536<=8*65536:=Zg _ (by omega)
                              have:m*256<=256*256:=Zg _ (by omega)
                              simp;omega) (.some ⟨_,hj,?_,by simp;omega⟩))
        refine PM.trans ?_;rw[aaP h2];exact Tr.take (s:=(cw,rt)) vf Db
     .have:b=m+1:=by omega
      subst this;exact⟨cw,rfl,PM,Zj L6 (by omega)⟩
    .obtain⟨cov',h1,h2,h3⟩:=hj;refine .some ⟨Ib,aF (by omega),cov',h1,?_,Zj h3 (by omega)⟩;rw[ng];exact Td.trans h2
   .have:m=2 ^ n:=by have:¬m<2 ^ n:=λg=>h (by exact_mod_cast g);omega
    subst this;have:2 ^ n*256<=256*256:=Zg _ h8;exact⟨cv,rfl,Td,Zj Hv (by omega)⟩
  .obtain⟨cov',h1,h2,h3⟩:=hj;refine .some ⟨by omega,aF (by omega),cov',h1,?_,Zj h3 (by omega)⟩;rw[ng];exact hT.trans h2
 .have:c=n+1:=by omega
  subst this;have:=hT [];simp only[List.append_nil,List.nil_append,List.filter_nil,dA]at this
  show MH=_
  rw[<-this];rfl
end L
namespace L
abbrev kq:Type:=an.den
abbrev L7:Type:=cE.den
def yN(x:Int)(r:kq):Bool:=decide (ak .and .i64 x r.1.1=r.1.2)
def jl(x:Int):List kq->Int×Bool
 |[]=>(0,aaM)
 |r::l=>if yN x r=aaL then(r.2,aaL)else jl x l
theorem qc{x:Int}{r:kq}{l:List kq}:jl x (r::l)=if yN x r=aaL then(r.2,aaL)else jl x l:=rfl
theorem Ks(r:kq)(x:Int):M.dg bd r.1 x=some (yN x r):=rfl
theorem Hw(t:L7)(x:Int)(hl:t.2.2.2.length<=9223372036854775807):M.du bd t x=some (jl x t.2.2.2):=by
 unfold M.du;refine Wp.eq (Wp.count (λs=>s) t.2.2.2.length (λk _=>jl x t.2.2.2=jl x (t.2.2.2.drop k)) hl rfl rfl λk s hk hs hJ=>?_);subst hs;refine .dec (λh=>?_) (λh=> .some ?_)
 .have ai:k<t.2.2.2.length:=by omega
  rw[ZA ai]at hJ;refine .bind (.idx k rfl ai (.aT (Ks _ x) (.ite (λh1=> .some ?_) (λh1=> .some ⟨ai,aF (by omega),?_⟩))))
  .show _=jl x _
   rw[hJ];unfold jl;rw[aaP h1]
  .show jl x _=_
   rw[hJ];conv=>lhs;unfold jl
   rw[aaO h1]
 .have:k=t.2.2.2.length:=by omega
  subst this
  show _=jl x _
  rw[hJ,List.drop_length];rfl
def ue(x:Int)(l:List kq):Int:=if(jl x l).2=aaL then(if l.any (λr=>yN x r&& !decide (r.2=(jl x l).1))=aaL then 11 else 0)else 10
theorem EA{x:Int}{l:List kq}(h:∀r∈l,yN x r=aaM):jl x l=(0,aaM):=by
 induction l with
 |nil=>rfl
 |cons r l ih=>
  unfold jl;rw[aaO (by rw[h r Zz];simp)]
  exact ih λq hq=>h q (Zm _ hq)
theorem Hx{x:Int}{a l:List kq}(h:∀r∈a,yN x r=aaM):jl x (a++l)=jl x l:=by
 induction a with
 |nil=>rfl
 |cons r a ih=>
  rw[aar,qc,aaO (by rw[h r Zz];simp)]
  exact ih λq hq=>h q (Zm _ hq)
theorem Hy(l:List kq)(x:Int)(hl:l.length<=9223372036854775807):M.cM bd l x=some (ue x l):=by
 unfold M.cM;refine Wp.eq (Wp.join ?_)
 have lK:∀{k:Nat}(hk:k<l.length){P:kq->Prop},(∀r∈l.take k,P r)->P l[k]->∀r∈l.take (k+1),P r:=λ{k}hk{P}h h1 r hr=>by
  rw[<-Zk hk,Y7,Y5]at hr
  rcases hr with hr|rfl
  .exact h r hr
  .exact h1
 refine Wp.count (λs=>s.2.2) l.length (λk s=>(s.1=aaM->∀r∈l.take k,yN x r=aaM)/\(s.1=aaL->jl x l=(s.2.1,aaL)/\∀r∈l.take k,yN x r=aaL->r.2=s.2.1)) hl rfl ⟨λ_ r hr=>by simp at hr,λh=>by cases h⟩ λk s hk hs hJ=>?_
 obtain⟨f,o,kk⟩:=s;obtain⟨g1,g2⟩:=hJ;dsimp only at hs g1 g2⊢;subst hs;refine .dec (λh=>?_) (λh=> .some ?_)
 .have ai:k<l.length:=by omega
  refine .join (.bind (.idx k rfl ai (.aT (Ks _ x) (.ite (λh1=> .some ?_) (λh1=>?_)))))
  .have h1:yN x l[k]=aaM:=by simpa using h1
   refine .some ⟨ai,aF (by omega),λhf=>lK ai (g1 hf) h1,λhf=>⟨(g2 hf).1,lK ai (g2 hf).2 λh=>by rw[h1]at h;cases h⟩⟩
  .have h1:yN x l[k]=aaL:=by simpa using h1
   cases f with
   |true=>
    obtain⟨h2,h3⟩:=g2 rfl;refine .bind (.some (.ite (λh4=> .some ?_) (λh4=> .some (.some ⟨ai,aF (by omega),λh=>(by cases h),λ_=>?_⟩))))
    .show(11:Int)=ue x l
     unfold ue;rw[h2,aaP rfl,aaP];refine List.any_eq_true.2 ⟨l[k],Y0 ai,?_⟩;rw[h1,Bool.true_and];exact h4
    .have h5:(l[k].2:Int)=o:=by simpa using h4
     exact⟨by rw[h2];exact aaV (λz=>(z,aaL)) h5.symm,lK ai (λr hr hm=>(h3 r hr hm).trans h5.symm) λ_=>rfl⟩
   |false=>
    have h2:=g1 rfl;refine .bind (.some (.ite (λh4=>(by cases h4)) (λh4=> .some (.some ⟨ai,aF (by omega),λh=>(by cases h),λ_=>⟨?_,lK ai (λr hr hm=>by rw[h2 r hr]at hm;cases hm) λ_=>rfl⟩⟩))));have h5:jl x l=jl x (l.drop k):=(aaV (jl x) (ZQ k l).symm).trans (Hx h2);rw[h5,ZA ai,qc,aaP h1]
 .have:k=l.length:=by omega
  subst this;rw[Zh]at g1 g2
  show Wp _ _
  cases f with
  |true=>
   obtain⟨h2,h3⟩:=g2 rfl;refine .some ?_
   show(0:Int)=ue x l
   unfold ue;rw[h2,aaP rfl,aaO];intro h;obtain⟨r,hr,h4⟩:=List.any_eq_true.1 h;rw[ZE]at h4;have:=h3 r hr h4.1;simp[this]at h4
  |false=>
   refine .some ?_
   show(10:Int)=ue x l
   unfold ue;rw[EA (g1 rfl)];rfl
def L8(n:Nat)(p:Int×Int):Bool:=decide (0<=p.1)&&(decide (p.1<((2 ^ yH n:Nat):Int))&&(decide (0<=p.2)&&decide (ak .and .i64 p.2 p.1=p.2)))
theorem Ba(n:Nat)(p:aa.den):M.iH bd p (n:Int)=some (L8 n p):=by
 have hs:=jk (j:=yH n) (by have:=wy n;omega);unfold M.iH L8;rw[yI];simp only[YV,hs];generalize((2 ^ yH n:Nat):Int)=K
 by_cases h1:(0:Int)<=p.1<;>by_cases h2:(p.1:Int)<K<;>by_cases h3:(0:Int)<=p.2<;>simp[h1,h2,h3]
def Hz(t:L7):Int:=if 8<t.2.1.length then 4 else if t.2.2.2.all (λr=>L8 t.2.1.length r.1)=aaL then((bQ (λk=>if ue (k:Int) t.2.2.2=0 then aaK else some (ue (k:Int) t.2.2.2)) (2 ^ t.2.1.length)).getD 0)else 3
theorem EB(t:L7)(hl:t.2.2.2.length<=9223372036854775807):M.db bd t=some (Hz t):=by
 unfold M.db Hz;refine Wp.eq (.dec (λh=> .some ?_) (λh=>?_))
 .rw[aaP (by omega)]
 rw[aaO (by omega)]
 have hn:t.2.1.length<=8:=by omega
 have h8:=lN hn;refine .join (Wp.count (λs=>s) t.2.2.2.length (λk _=>∀r∈t.2.2.2.take k,L8 t.2.1.length r.1=aaL) hl rfl (λr hr=>by simp at hr) λk s hk hs hJ=>?_);subst hs;refine .dec (λh=>?_) (λh=> .some ?_)
 .have ai:k<t.2.2.2.length:=by omega
  refine .bind (.idx k rfl ai (.aT (Ba _ _) (.ite (λh1=> .some ?_) (λh1=> .some ⟨ai,aF (by omega),λr hr=>?_⟩))))
  .show(3:Int)=_
   rw[aaO];intro h;have:=List.all_eq_true.1 h _ (Y0 ai);rw[this]at h1;cases h1
  .rw[<-Zk ai,Y7,Y5]at hr
   rcases hr with hr|rfl
   .exact hJ r hr
   .simpa using h1
 .have:k=t.2.2.2.length:=by omega
  subst this;rw[Zh]at hJ
  show Wp _ _
  rw[aaP (List.all_eq_true.2 hJ)];refine .aT (jk (by omega)) ?_;refine Wp.first (λs=>s) (2 ^ t.2.1.length) (λk=>if ue (k:Int) t.2.2.2=0 then aaK else some (ue (k:Int) t.2.2.2)) (by omega) rfl (λk s hk hs hJ=>?_) (λs hs hn=>?_)
  .subst hs;refine .dec (λ_=> .aT (Hy _ _ hl) (.pZ (λh1=> .some (.inr ⟨_,_,rfl,aaO h1,λh=>?_⟩)) (λh1=> .some (.inl ⟨aaP h1,_,rfl,aF (by omega)⟩)))) (λh=>absurd (by exact_mod_cast hk) h);rw[h];rfl
  .subst hs;refine .dec (λh=>absurd h (by omega)) (λ_=> .some ⟨_,rfl,?_⟩);rw[hn];rfl
end L
namespace L
end L
namespace L
def Kt(r:Ty)(d:Int):Prop:=VR r/\(r.1:Int)<=d/\d<(r.2:Int)
instance(r:Ty)(d:Int):Decidable (Kt r d):=by unfold Kt;infer_instance
theorem L9(r:Ty)(d:Int):M.eP bd r d=some (decide (Kt r d)):=by
 obtain⟨(r1:Int),(r2:Int)⟩:=r;apply Wp.eq;unfold M.eP;simp only[AW,W_,aaT,aaU,reduceCtorEq];unfold Kt;dsimp only[ae,Row.den]
 by_cases h:VR ((r1,r2):Ty)<;>simp only[h,W_,aaT,aaU,reduceCtorEq]
 omega
theorem sN{α:Type}{l:List α}{i:Int}(h0:0<=i)(h1:i<(l.length:Int)):∃x,idx l i=some x/\x∈l:=by
 obtain⟨k,rfl⟩:=Y9 h0
 have hk:k<l.length:=by omega
 exact⟨_,ao hk,Y0 hk⟩
theorem cm{α:Type}(l:List α)(i:Int)(y:α):(bz l i y).length=l.length:=by unfold bz;simp
def ids(P:Nat->Bool)(k:Nat):List Int:=((Y1 k).filter P).map λi:Nat=>(i:Int)
theorem jI(P:Nat->Bool)(k:Nat):ids P (k+1)=ids P k++(if P k=aaL then[(k:Int)]else[]):=by
 unfold ids;rw[List.range_succ,List.filter_append,ZU];by_cases h:P k=aaL
 .rw[aaP h];simp[h]
 .rw[aaO h];simp[h]
theorem nh{P:Nat->Bool}{k:Nat}{j:Int}:j∈ids P k↔∃i:Nat,i<k/\P i=aaL/\j=(i:Int):=by
 unfold ids;simp only[List.mem_map,Zt,Zn];constructor
 .rintro⟨i,⟨h1,h2⟩,rfl⟩;exact⟨i,h1,h2,rfl⟩
 .rintro⟨i,h1,h2,rfl⟩;exact⟨i,⟨h1,h2⟩,rfl⟩
theorem lC(P:Nat->Bool)(k:Nat):(ids P k).length<=k:=by
 unfold ids;rw[Z5];exact Zj (aaa ..) (by simp)
def ix(l:List Int)(n:Int):Int:=lv (λx=>decide (x=n)) l
theorem HA{l:List Int}{n:Int}:0<=ix l n↔n∈l:=by
 unfold ix;rw[eK];constructor
 .rintro⟨x,hx,h⟩
  exact(aaQ h)▸hx
 .exact λh=>⟨n,h,aaR rfl⟩
theorem yO(P:Nat->Bool)(n:Nat):∀m,∃t,ids P (n+m)=ids P n++t
 |0=>⟨[],by simp⟩
 |m+1=>by
  obtain⟨t,ht⟩:=yO P n m;rw[<-Nat.add_assoc,jI,ht,Zp];exact⟨_,rfl⟩
theorem Ma{P:Nat->Bool}{n k:Nat}(hk:k<n)(h:P k=aaL):ix (ids P n) (k:Int)=((ids P k).length:Int):=by
 obtain⟨t,ht⟩:=yO P (k+1) (n-(k+1));rw[show k+1+(n-(k+1))=n by omega,jI,aaP h,Zp]at ht;unfold ix
 refine oW (k:=(ids P k).length) (by rw[ht];simp) ?_ λj hj Ie=>?_
 .rw[aaW];simp only[ht];rw[List.getElem_append_right (YY _)];simp
 .apply aaS;simp only[ht];rw[List.getElem_append_left hj];obtain⟨i,h1,_,h3⟩:=nh.1 (Y0 hj);rw[h3];omega
def Bb(rules:List fT)(L:List Int):Nat->Nat->Int
 |0,_=> -1
 |f+1,i=>match rules[i]? with
  |none=> -1
  |some r=>if 0<=(r.2.2.1:Int)/\(r.2.2.1:Int)<(i:Int)then(if 0<=ix L r.2.2.1 then ix L r.2.2.1 else Bb rules L f (r.2.2.1:Int).toNat)else-1
theorem uT(rules:List fT)(L:List Int):∀f f' i,i<f->i<f'->Bb rules L f i=Bb rules L f' i
 |0,_,_,h,_=>absurd h (Nat.not_lt_zero _)
 |_+1,0,_,_,h=>absurd h (Nat.not_lt_zero _)
 |f+1,f'+1,i,h,h'=>by
  unfold Bb
  cases rules[i]? with
  |none=>rfl
  |some r=>
   dsimp only
   obtain⟨(p:Int),Mb⟩:∃p:Int,p=r.2.2.1:=⟨_,rfl⟩
   simp only[<-Mb];by_cases hp:0<=p/\p<(i:Int)
   .rw[aaP hp,aaP hp];by_cases h0:0<=ix L p
    .rw[aaP h0,aaP h0]
    .rw[aaO h0,aaO h0];exact uT rules L f f' _ (by omega) (by omega)
   .rw[aaO hp,aaO hp]
def qd(rules:List fT)(L:List Int)(i:Nat):Int:=Bb rules L (i+1) i
theorem Cp{rules:List fT}{L:List Int}{i:Nat}(hi:i<rules.length):qd rules L i=if 0<=(rules[i].2.2.1:Int)/\(rules[i].2.2.1:Int)<(i:Int)then(if 0<=ix L rules[i].2.2.1 then ix L rules[i].2.2.1 else qd rules L (rules[i].2.2.1:Int).toNat)else-1:=by
 show Bb rules L (i+1) i=_
 unfold Bb;rw[YX hi];dsimp only
 obtain⟨(p:Int),Mb⟩:∃p:Int,p=rules[i].2.2.1:=⟨_,rfl⟩
 simp only[<-Mb];by_cases hp:0<=p/\p<(i:Int)
 .rw[aaP hp,aaP hp];by_cases h0:0<=ix L p
  .rw[aaP h0,aaP h0]
  .rw[aaO h0,aaO h0];exact uT rules L _ _ _ (by omega) (by omega)
 .rw[aaO hp,aaO hp]
theorem HB(r:Ty)(d:Int):M.jC bd r d=some (decide (Kt r d)):=by
 obtain⟨(r1:Int),(r2:Int)⟩:=r;apply Wp.eq;unfold M.jC;simp only[Oz,W_,aaT,aaU,reduceCtorEq];unfold Kt;dsimp only[ae,Row.den]
 by_cases h:VR ((r1,r2):Ty)<;>simp only[h,W_,aaT,aaU,reduceCtorEq]
 omega
theorem Bc(l:List Int)(n:Int)(hl:l.length<=100000):M.ml bd l n=some (ix l n):=by
 unfold M.ml ix;refine oX (by unfold maxLen;omega) (λk h=>?_) ?_
 .rw[iJ h,aaP rfl,ao h,YV]
 .simp only[eE,decide_false,Y8,if_false]
theorem yP(x:jH)(L:List Int)(hL:L.length<=100000)(i:Nat)(hi:i<x.2.2.2.2.length)(ik:i<=100000):M.lk bd x L (i:Int)=some (qd x.2.2.2.2 L i):=by
 obtain⟨rules,hr⟩:∃r:List fT,r=x.2.2.2.2:=⟨_,rfl⟩
 apply Wp.eq;unfold M.lk;rw[<-hr]at hi⊢;rw[ao hi,YV];refine Wp.loop (λs=>∃j:Nat,∃hj:j<rules.length,s=((j:Int),rules[j].2.2.1)/\qd rules L i=qd rules L j/\j<=i) (λs=>s.1.toNat) ⟨i,hi,rfl,rfl,YY _⟩ (by unfold bd;dsimp only;omega) ?_
 rintro s ⟨j,hj,rfl,hp,TU⟩
 dsimp only
 obtain⟨(p:Int),Mb⟩:∃p:Int,p=rules[j].2.2.1:=⟨_,rfl⟩
 rw[hp,Cp hj,<-Mb]
 refine Wp.seq (λb=>b=decide (0<=p/\p<(j:Int))) ?_ λb hb=>?_
 .refine Wp.dec (λh=> .some ?_) λh=> .some ?_
  .simp only[h,true_and]
  .rw[aaS (λg=>h g.1)]
 .subst hb
  refine Wp.dec (λh=>?_) λh=> .some ?_
  .rw[aaP h,Bc _ _ hL,YV]
   refine Wp.dec (λg=> .some ?_) λg=>?_
   .show ix L p=_
    rw[aaP g]
   .obtain⟨q,rfl⟩:=Y9 h.1
    have hq:q<j:=by omega
    have OU:q<rules.length:=by omega
    rw[ao OU,YV];refine .some ⟨⟨q,OU,rfl,?_,by omega⟩,by dsimp only;omega⟩;rw[aaO g,Y4]
  .show(-1:Int)=_
   rw[aaO h]
def kp(rules:List fT)(Pr:fT->Bool)(i:Nat):Bool:=match rules[i]? with
 |some r=>Pr r
 |none=>aaM
theorem HC{rules:List fT}{Pr:fT->Bool}{i:Nat}(h:i<rules.length):kp rules Pr i=Pr rules[i]:=by
 unfold kp;rw[YX h]
def wC(a d:Int)(r:fT):Bool:=decide ((r.2.1:Int)=a/\Kt r.2.2.2.2.1 d)
def dQ(rules:List fT)(a d:Int):List Int:=ids (kp rules (wC a d)) rules.length
theorem Mc{r:fT}{a d:Int}{β:Type}{k:Bool->Option β}:(((if(decide (r.2.1=a))=aaL then(some (decide (Kt r.2.2.2.2.1 d)):Option Bool)else some aaM):Option Bool).bind k)=k (wC a d r):=by
 unfold wC;by_cases h:(r.2.1:Int)=a
 .rw[aaP (by simpa using h),YV]
  congr 1
  simp[h]
 .rw[aaO (by simpa using h),YV]
  congr 1
  simp[h]
theorem OV(a d:Int)(r:fT):M.dj bd r a d=some (wC a d r,a,d):=by
 unfold M.dj;simp only[L9,YV];exact Mc
def fC(P:Nat->Bool)(n:Nat):List Nat:=(Y1 n).filter P
theorem uU(P:Nat->Bool)(k:Nat):fC P (k+1)=fC P k++(if P k=aaL then[k]else[]):=ic k P
theorem HD(P:Nat->Bool)(k:Nat):(fC P k).length=(ids P k).length:=by unfold ids fC;simp
def dY(rules:List fT)(a d:Int):List Int:=(fC (kp rules (wC a d)) rules.length).map (qd rules (dQ rules a d))
def gf(rules:List fT)(a d:Int):List Int:=(fC (kp rules (wC a d)) rules.length).map λi=>match rules[i]? with
 |some r=>r.2.2.2.1
 |none=>0
theorem HE{rules:List fT}{a d:Int}(hl:rules.length<=100000):M.dl bd rules a d=some (a,d,dQ rules a d,dY rules a d):=by
 unfold M.dl;refine Wp.eq (wp_bind.2 (lq.2 ⟨by omega,?_⟩));rw[Y4]
 obtain⟨P,hP⟩:∃P,P=kp rules (wC a d):=⟨_,rfl⟩
 obtain⟨L,hL⟩:∃L,L=dQ rules a d:=⟨_,rfl⟩
 have PN:L=ids P rules.length:=by rw[hL,hP];rfl
 refine Wp.count (λs=>s.1) rules.length (λk s=>s.2.1=a/\s.2.2.1=d/\s.2.2.2.1.length=rules.length/\(∀i:Nat,∀h:i<s.2.2.2.1.length,i<k->s.2.2.2.1[i]=if P i=aaL then ix L i else qd rules L i)/\s.2.2.2.2.1=ids P k/\s.2.2.2.2.2=(fC P k).map (qd rules L)) (by omega) rfl ⟨rfl,rfl,by simp,λi _ hi=>absurd hi (by omega),rfl,rfl⟩ λk s hk hs hJ=>?_
 obtain⟨i,a',d',HF,li,pa⟩:=s;obtain⟨j1,j2,j3,j4,j5,j6⟩:=hJ;dsimp only at hs j1 j2 j3 j4 j5 j6;subst hs j1 j2 j5 j6
 refine Wp.dec (λai=>?_) λhge=>?_
 .have ai:k<rules.length:=by dsimp only at ai;omega
  have Ez:=lC P k;have I4:=HD P k;dsimp only
  refine Wp.seq (λj=>j.1=a'/\j.2.1=d'/\j.2.2.1.length=rules.length/\(∀i:Nat,∀h:i<j.2.2.1.length,i<k+1->j.2.2.1[i]=if P i=aaL then ix L i else qd rules L i)/\j.2.2.2.1=ids P (k+1)/\j.2.2.2.2=(fC P (k+1)).map (qd rules L)) ?_ λj hj=> .some ⟨ai,cX (m:=rules.length) (by omega) ai,hj⟩
  rw[ao ai,YV]
  obtain⟨(p:Int),Mb⟩:∃p:Int,p=rules[k].2.2.1:=⟨_,rfl⟩
  refine Wp.seq (λv=>v=qd rules L k) ?_ λv hv=>?_
  .rw[Cp ai,<-Mb]
   refine Wp.seq (λj=>j=decide (0<=p/\p<(k:Int))) ?_ λj hj=>?_
   .refine Wp.dec (λh=> .some ?_) λh=> .some ?_
    .simp only[h,true_and]
    .rw[aaS (λg=>h g.1)]
   .subst hj
    refine Wp.dec (λh=>?_) λh=> .some ?_
    .obtain⟨q,rfl⟩:=Y9 h.1
     have hq:q<k:=by omega
     have OU:q<HF.length:=by omega
     rw[ao OU,YV];refine .some ?_;rw[aaP h,j4 q OU hq,Y4];by_cases PO:P q=aaL
     .rw[aaP PO,aaP];rw[HA,PN];exact nh.2 ⟨q,by omega,PO,rfl⟩
     .rw[aaO PO,aaO];rw[HA,PN];intro hm;obtain⟨q',_,h2,h3⟩:=nh.1 hm
      obtain rfl:q=q':=by omega
      exact PO h2
    .rw[aaO h]
  .subst hv;rw[ao (show k<HF.length by omega),YV,OV,YV,jI,uU]
   have PP:P k=wC a' d' rules[k]:=by rw[hP];exact HC ai
   rw[PP];dsimp only;by_cases hp:wC a' d' rules[k]=aaL
   .rw[aaP hp,aaP hp,aaP hp,ao (show k<(bz HF (k:Int) (qd rules L k)).length by rw[cm];omega),YV,fK (by simp;omega),YV,fK (by simp;omega),YV];refine .some ⟨rfl,rfl,by rw[cm,cm];exact j3,λi h hi=>?_,rfl,by simp⟩
    have Te:i<HF.length:=by rw[cm,cm]at h;exact h
    simp only[bz,Y4,List.getElem_set];by_cases e:k=i
    .subst e;rw[aaP rfl,aaP (PP.trans hp),PN,Ma ai (PP.trans hp)]
    .rw[aaO e,aaO e];exact j4 i Te (by omega)
   .rw[aaO hp,aaO hp,aaO hp];refine .some ⟨rfl,rfl,by rw[cm];exact j3,λi h hi=>?_,by simp,by simp⟩
    have Te:i<HF.length:=by rw[cm]at h;exact h
    simp only[bz,Y4,List.getElem_set];by_cases e:k=i
    .subst e;rw[aaP rfl,aaO (λg=>hp (PP.symm.trans g))]
    .rw[aaO e];exact j4 i Te (by omega)
 .have hge:k=rules.length:=by dsimp only at hge;omega
  refine .some ?_;subst hge
  show _=_
  unfold dY;rw[<-hP,<-hL,PN]
theorem uV(x:jH)(a d:Int)(hl:x.2.2.2.2.length<=100000):M.dt bd x a d=some (dQ x.2.2.2.2 a d,dY x.2.2.2.2 a d,gf x.2.2.2.2 a d):=by
 unfold M.dt;rw[HE hl,YV]
 obtain⟨rules,hr⟩:∃r:List fT,r=x.2.2.2.2:=⟨_,rfl⟩
 rw[<-hr]at hl⊢
 obtain⟨P,hP⟩:∃P,P=kp rules (wC a d):=⟨_,rfl⟩
 have hi:dQ rules a d=(fC P rules.length).map λi:Nat=>(i:Int):=by rw[hP];rfl
 have XJ:(fC P rules.length).length<=rules.length:=by unfold fC;exact Zj (aaa ..) (by simp)
 refine Wp.eq (Wp.seq (λj=>j=gf rules a d) ?_ λj hj=> .some (by rw[hj]));unfold gf;dsimp only;rw[hi,<-hP]
 have lK:∀i∈fC P rules.length,i<rules.length:=λi hi=>Zn.1 (Zt.1 hi).1
 refine Wp.count (λs=>s.1) (fC P rules.length).length (λk s=>s.2=((fC P rules.length).take k).map λi=>match rules[i]? with
  |some r=>r.2.2.2.1
  |none=>0) (by omega) rfl rfl λk s hk hs hJ=>?_
 obtain⟨kk,l⟩:=s;dsimp only at hs hJ⊢;subst hs hJ;rw[Z5]
 refine Wp.dec (λai=>?_) λhge=>?_
 .have ai:k<(fC P rules.length).length:=by omega
  have hb:=lK _ (Y0 ai);refine .bind (.idx k rfl (by simpa using ai) ?_);rw[List.getElem_map,ao hb,YV];refine .bind (.p3 (by simp;omega) (.some ⟨ai,aF (by omega),?_⟩))
  show _=((fC P rules.length).take (k+1)).map _
  rw[<-Zk ai,ZU,List.map_singleton,YX hb]
 .have:k=(fC P rules.length).length:=by omega
  subst this;refine .some ?_
  show _=_
  rw[Zh]
theorem tI(x:jH)(a d:Int)(hl:x.2.2.2.2.length<=100000):M.kl bd x a d=some (dQ x.2.2.2.2 a d):=by
 unfold M.kl dQ
 obtain⟨rules,hr⟩:∃r:List fT,r=x.2.2.2.2:=⟨_,rfl⟩
 rw[<-hr]at hl⊢;refine Wp.eq (Wp.count (λs=>s.1) rules.length (λk s=>s.2=ids (kp rules (wC a d)) k) (by omega) rfl rfl λk s hk hs hJ=>?_);obtain⟨kk,l⟩:=s;dsimp only at hs hJ⊢;subst hs hJ
 refine Wp.dec (λai=>?_) λhge=> .some ?_
 .have ai:k<rules.length:=by omega
  have Ez:=lC (kp rules (wC a d)) k
  refine Wp.seq (λj=>j=ids (kp rules (wC a d)) (k+1)) ?_ λj hj=> .some ⟨ai,aF (by omega),hj⟩
  rw[jI,HC ai]
  refine Wp.seq (λb=>b=wC a d rules[k]) (.bind (.idx k rfl ai ?_)) λb hb=>?_
  .unfold wC;by_cases h:(rules[k].2.1:Int)=a
   .rw[aaP (by simpa using h),ao ai,YV,HB,YV];refine .some ?_;simp[h]
   .rw[aaO (by simpa using h)];refine .some ?_;simp[h]
  .subst hb;refine .ite (λh=> .bind (.p3 (by simp;omega) (.some ?_))) (λh=> .some ?_)
   .rw[aaP h]
   .rw[aaO h,List.append_nil]
 .have:k=rules.length:=by omega
  subst this;rfl
theorem HG(x:jH)(a d:Int)(hl:x.2.2.2.2.length<=100000):M.ll bd x a d=some (dQ x.2.2.2.2 a d,dY x.2.2.2.2 a d,gf x.2.2.2.2 a d):=by
 unfold M.ll;rw[tI x a d hl,YV]
 have He:=λL(hL:L.length<=100000)i hi ik=>yP x L hL i hi ik
 obtain⟨rules,hr⟩:∃r:List fT,r=x.2.2.2.2:=⟨_,rfl⟩
 rw[<-hr]at hl He⊢
 obtain⟨P,hP⟩:∃P,P=kp rules (wC a d):=⟨_,rfl⟩
 obtain⟨L,hL⟩:∃L,L=dQ rules a d:=⟨_,rfl⟩
 have XK:L.length<=100000:=by rw[hL];exact Zj (lC _ _) hl
 have hi:dQ rules a d=(fC P rules.length).map λi:Nat=>(i:Int):=by rw[hP];rfl
 have XJ:(fC P rules.length).length<=rules.length:=by unfold fC;exact Zj (aaa ..) (by simp)
 have lK:∀i∈fC P rules.length,i<rules.length:=λi hi=>Zn.1 (Zt.1 hi).1
 refine Wp.eq (Wp.seq (λj=>j=(dY rules a d,gf rules a d)) ?_ λj hj=> .some (by rw[hj]));unfold dY gf;rw[<-hP,<-hL]
 have UG:L=(fC P rules.length).map λi:Nat=>(i:Int):=hL.trans hi
 refine Wp.count (λs=>s.1) (fC P rules.length).length (λk s=>s.2.1=((fC P rules.length).take k).map (qd rules L)/\s.2.2=((fC P rules.length).take k).map λi=>match rules[i]? with
  |some r=>r.2.2.2.1
  |none=>0) (by omega) rfl ⟨rfl,rfl⟩ λk s hk hs hJ=>?_
 obtain⟨kk,l,m⟩:=s;obtain⟨e1,e2⟩:=hJ;dsimp only at hs e1 e2⊢;subst hs e1 e2
 have hlen:L.length=(fC P rules.length).length:=by rw[UG];simp
 refine Wp.dec (λai=>?_) λhge=>?_
 .have ai:k<(fC P rules.length).length:=by rw[<-hlen];omega
  have hb:=lK _ (Y0 ai)
  have hx:L[k]'(by omega)=((fC P rules.length)[k]:Int):=by simp only[UG,List.getElem_map]
  refine .bind (.idx k rfl (by omega) ?_);rw[hx,He L XK _ hb (by omega),YV];refine .bind (.p3 (by simp;omega) (.bind (.idx k rfl (by omega) ?_)));rw[hx,ao hb,YV];refine .bind (.p3 (by simp;omega) (.some ⟨ai,aF (by omega),?_,?_⟩))
  .show _=((fC P rules.length).take (k+1)).map _
   rw[<-Zk ai,ZU,List.map_singleton]
  .show _=((fC P rules.length).take (k+1)).map _
   rw[<-Zk ai,ZU,List.map_singleton,YX hb]
 .have:k=(fC P rules.length).length:=by rw[<-hlen]at hk⊢;omega
  subst this;refine .some ?_
  show(_,_)=(_,_)
  rw[Zh]
end L
end Go.Proofs.YtbladfbbhijpmaaGreat
