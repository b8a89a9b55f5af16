/- Joined texts: Draw4 Fn Law Jump Shelf. -/
import Derived.Test.YtbladfbbhijpmaaGreatU5
import Derived.Scope
import Derived.Test.YtbladfbbhijpmaaGreatU1
import Derived.Sort.Grow
import Derived.Lib.SlicesCompact
import Derived.Lib.Bytealg
section
open _root_.Array renaming getD_eq_getD_getElem?->Zf,getElem?_eq_getElem->YU,getElem?_eq_some_iff->Zb
open _root_.Bool renaming false_eq_true->YW
open _root_.List renaming any_eq_true->ZJ,drop_eq_getElem_cons->Zd,filter_cons->aae,getElem?_drop->YR,getElem?_eq_getElem->YF,getElem?_eq_some_iff->YY,getElem_of_mem->ZO,length_append->YV,length_cons->YT,length_filter_le->ZQ,mem_append->YL,mem_cons->YM,mem_filter->Za,range->YI,take_append_drop->ZP
open _root_.Nat renaming add_zero->ZD,beq->YE,blt->Zl,le_refl->YD,le_trans->Y3,zero_add->Ze
open _root_.Option renaming none_or->ZW
open _root_.Option.some renaming inj->YA
open _root_.Go.Region renaming binds->aab,wanted->Z1
namespace Go.Proofs.YtbladfbbhijpmaaGreat
open Go Go.RowKit
theorem ra{ms:List Nat}{i:Nat}{x:gr}:{l:List gr}->{j:Nat}->uH ms i x j l=true->∀k y,l[k]? =some y->conflict x y=true->(ms.getD (j+k) 0).testBit i=true
 |[],_,_,k,y,h,_=>by simp at h
 |z::l,j,hl,k,y,h,hc=>by
  obtain⟨h1,h2⟩:=bE hl
  cases k with
  |zero=>
   obtain rfl:z=y:=by simpa using h
   rw[hc,cond_true]at h1;exact h1
  |succ k=>
   have:=ra h2 k y (by simpa using h) hc
   rwa [show j+1+k=j+(k+1)from by omega]at this
theorem mY{ms:List Nat}:{l:List gr}->{i:Nat}->qc ms i l=true->∀a b x y,a<b->l[a]? =some x->l[b]? =some y->conflict x y=true->(ms.getD (i+b) 0).testBit (i+a)=true
 |[],_,_,a,b,x,y,_,h,_,_=>by simp at h
 |z::l,i,hl,a,b,x,y,Ou,hx,hy,hc=>by
  obtain⟨h1,h2⟩:=bE hl
  cases a with
  |zero=>
   obtain rfl:z=x:=by simpa using hx
   cases b with
   |zero=>omega
   |succ b=>
    have:=ra h1 b y (by simpa using hy) hc
    rwa [show i+1+b=i+(b+1)from by omega]at this
  |succ a=>
   cases b with
   |zero=>omega
   |succ b=>
    have:=mY h2 a b x y (by omega) (by simpa using hx) (by simpa using hy) hc
    rwa [show i+1+b=i+(b+1)from by omega,show i+1+a=i+(a+1)from by omega]at this
inductive Jl(ops:Array Oper)(nt:Nat)(ts:List Nat)(sl:Nat->Option ag):Option (Nat×Bool)->Bool->Prop
 |none:Jl ops nt ts sl none true
 |lit {j g:Nat} {b t:Bool} {d:ag} (h1:Ah ops j=some g) (h2:Zl g nt=true) (h3:g∈ts) (h4:sl g=some d) (h5:asBool d=some t):Jl ops nt ts sl (some (j,b)) (decide (t=b))
 |undef {j g:Nat} {b:Bool} (h1:Ah ops j=some g) (h2:Zl g nt=true) (h3:g∈ts) (h4:sl g=some .undef):Jl ops nt ts sl (some (j,b)) false
structure Jm(P:Program)(ops:Array Oper)(nt:Nat)(U:Nat->Prop)(o:Oper)(sl:Nat->Option ag)(ob:Nat->Option (Nat×Th))(n:Nat)(x:gr):Prop where
 dst:x.dst=o.dst
 EG:wu nt o.dst=true
 on:∃b,Jl ops nt x.ts sl o.guard b/\(b=true->It P U o sl ob n x)/\(b=false->x.e={dst:= .undef})
section
variable {P:Program} {nt:Nat} {ops:Array Oper}
theorem Hb{ρ:Nat->Value}{o:Oper}{w:World}{QQ:Value->World->Prop}{a:Act}{K:Act->World->Prop}{Q:Exit->Act->World->Prop}(h:bl P ρ ⟨o.dst,o.op,o.type,o.pos,o.after,none⟩ w QQ)(hf:Fr nt a ρ)
 (hk:∀v w',QQ v w'->K (a.put o.dst v) w'):o.wp P a w K Q:=by
 unfold Oper.wp;rw[hf.eval];unfold bl at h;have e:execOp (ev ρ) o=execOp (ev ρ) ⟨o.dst,o.op,o.type,o.pos,o.after,none⟩:=rfl;rw[e];generalize(execOp (ev ρ) ⟨o.dst,o.op,o.type,o.pos,o.after,none⟩).run P w=r at*
 cases r with
 |halt x w'=>exact h.elim
 |ok x w'=>
  cases x<;>first
   |exact h.elim
   |skip
  case value v=>exact hk v w' h.2
  case skip=>exact hk undef w' h.2
  case enter f args=>
   refine h.mono fun e p3 ⟨v,he,hv⟩=>?_
   subst he;exact hk v p3 hv
theorem ak.sub{U:Nat->Prop}{H:aj}{F:Nat->Prop}{w:World}{ob F7:Nat->Option (Nat×Th)}{n m:Nat}(h:ak U H F w ob n)(hR:∀o x,F7 o=some x->ob o=some x)(tR:∀k,m<=k->k<m+16->H.val k=none/\H.con k=none):ak U H F w F7 m:=
 ⟨fun o s t ho=>h.obj o s t (hR _ _ ho),fun o o' s s' t t' v v' b8 ho gm=>h.apart o o' s s' t t' v v' b8 (hR _ _ ho) (hR _ _ gm),tR,h.lt,h.new,h.gl⟩
structure Inv(G:Nat->Prop)(w0:World)(F0:Nat->Prop)(es:List gr)(sl0:Nat->Option ag)(ob0:Nat->Option (Nat×Th))(n0:Nat)(H:aj)(F:Nat->Prop)(w:World)(ρ:Nat->Value)(S:Nat->Bool)(H':aj)(F':Nat->Prop)(w':World)(bT:Nat->Value):Prop where
 slot:∀t d,dB S 0 es sl0 t=some d->af H' F' w' d (bT t)
 ob:ak (UU G w0) H' F' w' (dl S 0 es ob0) (n0+16*es.length)
 all:eI H' (n0+16*es.length)
 fresh:∀i,i<es.length->S i=false->∀m,n0+16*i<=m->m<n0+16*i+16->H'.val m=none/\H'.con m=none
 glob:Ea G w0 F0 w' F'
 keeps:bA H F w H' F' w'
 same:∀t,(∀x∈es,x.dst≠some t)->bT t=ρ t
def ins(S:Nat->Bool)(i:Nat):Nat->Bool:=fun j=>bif YE j i then true else S j
theorem lk{S:Nat->Bool}{i:Nat}:ins S i i=true:=by simp[ins]
theorem ll{S:Nat->Bool}{i j:Nat}(h:j≠i):ins S i j=S j:=by
 unfold ins
 cases hb:YE j i with
 |true=>exact absurd (beq_true hb) h
 |false=>rfl
section
variable {G:Nat->Prop} {w0:World} {F0:Nat->Prop} {es:List gr} {sl0:Nat->Option ag} {ob0:Nat->Option (Nat×Th)} {n0:Nat} {H:aj} {F:Nat->Prop} {w:World} {ρ:Nat->Value} {ms:List Nat}
theorem wL{i:Nat}{x:gr}(h:es[i]? =some x):es=es.take i++x::es.drop (i+1)/\(es.take i).length=i:=by
 have av:i<es.length:=(YY.1 h).1;have hx:es[i]=x:=(YY.1 h).2;refine⟨?_,by simp;omega⟩;rw[<-hx,<-Zd av,ZP]
theorem tc{S:Nat->Bool}{i:Nat}{x:gr}(hx:es[i]? =some x)(EH:∀t,x.dst=some t->∀j y,es[j]? =some y->y.dst=some t->S j=true->j<i)(t:Nat):
 dB (ins S i) 0 es sl0 t=if x.dst=some t then some x.e.dst else dB S 0 es sl0 t:=by
 by_cases hd:x.dst=some t
 .rw[if_pos hd];obtain⟨e1,e2⟩:=wL hx;rw[e1,kw,e2,Ze]
  show dB (ins S i) (i+1) (es.drop (i+1)) _ t=_
  rw[ku fun k y hy Jn=>by
   rw[ll (by omega)]
   cases hS:S (i+1+k)with
   |false=>rfl
   |true=>
    have:=EH t hd (i+1+k) y (by rw[<-hy,YR]) Jn hS
    omega]
  rw[lk,nT.2 hd];rfl
 .rw[if_neg hd]
  refine gL rfl fun k y hy Jn=>?_
  rw[Ze]
  refine ll fun e=>?_
  subst e;rw[hx]at hy;obtain rfl:=YA hy;exact hd Jn
theorem wM{S:Nat->Bool}{i:Nat}{x:gr}(hx:es[i]? =some x)(hS:S i=false)(EH:∀o,o∈x.mut->∀j y,es[j]? =some y->o∈y.mut->S j=true->j<i)(o s:Nat)(t:Th)(h:dl (ins S i) 0 es ob0 o=some (s,t)):
 find x.e.make o=some (s,t)\/(o∉x.e.eat/\dl S 0 es ob0 o=some (s,t)/\find x.e.make o=none):=by
 by_cases hd:o∈x.mut
 .obtain⟨e1,e2⟩:=wL hx
  have late:∀S':Nat->Bool,(∀j,j≠i->S' j=S j)->∀f,dl S' (i+1) (es.drop (i+1)) f o=f o:=fun S' UO f=>jV fun k y hy Jn=>by
   rw[UO _ (by omega)]
   cases LU:S (i+1+k)with
   |false=>rfl
   |true=>
    have:=EH o hd (i+1+k) y (by rw[<-hy,YR]) Jn LU;omega
  have pre:dl (ins S i) 0 (es.take i) ob0 o=dl S 0 (es.take i) ob0 o:=gu rfl fun k y hy _=>by
   rw[Ze]
   refine ll fun e=>?_
   have:=(YY.1 hy).1;omega
  have all:dl S 0 es ob0 o=dl S 0 (es.take i) ob0 o:=by
   conv=>lhs;rw[e1]
   rw[fI,e2,Ze]
   show dl S (i+1) (es.drop (i+1)) _ o=_
   rw[late S (fun _ _=>rfl),hS];rfl
  conv at h=>lhs;rw[e1]
  rw[fI,e2,Ze]at h;change dl (ins S i) (i+1) (es.drop (i+1)) _ o=_ at h;rw[late (ins S i) (fun j hj=>ll hj),lk,cond_true,pre,<-all]at h
  cases hm:find x.e.make o with
  |some y=>rw[hm]at h;exact .inl h
  |none=>
   rw[hm,ZW]at h
   cases he:iJ o x.e.eat with
   |true=>rw[he]at h;cases h
   |false=>
    rw[he,cond_false]at h;exact .inr ⟨fun e=>(by rw[cN.2 e]at he;cases he),h,rfl⟩
 .right
  have h1:find x.e.make o=none:=by
   cases hm:find x.e.make o with
   |none=>rfl
   |some y=>exact absurd (by simp[gr.mut,mg hm]) hd
  refine⟨fun e=>hd (by simp[gr.mut,e]),?_,h1⟩;rw[<-h];refine(gu rfl fun k y hy Jn=>?_).symm;rw[Ze]
  refine ll fun e=>?_
  subst e;rw[hx]at hy;obtain rfl:=YA hy;exact hd Jn
theorem jW{l l':List Nat}{o:Nat}(h:o∈l)(h':o∈l'):wK l l'=true:=by
 unfold wK;rw[ZJ];exact⟨o,h,cN.2 h'⟩
theorem oT{i j:Nat}(h:i<=j):Zl j i=false:=by
 cases hb:Zl j i with
 |false=>rfl
 |true=>have:j<i:=by simpa using hb
        omega
def B7(_:Nat):Bool:=true
theorem yL{es:List gr}{i:Nat}(hi:i<=es.length):dB (fun j=>Zl j i) 0 es sl0=dB B7 0 (es.take i) sl0:=by
 funext t
 conv=>lhs;rw[<-ZP i es]
 rw[kw,ku (S:=fun j=>Zl j i) fun k x _ _=>oT (by simp;omega)]
 refine gL rfl fun k x hx _=>?_
 have:=(YY.1 hx).1;simp at this;simp[B7];omega
theorem td{es:List gr}{i:Nat}(hi:i<=es.length):dl (fun j=>Zl j i) 0 es ob0=dl B7 0 (es.take i) ob0:=by
 funext t
 conv=>lhs;rw[<-ZP i es]
 rw[fI,jV (S:=fun j=>Zl j i) fun k x _ _=>oT (by simp;omega)]
 refine gu rfl fun k x hx _=>?_
 have:=(YY.1 hx).1;simp at this;simp[B7];omega
theorem B8{S:Nat->Bool}{i q:Nat}(hA:∀k y,k<i->es[k]? =some y->q∈y.mut->S k=true\/q∈y.soft)
 (hs:∀k y,es[k]? =some y->q∈y.soft->q∈y.mut->∃z z',dl B7 0 (es.take k) ob0 q=some z/\find y.e.make q=some z'/\eA z z'):
 ∀m,m<=i->m<=es.length->∀z,dl B7 0 (es.take m) ob0 q=some z->∃z',dl S 0 (es.take m) ob0 q=some z'/\eA z z':=by
 intro m
 induction m with
 |zero=>intro _ _ z hz;exact⟨z,hz, .inl rfl⟩
 |succ m ih=>
  intro hm hl z hz
  have av:m<es.length:=by omega
  have hy:es[m]? =some es[m]:=YF av
  have e1:es.take (m+1)=es.take m++[es[m]]:=by rw[List.take_add_one,hy];rfl
  have el:(es.take m).length=m:=by simp;omega
  rw[e1,fI,el,Ze]at hz⊢;generalize X3:es[m]=y at*;have ez:(find y.e.make q).or (bif iJ q y.e.eat then none else dl B7 0 (es.take m) ob0 q)=some z:=hz
  show∃z',(bif S m then(find y.e.make q).or (bif iJ q y.e.eat then none else dl S 0 (es.take m) ob0 q)else dl S 0 (es.take m) ob0 q)=some z'/\eA z z'
  by_cases EI:q∈y.mut
  .cases UP:S m with
   |true=>
    rw[cond_true]
    cases LV:find y.e.make q with
    |some x=>rw[LV]at ez;exact⟨z,ez, .inl rfl⟩
    |none=>
     have hk:q∉mC y.e.make:=fun hk=>by
      have:∀l:List (Nat×(Nat×Th)),q∈mC l->find l q≠none:=by
       intro l
       induction l with
       |nil=>intro h;cases h
       |cons p l ih=>
        obtain⟨o',x⟩:=p;intro h;rw[aw];split
        .simp
        .rename_i b8
         rcases YM.1 h with h|h
         .exact absurd h.symm b8
         .exact ih h
      exact this _ hk LV
     have he:iJ q y.e.eat=true:=cN.2 (by
      rcases YL.1 EI with h|h
      .exact h
      .exact absurd h hk)
     rw[LV,he]at ez;cases ez
   |false=>
    rw[cond_false]
    rcases hA m y (by omega) hy EI with h|h
    .rw[UP]at h;cases h
    .obtain⟨x,x',h1,h2,h3⟩:=hs m y hy h EI;rw[h2]at ez;obtain rfl:=YA ez;obtain⟨z',h4,h5⟩:=ih (by omega) (by omega) x h1;exact⟨z',h4,h3.symm.trans h5⟩
  .have h1:find y.e.make q=none:=by
    cases hm:find y.e.make q with
    |none=>rfl
    |some y=>exact absurd (by simp[gr.mut,mg hm]) EI
   have h2:iJ q y.e.eat=false:=by
    cases hb:iJ q y.e.eat with
    |false=>rfl
    |true=>exact absurd (by simp[gr.mut,cN.1 hb]) EI
   rw[h1,h2,ZW,cond_false]at ez;obtain⟨z',h4,h5⟩:=ih (by omega) (by omega) z ez;refine⟨z',?_,h5⟩;rw[h1,h2,ZW,cond_false,h4]
   cases S m<;>rfl
theorem rb(Jo:B6 [] ops.toList=some ms)(hp:qc ms 0 es=true)(hlen:es.length=ops.size){S:Nat->Bool}(hS:yK ops (fun j=>S j=true)){i:Nat}{o:Oper}{x:gr}(ho:ops[i]? =some o)(hx:es[i]? =some x)(B9:S i=false)
 (Ak:∀e∈o.after,aab .any e=true->S e.on=true)(EJ:∀k y,es[k]? =some y->∀q,q∈y.soft->q∈y.mut->∃z z',dl B7 0 (es.take k) ob0 q=some z/\find y.e.make q=some z'/\eA z z')(rU:Jm P ops nt (UU G w0) o (dB (fun j=>Zl j i) 0 es sl0) (dl (fun j=>Zl j i) 0 es ob0) (n0+16*i) x)
 {H':aj}{F':Nat->Prop}{w':World}{bT:Nat->Value}{a:Act}(hf:Fr nt a bT)(hinv:Inv G w0 F0 es sl0 ob0 n0 H F w ρ S H' F' w' bT){K:Act->World->Prop}{Q:Exit->Act->World->Prop}
 (hk:∀LW oU pJ yp p3,Fr nt LW oU->Inv G w0 F0 es sl0 ob0 n0 H F w ρ (ins S i) pJ yp p3 oU->K LW p3):wpOp P ops Q i K a w':=by
 have wN:i<es.length:=(YY.1 hx).1
 have up:∀j y,es[j]? =some y->j<i->conflict y x=true->S j=true:=fun j y hy SJ hc=>by
  have:=mY hp j i y x SJ hy hx hc;rw[Ze,Ze]at this;exact EF Jo hS i o ho Ak j this
 have down:∀j y,es[j]? =some y->i<j->conflict x y=true->S j=true->False:=fun j y hy Ig hc hj=>by
  have:=mY hp i j x y Ig hx hy hc;rw[Ze,Ze]at this
  have yA:j<ops.size:=by have:=(YY.1 hy).1;omega
  have h2:=EF Jo hS j _ (YU yA) (fun e he hb=>hS j hj _ (YU yA) e he hb) i this;rw[B9]at h2;cases h2
 have Iu:∀t,x.dst=some t->∀j y,es[j]? =some y->y.dst=some t->S j=true->j<i:=fun t ht j y hy NX hj=>by
  rcases Nat.lt_trichotomy j i with h|h|h
  .exact h
  .subst h;rw[B9]at hj;cases hj
  .exact(down j y hy h (by unfold conflict;simp[fB,ht,NX,cN]) hj).elim
 have Iv:∀q,q∈x.mut->∀j y,es[j]? =some y->q∈y.mut->S j=true->j<i:=fun q hq j y hy Iw hj=>by
  rcases Nat.lt_trichotomy j i with h|h|h
  .exact h
  .subst h;rw[B9]at hj;cases hj
  .exact(down j y hy h (by unfold conflict;rw[jW hq (by simp[Iw])];simp) hj).elim
 have Jp:∀t,t∈x.ts->dB (fun j=>Zl j i) 0 es sl0 t=dB S 0 es sl0 t:=fun t ht=>gL rfl fun j y hy NX=>by
  rw[Ze]
  rcases Nat.lt_trichotomy j i with h|h|h
  .rw[up j y hy h (by unfold conflict;simp[fB,NX,cN,ht])];simpa using h
  .subst h;rw[B9];exact oT (YD _)
  .have:S j=false:=by
    cases hj:S j with
    |false=>rfl
    |true=>exact(down j y hy h (by unfold conflict;simp[fB,NX,cN,ht]) hj).elim
   rw[this];exact oT (by omega)
 have Pu:∀q,q∈x.os->dl (fun j=>Zl j i) 0 es ob0 q=dl S 0 es ob0 q:=fun q hq=>gu rfl fun j y hy Iw=>by
  rw[Ze]
  rcases Nat.lt_trichotomy j i with h|h|h
  .rw[up j y hy h (by unfold conflict;rw[jW Iw (by simp[hq])];simp)];simpa using h
  .subst h;rw[B9];exact oT (YD _)
  .have:S j=false:=by
    cases hj:S j with
    |false=>rfl
    |true=>exact(down j y hy h (by unfold conflict;rw[jW (l:=x.os++x.ls++x.mut) (l':=y.mut) (by simp[hq]) Iw];simp) hj).elim
   rw[this];exact oT (by omega)
 have Pv:∀q z,q∈x.ls->dl (fun j=>Zl j i) 0 es ob0 q=some z->∃z',dl S 0 es ob0 q=some z'/\eA z z':=fun q z hq hz=>by
  rw[td (by omega)]at hz
  obtain⟨z',h1,h2⟩:=B8 (S:=S) (i:=i) (q:=q) (fun k y hk hy Iw=>by
   by_cases SK:q∈y.soft
   .exact .inr SK
   .refine .inl (up k y hy hk ?_)
    have:q∈y.LS:=Za.2 ⟨Iw,by
     cases hb:iJ q y.soft with
     |false=>rfl
     |true=>exact absurd (cN.1 hb) SK⟩
    unfold conflict;rw[jW this hq]
    simp) (fun k y hy h1 h2=>EJ k y hy q h1 h2) i (YD _) (by omega) z hz
  refine⟨z',?_,h2⟩;rw[<-h1]
  conv=>lhs;rw[<-ZP i es]
  rw[fI]
  refine jV fun k y hy Iw=>?_
  have UQ:es[i+k]? =some y:=by rw[<-hy,YR]
  have el:(es.take i).length=i:=by simp;omega
  rw[el,Ze]
  cases LU:S (i+k)with
  |false=>rfl
  |true=>
   rcases Nat.eq_zero_or_pos k with rfl|hk
   .rw[ZD,B9]at LU;cases LU
   .exact(down (i+k) y UQ (by omega) (by unfold conflict;rw[jW (l:=x.os++x.ls++x.mut) (l':=y.mut) (by simp[hq]) Iw];simp) LU).elim
 obtain⟨b,hg,Pw,DN⟩:=rU.on
 have LX:Z1 o (yielded ops a.tmps)=b:=by
  generalize Px:o.guard=gd at hg
  cases hg with
  |none=>unfold Z1;rw[Px]
  |lit h1 h2 h3 h4 h5=>
   rename_i j g b' t d;rw[Jp g h3]at h4;have hy:=kg hf h1 h2 (jG h5 (hinv.slot g _ h4));unfold Z1;rw[Px];simp only[hy]
   cases t<;>cases b'<;>rfl
  |undef h1 h2 h3 h4=>
   rename_i j g b';rw[Jp g h3]at h4;have hy:=ju hf h1 h2 (show bT g=undef from hinv.slot g _ h4);unfold Z1;rw[Px];simp only[hy]
   cases b'<;>rfl
 have mO:∀v,Fr nt (a.put o.dst v) (pK bT o.dst v):=fun v=>by
  have hb:=rU.EG
  cases hd:o.dst with
  |none=>exact hf
  |some d=>rw[hd]at hb;exact hf.put hb v
 have wO:∀t,x.dst=some t↔o.dst=some t:=fun t=>by rw[rU.dst]
 unfold wpOp;simp only[ho,LX]
 cases b with
 |false=>
  simp only[YW,if_false];have he:=DN rfl;refine hk _ (pK bT o.dst undef) H' F' w' (mO undef) ⟨fun t d ht=>?_,?_,hinv.all,fun k hk rc=>?_,hinv.glob,hinv.keeps,fun t ht=>?_⟩
  .rw[tc hx Iu]at ht;split at ht
   .rename_i Jq;obtain rfl:=YA ht;rw[he]
    show pK bT o.dst undef t=undef
    rw[(wO t).1 Jq]
    show xw bT t undef t=undef
    rw[ko,if_pos rfl]
   .rename_i Jq;rw[mf (fun e=>Jq ((wO t).2 e))];exact hinv.slot t d ht
  .refine hinv.ob.sub (fun q y hq=>?_) (fun m hm _=>hinv.all m hm)
   rcases wM hx B9 Iv q y.1 y.2 hq with h1|⟨_,h2,_⟩
   .rw[he]at h1;cases h1
   .exact h2
  .by_cases e:k=i
   .subst e;rw[lk]at rc;cases rc
   .rw[ll e]at rc;exact hinv.fresh k hk rc
  .rw[mf (fun e=>ht x (List.mem_of_getElem? hx) ((wO t).2 e))];exact hinv.same t ht
 |true=>
  simp only[if_true]
  left
  obtain⟨_,⟨Pm,F7,Ha,yJ,aZ⟩,_⟩:=Pw rfl
  obtain⟨Pn,dQ,aZ⟩:=aZ H' F' w' bT (dl S 0 es ob0) (fun q y hq=>by
   obtain⟨h1,h2⟩:=yJ q y hq;by_cases Py:q∈x.os
   .exact⟨y,by rw[<-Pu q Py];exact h2, .inl rfl,fun _=>rfl⟩
   .rcases h1 with h1|h1
    .exact absurd h1 Py
    .obtain⟨z',h3,h4⟩:=Pv q y h1 h2
     exact⟨z',h3,h4,fun h=>absurd h Py⟩) (fun t d ht=>by
   obtain⟨h1,h2⟩:=Ha t d ht;rw[Jp t h1]at h2
   exact hinv.slot t d h2) (hinv.ob.sub (fun _ _ h=>h) (hinv.fresh i wN B9))
  have wm:=hinv.ob.sub dQ (hinv.fresh i wN B9)
  refine Hb aZ hf fun v p3 ⟨pJ,yp,mB⟩=>?_
  .have cI:=mB.gz.step wm.lt wm.de
   have di:eI pJ (n0+16*es.length):=fun m hm=>by
    have h1:=hinv.all m hm;have h2:=mB.fresh m (.inr (by omega));exact⟨h2.1 h1.1,h2.2 h1.2⟩
   refine hk _ (pK bT o.dst v) pJ yp p3 (mO v) ⟨fun t d ht=>?_,?_,di,fun k hk rc m UR Pz=>?_,hinv.glob.gz mB.gz wm.dG,hinv.keeps.trans ⟨mB.gz.dU,cI⟩,fun t ht=>?_⟩
   .rw[tc hx Iu]at ht;split at ht
    .rename_i Jq;obtain rfl:=YA ht;rw[(wO t).1 Jq]
     show af pJ yp p3 _ (xw bT t v t)
     rw[ko,if_pos rfl];exact mB.dst
    .rename_i Jq;rw[mf (fun e=>Jq ((wO t).2 e))];exact(hinv.slot t d ht).keep mB.gz.dU cI
   .exact hinv.ob.DB dQ mB (fun q s t hq=>wM hx B9 Iv q s t hq) fun m hm _=>di m hm
   .by_cases e:k=i
    .subst e;rw[lk]at rc;cases rc
    .rw[ll e]at rc;have h1:=hinv.fresh k hk rc m UR Pz;have h2:=mB.fresh m (by omega);exact⟨h2.1 h1.1,h2.2 h1.2⟩
   .rw[mf (fun e=>ht x (List.mem_of_getElem? hx) ((wO t).2 e))];exact hinv.same t ht
end
end
end Go.Proofs.YtbladfbbhijpmaaGreat
namespace Go.Proofs.YtbladfbbhijpmaaGreat
open Go Go.RowKit
def oV(dst:Option Nat)(g:Nat):gr:={dst:=dst,ts:=[g],os:=[],e:={dst:= .undef}}
noncomputable def jh{R:Type}{P:Program}(E:Env P)(nt:Nat)(ops:Array Oper):List Oper->State->List gr->(State->Option R)->Option R
 |[],st,acc,k=>bif oS ops.toList acc then k st else none
 |o::os,st,acc,k=>bif wu nt o.dst then(match o.guard with
  |none=>ta E o.dst o.op [] st (fun e x=>jh E nt ops os (st.apply o.dst e) (acc++[x]) k)
  |some (j,b)=>match Ah ops j with
   |none=>none
   |some g=>bif Zl g nt then(match find st.ah g with
    |some .undef=>jh E nt ops os (st.apply o.dst {dst:= .undef}) (acc++[oV o.dst g]) k
    |some d=>match asBool d with
     |some t=>if t=true then
       (bif b then ta E o.dst o.op [g] (st.put (some g) (cJ true)) (fun e x=>jh E nt ops os ((st.put (some g) (cJ true)).apply o.dst e) (acc++[x]) k)
         else jh E nt ops os ((st.put (some g) (cJ true)).apply o.dst {dst:= .undef}) (acc++[oV o.dst g]) k)
      else
       (bif b then jh E nt ops os ((st.put (some g) (cJ false)).apply o.dst {dst:= .undef}) (acc++[oV o.dst g]) k
         else ta E o.dst o.op [g] (st.put (some g) (cJ false)) (fun e x=>jh E nt ops os ((st.put (some g) (cJ false)).apply o.dst e) (acc++[x]) k))
     |none=>none
    |none=>none)else none)else none
section
variable {P:Program} {nt:Nat} {ops:Array Oper} {R:Type}
variable {G:Nat->Prop} {w0:World} {F0:Nat->Prop} {sl0:Nat->Option ag} {ob0:Nat->Option (Nat×Th)} {n0:Nat}
structure Lex(P:Program)(nt:Nat)(ops:Array Oper)(U:Nat->Prop)(sl0:Nat->Option ag)(ob0:Nat->Option (Nat×Th))(n0:Nat)(es:List gr)(st:State):Prop where
 slot:∀t,find st.ah t=dB B7 0 es sl0 t
 ob:∀o,find st.objs o=dl B7 0 es ob0 o
 nxt:st.nxt=n0+16*es.length
 ok:∀i o x,ops[i]? =some o->es[i]? =some x->Jm P ops nt U o (dB B7 0 (es.take i) sl0) (dl B7 0 (es.take i) ob0) (n0+16*i) x
theorem yM{S:Nat->Bool}{es:List gr}{x:gr}{f:Nat->Option ag}{t:Nat}(h:S es.length=true):dB S 0 (es++[x]) f t=if x.dst=some t then some x.e.dst else dB S 0 es f t:=by
 rw[kw,Ze]
 show(bif S es.length&&fB (some t) x.dst.toList then some x.e.dst else dB S 0 es f t)=_
 rw[h,Bool.true_and];by_cases hd:x.dst=some t
 .rw[if_pos hd,nT.2 hd];rfl
 .rw[if_neg hd]
  cases hb:fB (some t) x.dst.toList with
  |false=>rfl
  |true=>exact absurd (nT.1 hb) hd
theorem Ca{S:Nat->Bool}{es:List gr}{x:gr}{f:Nat->Option (Nat×Th)}{o:Nat}(h:S es.length=true):dl S 0 (es++[x]) f o=(find x.e.make o).or (bif iJ o x.e.eat then none else dl S 0 es f o):=by
 rw[fI,Ze]
 show(bif S es.length then _ else _)=_
 rw[h];rfl
theorem oW{st:State}{dst:Option Nat}{e:cL}{t:Nat}:find (st.apply dst e).ah t=if dst=some t then some e.dst else find st.ah t:=by
 cases dst with
 |none=>simp[State.apply]
 |some d=>
  show find ((d,e.dst)::st.ah) t=_
  rw[aw];by_cases h:d=t
  .simp[h]
  .simp[h]
theorem pP{st:State}{dst:Option Nat}{e:cL}{o:Nat}:find (st.apply dst e).objs o=(find e.make o).or (bif iJ o e.eat then none else find st.objs o):=by
 show find (e.make++del e.eat st.objs) o=_
 rw[eG]
 congr 1
 cases hb:iJ o e.eat with
 |true=>
  rw[cond_true]
  cases h:find (del e.eat st.objs) o with
  |none=>rfl
  |some x=>exact absurd (cN.1 hb) (eH.1 h).1
 |false=>
  rw[cond_false]
  have hn:o∉e.eat:=fun h=>by rw[cN.2 h]at hb;cases hb
  cases h:find st.objs o with
  |some x=>exact eH.2 ⟨hn,h⟩
  |none=>
   cases h2:find (del e.eat st.objs) o with
   |none=>rfl
   |some x=>rw[(eH.1 h2).2]at h;cases h
theorem Lex.snoc{U:Nat->Prop}{es:List gr}{st:State}{x:gr}{o:Oper}(h:Lex P nt ops U sl0 ob0 n0 es st)(ho:ops[es.length]? =some o)(hd:x.dst=o.dst)
 (iV:Jm P ops nt U o (find st.ah) (find st.objs) st.nxt x):Lex P nt ops U sl0 ob0 n0 (es++[x]) (st.apply o.dst x.e):=by
 refine⟨fun t=>?_,fun q=>?_,?_,fun i o' y gm hy=>?_⟩
 .rw[oW,yM rfl,hd,h.slot t]
 .rw[pP,Ca rfl,h.ob q]
 .show st.nxt+16=_
  rw[h.nxt,YV,List.length_singleton];omega
 .rcases Nat.lt_or_ge i es.length with av|hge
  .rw[List.getElem?_append_left av]at hy;rw[List.take_append_of_le_length (by omega)];exact h.ok i o' y gm hy
  .have hi:i=es.length:=by
    have:=(YY.1 hy).1;simp at this;omega
   subst hi;simp at hy;subst hy;rw[ho]at gm;obtain rfl:=YA gm;rw[List.take_left']
   .rw[<-funext h.slot,<-funext h.ob,<-h.nxt];exact iV
   .rfl
theorem Lex.put{U:Nat->Prop}{es:List gr}{st:State}{g:Nat}{d:ag}(h:Lex P nt ops U sl0 ob0 n0 es st)(hg:find st.ah g=some d):Lex P nt ops U sl0 ob0 n0 es (st.put (some g) d):=by
 refine⟨fun t=>?_,h.ob,h.nxt,h.ok⟩
 show find ((g,d)::st.ah) t=_
 rw[aw,<-h.slot t];split
 .rename_i e;subst e;exact hg.symm
 .rfl
theorem Cb{d:ag}{t:Bool}(h:asBool d=some t):d=cJ t:=by
 unfold asBool at h
 split at h<;>cases h
 rfl
theorem wP{E:Env P}{q:R}{k:State->Option R}:{l:List Oper}->{st:State}->{es:List gr}->jh E nt ops l st es k=some q->(∀j,l[j]? =ops[es.length+j]?)->Lex P nt ops (UU G w0) sl0 ob0 n0 es st->
 ∃gG cg,k cg=some q/\oS ops.toList gG=true/\Lex P nt ops (UU G w0) sl0 ob0 n0 gG cg/\gG.length=es.length+l.length
 |[],st,es,h,_,hl=>by
  unfold jh at h;obtain⟨h1,h2⟩:=ax h;exact⟨es,st,h2,h1,hl,rfl⟩
 |o::l,st,es,h,kl,hl=>by
  have ho:ops[es.length]? =some o:=by simpa using(kl 0).symm
  have LY:∀x:gr,∀j,l[j]? =ops[(es++[x]).length+j]? :=fun x j=>by
   have:=kl (j+1);rw[YV,List.length_singleton,show es.length+1+j=es.length+(j+1)from by omega];simpa using this
  have go:∀{st1:State}{x:gr},jh E nt ops l st1 (es++[x]) k=some q->Lex P nt ops (UU G w0) sl0 ob0 n0 (es++[x]) st1->∃gG cg,k cg=some q/\oS ops.toList gG=true/\Lex P nt ops (UU G w0) sl0 ob0 n0 gG cg/\gG.length=es.length+(o::l).length:=by
   intro st1 x h1 h2;obtain⟨gG,cg,a1,a2,a3,a4⟩:=wP h1 (LY x) h2;refine⟨gG,cg,a1,a2,a3,?_⟩;rw[a4,YV,List.length_singleton,YT];omega
  unfold jh at h;obtain⟨hd,h'⟩:=ax h;clear h
  have on:∀{st1:State}{gs:List Nat},ta E o.dst o.op gs st1 (fun e x=>jh E nt ops l (st1.apply o.dst e) (es++[x]) k)=some q->Lex P nt ops (UU G w0) sl0 ob0 n0 es st1->(∀ts:List Nat,(∀g∈gs,g∈ts)->Jl ops nt ts (find st1.ah) o.guard true)->∃gG cg,k cg=some q/\oS ops.toList gG=true/\Lex P nt ops (UU G w0) sl0 ob0 n0 gG cg/\gG.length=es.length+(o::l).length:=by
   intro st1 gs h1 h2 h3;obtain⟨e,x,a1,a2,a3,a4⟩:=EC (U:=UU G w0) h1;subst a2;exact go a1 (h2.snoc ho a4.dst ⟨a4.dst,hd,true,h3 _ a3,fun _=>a4,fun h=>by cases h⟩)
  have off:∀{st1:State}{g:Nat},jh E nt ops l (st1.apply o.dst {dst:= .undef}) (es++[oV o.dst g]) k=some q->Lex P nt ops (UU G w0) sl0 ob0 n0 es st1->Jl ops nt [g] (find st1.ah) o.guard false->∃gG cg,k cg=some q/\oS ops.toList gG=true/\Lex P nt ops (UU G w0) sl0 ob0 n0 gG cg/\gG.length=es.length+(o::l).length:=by
   intro st1 g h1 h2 h3;exact go (x:=oV o.dst g) h1 (h2.snoc (x:=oV o.dst g) ho rfl ⟨rfl,hd,false,h3,fun h=>(by cases h),fun _=>rfl⟩)
  split at h'
  .rename_i EK
   exact on h' hl fun ts _=>by rw[EK];exact .none
  .rename_i j b EK;split at h'
   case h_1=>cases h'
   rename_i g Io;obtain⟨Ip,h⟩:=ax h';clear h';split at h
   .rename_i hu;exact off h hl (by rw[EK];exact .undef Io Ip (by simp) hu)
   .rename_i d eD;split at h
    case h_2=>cases h
    rename_i t ht;obtain rfl:=Cb ht
    have LZ:∀v:Bool,find (st.put (some g) (cJ v)).ah g=some (cJ v):=fun v=>by
     show find ((g,cJ v)::st.ah) g=_
     rw[aw,if_pos rfl]
    have Hc:∀(v:Bool)(ts:List Nat)(r:Bool),g∈ts->r=decide (v=b)->Jl ops nt ts (find (st.put (some g) (cJ v)).ah) (some (j,b)) r:=fun v ts r hg hr=>by
     rw[hr];exact .lit Io Ip hg (LZ v) rfl
    split at h
    .rename_i G8;subst G8;have CW:=hl.put eD
     cases b with
     |true=>rw[cond_true]at h;exact on h CW fun ts PA=>by rw[EK];exact Hc true ts true (PA g (by simp)) rfl
     |false=>rw[cond_false]at h;exact off h CW (by rw[EK];exact Hc true [g] false (by simp) rfl)
    .rename_i G8
     have G8:t=false:=by cases t<;>simp_all
     subst G8;have CW:=hl.put eD
     cases b with
     |true=>rw[cond_true]at h;exact off h CW (by rw[EK];exact Hc false [g] false (by simp) rfl)
     |false=>rw[cond_false]at h;exact on h CW fun ts PA=>by rw[EK];exact Hc false ts true (PA g (by simp)) rfl
   .cases h
def L1(m:Nat)(listed:Array Bool):Nat:=((YI m).filter fun j=> !listed.getD j false).length
theorem Al{m i:Nat}{listed:Array Bool}(hi:i<m)(hs:listed.size=m)(h:listed.getD i false=false):L1 m (listed.setIfInBounds i true)+1<=L1 m listed:=by
 unfold L1
 have dQ:∀l:List Nat,(l.filter fun j=> !(listed.setIfInBounds i true).getD j false).length<=(l.filter fun j=> !listed.getD j false).length/\(i∈l->(l.filter fun j=> !(listed.setIfInBounds i true).getD j false).length+1<=(l.filter fun j=> !listed.getD j false).length):=by
  intro l
  induction l with
  |nil=>exact⟨YD _,fun h=>by cases h⟩
  |cons j l ih=>
   by_cases hj:i=j
   .subst hj
    have e1:(listed.setIfInBounds i true).getD i false=true:=by simp[Zf,hs,hi]
    rw[aae,aae,e1,h];simp only[Bool.not_true,YW,if_false,Bool.not_false,if_true,YT];exact⟨by omega,fun _=>by omega⟩
   .have e1:(listed.setIfInBounds i true).getD j false=listed.getD j false:=getD_set_ne false hj;rw[aae,aae,e1]
    cases listed.getD j false with
    |true=>
     simp only[Bool.not_true,YW,if_false];exact⟨ih.1,fun hm=>ih.2 (by simpa[hj]using hm)⟩
    |false=>
     simp only[Bool.not_false,if_true,YT];exact⟨by omega,fun hm=>by have:=ih.2 (by simpa[hj]using hm);omega⟩
 exact(dQ _).2 (by simpa using hi)
theorem Hd{E:Env P}{id:Nat}{q:R}{k:State->Option R}{st:State}{H:aj}{F:Nat->Prop}{w:World}{ρ:Nat->Value}{Q:Exit->(Nat->Value)->World->Prop}(hm:P.follows .mixedOrders=true)
 (h:jh E nt ops ops.toList st [] k=some q)(hh:bR G w0 F0 H F w ρ st)
 (hk:∀cg H' F' w' bT,k cg=some q->bR G w0 F0 H' F' w' bT cg->bA H F w H' F' w'->(∀t,(∀o∈ops.toList,o.dst≠some t)->bT t=ρ t)->Q .normal bT w'):pU P nt (.region id ops true) Q ρ w:=by
 obtain⟨es,cg,IZ,gW,yN,hlen⟩:=wP (G:=G) (w0:=w0) (sl0:=find st.ah) (ob0:=find st.objs) (n0:=st.nxt) h (fun j=>by simp) ⟨fun _=>rfl,fun _=>rfl,by simp,fun i o x _ hx=>by simp at hx⟩;simp only[List.length_nil,Ze,Array.length_toList]at hlen;unfold oS at gW;split at gW
 case h_2=>cases gW
 rename_i ms Jo
 have wO:∀x∈es,∃o∈ops.toList,x.dst=o.dst:=fun x hx=>by
  obtain⟨i,hi,rfl⟩:=ZO hx
  have av:i<ops.size:=by omega
  exact⟨ops[i],by simp,(yN.ok i ops[i] es[i] (YU av) (YF hi)).dst⟩
 have EJ:∀k y,es[k]? =some y->∀q,q∈y.soft->q∈y.mut->∃z z',dl B7 0 (es.take k) (find st.objs) q=some z/\find y.e.make q=some z'/\eA z z':=fun k y hy q h1 h2=>by
  have av:k<es.length:=(YY.1 hy).1;obtain⟨_,_,b,_,Pw,DN⟩:=yN.ok k _ y (YU (by omega)) hy
  cases b with
  |true=>exact(Pw rfl).soft q h1 h2
  |false=>
   rw[gr.mut,DN rfl]at h2;simp[mC]at h2
 have Am:∀i o,ops[i]? =some o->∀e∈o.after,aab .any e=true->e.on<i:=fun i o ho e he hb=>by
  obtain⟨m,h1,_⟩:=(uJ Jo).2.2 i o (by rw[Array.getElem?_toList];exact ho);simp only[List.length_nil,Ze]at h1;exact Aj h1 e (by simpa using he) hb
 intro a hf;refine wp_region_any hm ?_
 have main:∀fuel(listed:Array Bool)(a:Act)(w':World)H' F' bT,listed.size=ops.size->L1 ops.size listed<=fuel->yK ops (fun j=>listed.getD j false=true)->Fr nt a bT->
  Inv G w0 F0 es (find st.ah) (find st.objs) st.nxt H F w ρ (fun j=>listed.getD j false) H' F' w' bT->wpAny P .any ops (fun e a' w'=>∃bT,Fr nt a' bT/\Q e bT w') fuel listed a w':=by
  have done:∀(listed:Array Bool)(a:Act)(w':World)H' F' bT,(∀i,i<ops.size->listed.getD i false=true)->Fr nt a bT->Inv G w0 F0 es (find st.ah) (find st.objs) st.nxt H F w ρ (fun j=>listed.getD j false) H' F' w' bT->∃bT,Fr nt a bT/\Q .normal bT w':=by
   intro listed a w' H' F' bT di hf hinv
   have eS:∀t,dB (fun j=>listed.getD j false) 0 es (find st.ah) t=find cg.ah t:=fun t=>by
    rw[yN.slot t]
    refine gL rfl fun k x hx _=>?_
    have:=(YY.1 hx).1;rw[Ze];exact di k (by omega)
   have eO:∀o,dl (fun j=>listed.getD j false) 0 es (find st.objs) o=find cg.objs o:=fun o=>by
    rw[yN.ob o]
    refine gu rfl fun k x hx _=>?_
    have:=(YY.1 hx).1;rw[Ze];exact di k (by omega)
   refine⟨bT,hf,hk cg H' F' w' bT IZ ⟨⟨fun t d hd=>hinv.slot t d (by rw[eS];exact hd),?_,?_⟩,hinv.glob⟩ hinv.keeps fun t ht=>hinv.same t fun x hx=>?_⟩
   .have:=hinv.ob;rw[funext eO]at this;rw[yN.nxt];exact this
   .rw[yN.nxt];exact hinv.all
   .obtain⟨o,ho,e⟩:=wO x hx;rw[e];exact ht o ho
  have Cd:∀(listed:Array Bool),listed.size=ops.size->Region.ready .any ops listed=[]->∀i,i<ops.size->listed.getD i false=true:=by
   intro listed hs hr i
   induction i using Nat.strongRecOn with
   |_ i ih=>
    intro hi
    cases hl:listed.getD i false with
    |true=>rfl
    |false=>
     have:i∈Region.ready .any ops listed:=mem_ready.2 ⟨by
      simp only[Zf]at hl⊢;rw[YU (by omega)]at hl⊢
      simpa using hl,ops[i],YU hi,fun e he hb=>ih e.on (Am i _ (YU hi) e he hb) (by
       have:=Am i _ (YU hi) e he hb
       omega)⟩
     rw[hr]at this;cases this
  intro fuel
  induction fuel with
  |zero=>
   intro listed a w' H' F' bT hs hu hc hf hinv
   have di:∀i,i<ops.size->listed.getD i false=true:=fun i hi=>by
    cases hl:listed.getD i false with
    |true=>rfl
    |false=>
     have:=Al hi hs hl;omega
   refine⟨?_,done listed a w' H' F' bT di hf hinv⟩
   cases hr:Region.ready .any ops listed with
   |nil=>rfl
   |cons i l=>
    have hi:i∈Region.ready .any ops listed:=by rw[hr];simp
    obtain⟨h1,o,h2,_⟩:=mem_ready.1 hi;have av:=(Zb.1 h2).1;have h3:=di i av;simp only[Zf]at h1 h3;rw[YU (by omega)]at h1 h3;simp at h1 h3;rw[h1]at h3;cases h3
  |succ fuel ih=>
   intro listed a w' H' F' bT hs hu hc hf hinv;refine⟨fun hr=>done listed a w' H' F' bT (Cd listed hs hr) hf hinv,fun i hi=>?_⟩;obtain⟨h1,o,ho,Ak⟩:=mem_ready.1 hi;have av:=(Zb.1 ho).1
   have B9:listed.getD i false=false:=by
    simp only[Zf]at h1⊢;rw[YU (by omega)]at h1⊢;simpa using h1
   have hx:es[i]? =some (es[i]'(by omega)):=YF (by omega);have rU:=yN.ok i o _ ho hx;rw[<-yL (by omega),<-td (by omega)]at rU
   have rc:(fun j=>(listed.setIfInBounds i true).getD j false)=ins (fun j=>listed.getD j false) i:=by
    funext j;by_cases e:j=i
    .subst e;rw[lk];simp[Zf,hs,av]
    .rw[ll e];exact getD_set_ne false (Ne.symm e)
   refine rb Jo gW hlen hc ho hx B9 Ak EJ rU hf hinv fun LW oU pJ yp p3 PB Jr=>?_
   refine ih _ LW p3 pJ yp oU (by simp[hs]) ?_ ?_ PB ?_
   .have:=Al av hs B9;omega
   .intro j hj o' gm e he hb;by_cases ej:j=i
    .subst ej;rw[ho]at gm;obtain rfl:=YA gm;exact getD_set_true (Ak e he hb)
    .have Gf:listed.getD j false=true:=by
      have:(listed.setIfInBounds i true).getD j false=listed.getD j false:=getD_set_ne false (Ne.symm ej);rw[<-this];exact hj
     exact getD_set_true (hc j Gf o' gm e he hb)
   .rw[rc];exact Jr
 have PC:∀j,(Array.replicate ops.size false).getD j false=false:=fun j=>by
  simp only[Zf];by_cases hj:j<ops.size
  .simp[hj]
  .simp[hj]
 have hw:Step F w F w.drew:=Step.drew F w
 refine main ops.size _ a _ H F ρ (by simp) ?_ (fun i hi=>by
  have gH:(Array.replicate ops.size false).getD i false=true:=hi;rw[PC]at gH
  cases gH) hf ⟨fun t d hd=>?_,?_,fun m hm=>hh.sat.all m (by omega),fun i hi _ m hm _=>hh.sat.all m (by omega),⟨⟨hh.glob.ext.os,⟨hh.glob.ext.tape.1,Nat.le_succ_of_le hh.glob.ext.tape.2⟩,hh.glob.ext.output,hh.glob.ext.size,hh.glob.ext.block⟩,hh.glob.le,hh.glob.new⟩,⟨aj.le.refl H,hw⟩,fun _ _=>rfl⟩
 .unfold L1;exact Y3 (ZQ _ _) (by simp)
 .rw[ku fun k x _ _=>PC _]at hd;exact(hh.sat.slot t d hd).keep (aj.le.refl H) hw
 .have e:dl (fun j=>(Array.replicate ops.size false).getD j false) 0 es (find st.objs)=find st.objs:=by
   funext o
   exact jV fun k x _ _=>PC _
  rw[e];have hb:=hh.sat.ob;refine⟨fun o s t ho=>?_,hb.apart,fun m hm _=>hh.sat.all m (by omega),hb.lt,hb.new,hb.gl.step (fun _ h=>⟨h,rfl⟩)⟩;obtain⟨v,hv,bH⟩:=hb.obj o s t ho;exact⟨v,hv,bH.one,bH.con,bH.ok.heap (aj.le.refl H) hw fun _ _=>rfl,bH.no,bH.lt,bH.use⟩
end
end Go.Proofs.YtbladfbbhijpmaaGreat
end
section
open _root_.Go.Addr.mk renaming injEq->Z2
open _root_.Array renaming toArray_toList->Zi
open _root_.Bool renaming and_eq_true->Zr
open _root_.List.cons renaming injEq->ZM
open _root_.List renaming getElem?_drop->YR,getElem?_eq_getElem->YF,getElem?_take->Y0,length_cons->YT,mem_cons->YM,mem_cons_of_mem->Zc,mem_cons_self->Zp
open _root_.Nat renaming add_zero->ZD,beq->YE,eq_of_beq_eq_true->Zo,le_refl->YD
open _root_.Option renaming isSome_iff_exists->Zg,none_or->ZW
open _root_.Option.some renaming inj->YA,injEq->YH
open _root_.Prod.mk renaming inj->Z3
open _root_.Go.Result renaming andThen_ok->Zh
open _root_.Go.Sem renaming run_bind->Y6
open _root_.Go.Value.pointer renaming injEq->aam
open _root_.Go.Value.slice renaming injEq->ZV
namespace Go.Proofs.YtbladfbbhijpmaaGreat
open Go Go.RowKit
inductive Ex where
 |normal
 |exit (id:Nat)
 |ret
 |goto (l:Nat)
def Ex.pq:Ex->Exit
 | .normal=> .normal
 | .exit id=> .exit id
 | .ret=> .ret
 | .goto l=> .goto l
def noGoto{R:Type}(k:Ex->State->Option R):Ex->State->Option R
 | .goto _,_=>none
 |e,st=>k e st
inductive tf where
 |nil
 |two (a b:tf)
 |join (J:JS) (a b:tf)
 |meet (J:JS) (a b:tf)
 |loop (L:JS) (a:tf)
 |loopK (L:JS) (a:tf)
abbrev tf.o(a:tf):tf:= .two .nil a
def tf.l:tf->tf
 | .two a _=>a
 |_=> .nil
def tf.r:tf->tf
 | .two _ b=>b
 |_=> .nil
def mh:List Oper->List Nat
 |[]=>[]
 |o::l=>match o.dst with
  |some d=>d::mh l
  |none=>mh l
def writes:Code->List Nat
 | .region _ ops _=>mh ops.toList
 | .seq a b=>writes a++writes b
 | .cond _ a b=>writes a++writes b
 | .block _ a=>writes a
 | .loop a=>writes a
 | .scope a=>writes a
 |_=>[]
def wQ:List Nat->List (Nat×ag)->List (Nat×ag)
 |[],l=>l
 |t::ts,l=>(t, .dead)::wQ ts l
def Ix:List (Nat×OS)->List Nat
 |[]=>[]
 |(j,_)::l=>j::Ix l
def An(st:State)(J:JS):List (Nat×(Nat×Th)):=del (Ix J.objs++J.drop) st.objs
def behind(st:State)(W:List Nat)(J:JS)(x:cx J.rows):State:=
 {ah:=(b7 J.ah (ct _ x)).1++wQ W st.ah,objs:=ef st.nxt J.objs (b7 J.ah (ct _ x)).2++An st J,nxt:=J.nxt}
def yO(st:State)(J:JS)(st1:State):Option (cx J.rows):=
 match sM st.nxt (An st J) J st1.ah st1.objs with
 |some (x,_)=>some x
 |none=>none
def EL(ob:Nat->Option (Nat×Th))(n o:Nat):Option cL:=
 match ob o with
 |some (_, .deep T d l none)=>some {dst:= .dead,eat:=[o],make:=[(o,(n, .own T d.row l))]}
 |_=>none
def ji(st:State):List (Nat×OS)->State
 |[]=>st
 |(j, .own _ _)::os=>match EL (find st.objs) st.nxt j with
  |some e=>ji (st.apply none e) os
  |none=>ji st os
 |_::os=>ji st os
def EM(st:State)(t o:Nat)(r:Row):Option State:=
 match find st.objs o with
 |some (_, .box _ t0)=>match dz st.objs t0.owns with
  |some aA=>match find aA o with
   |some (_, .box _ t1)=>match flat (find aA) r t1 with
    |some x=>some (State.apply {st with objs:=aA} (some t) {dst:= .at r x,eat:=[o]})
    |none=>none
   |_=>none
  |none=>none
 |_=>none
noncomputable def uK{R:Type}(st:State)(k:State->Option R):List (Nat×SS)->Option R
 |[]=>k st
 |(t, .at r)::ss=>match find st.ah t with
  |some (.ptr o [] 0)=>match EM st t o r with
   |some cg=>uK cg k ss
   |none=>none
  |some (.dlm o d i [] 0)=>match dz st.objs [o]with
   |some aA=>match find aA o with
    |some (_, .fdeep _ d' l)=>bif YE d.low.size d'.row.size then(idx l i).bind fun x=>uK {ah:=(t, .at d'.row x)::st.ah,objs:=aA,nxt:=st.nxt} k ss else none
    |_=>none
   |none=>none
  |_=>uK st k ss
 |_::ss=>uK st k ss
noncomputable def carry(st:State)(J:JS)(st1:State):Option (cx J.rows):=uK (ji (kP st1) J.objs) (yO st J) J.ah
def bI{J R:Type}(m:Option (J⊕R))(k:J->Option R):Option R:=m.bind fun s=>match s with
 | .inl j=>k j
 | .inr r=>some r
def lm{S R:Type}(body:S->(S->Option R)->Option R):Nat->S->Option R
 |0,_=>none
 |n+1,s=>body s (lm body n)
theorem Ce{P:Program}{n:Nat}{Q:Exit->(Nat->Value)->World->Prop}{ρ:Nat->Value}{w:World}{S R:Type}{body:S->(S->Option R)->Option R}{c:Code}(I:S->(Nat->Value)->World->Prop){q:R}{N:Nat}{s:S}(hm:lm body N s=some q)(h0:I s ρ w)
 (hb:∀(kk:S->Option R)s ρ w,I s ρ w->body s kk=some q->pU P n c (fun e bT w'=>match e with| .normal=>∃s',kk s'=some q/\I s' bT w'|e=>Q e bT w') ρ w):pU P n (.loop c) Q ρ w:=by
 intro a hf;refine wp_loop_rounds N ?_
 induction N generalizing s ρ w a with
 |zero=>cases hm
 |succ k ih=>
  rw[rounds_succ]
  refine wp_mono (hb (lm body k) s ρ w h0 hm a hf) fun e a' w' ⟨bT,mr,hh⟩=>?_
  cases e with
  |normal=>
   obtain⟨s',h1,h2⟩:=hh;exact ih h1 h2 a' mr
  |_=>exact⟨bT,mr,hh⟩
noncomputable def exec{P:Program}(E:Env P)(nt N:Nat):Code->{R:Type}->tf->State->(Ex->State->Option R)->Option R
 | .skip,_,_,st,k=>k .normal st
 | .label _,_,_,st,k=>k .normal st
 | .scope x,_,a,st,k=>exec E nt N x a.l st (noGoto k)
 | .goto l,_,_,st,k=>k (.goto l) st
 | .ret,_,_,st,k=>k .ret st
 | .exit id,_,_,st,k=>k (.exit id) st
 | .cond c x y,_,a,st,k=>match Bd st.ah c with
   |some D=>match asBool D with
    |some b=>if b=true then exec E nt N x a.l st k else exec E nt N y a.r st k
    |none=>none
   |none=>none
 | .region _ ops draw,_,_,st,k=>bif draw then jh E nt ops ops.toList st [] (k .normal)else runs E nt ops ops.toList [] st (k .normal)
 | .seq x y,R,a,st,k=>match a with
   | .join J a1 a2=>bI (exec E nt N x (R:=cx J.rows⊕R) a1 st (fun e cg=>match e with
       | .normal=>(carry st J cg).map .inl
       |e=>(k e cg).map .inr)) fun j=>exec E nt N y a2 (behind st (writes x) J j) k
   | .meet J a1 a2=>(exec E nt N x (R:=cx J.rows) a1 st (fun e cg=>match e with
       | .normal=>carry st J cg
       |_=>none)).bind fun j=>exec E nt N y a2 (behind st (writes x) J j) k
   |a=>exec E nt N x a.l st (fun e cg=>match e with
     | .normal=>exec E nt N y a.r cg k
     |e=>k e cg)
 | .block id x,R,a,st,k=>match a with
   | .join J a1 _=>bI (exec E nt N x (R:=cx J.rows⊕R) a1 st (fun e cg=>match e with
       | .normal=>(carry st J cg).map .inl
       | .exit i=>bif YE i id then(carry st J cg).map .inl else(k (.exit i) cg).map .inr
       |e=>(k e cg).map .inr)) fun j=>k .normal (behind st (writes x) J j)
   | .meet J a1 _=>(exec E nt N x (R:=cx J.rows) a1 st (fun e cg=>match e with
       | .normal=>carry st J cg
       | .exit i=>bif YE i id then carry st J cg else none
       |_=>none)).bind fun j=>k .normal (behind st (writes x) J j)
   |a=>exec E nt N x a.l st (fun e cg=>match e with
     | .exit i=>bif YE i id then k .normal cg else k (.exit i) cg
     |e=>k e cg)
 | .loop x,R,a,st,k=>match a with
   | .loop L a1=>match carry st L st with
     |some s0=>Loop (S:=cx L.rows) (X:=R) (fun s=>exec E nt N x (R:=cx L.rows⊕R) a1 (behind st (writes x) L s) (fun e cg=>match e with
       | .normal=>(carry st L cg).map .inl
       |e=>(k e cg).map .inr)) N s0
     |none=>none
   | .loopK L a1=>match carry st L st with
     |some s0=>lm (S:=cx L.rows) (R:=R) (fun s kk=>exec E nt N x (R:=R) a1 (behind st (writes x) L s) (fun e cg=>match e with
       | .normal=>(carry st L cg).bind kk
       |e=>k e cg)) N s0
     |none=>none
   |_=>none
 |_,_,_,_,_=>none
section
variable {P:Program} {nt N:Nat} {R:Type}
variable {ρ:Nat->Value} {w w0:World} {H:aj} {F F0 G:Nat->Prop}
theorem yP{W:List Nat}{l:List (Nat×ag)}{t:Nat}{d:ag}(h:find (wQ W l) t=some d):d= .dead\/(t∉W/\find l t=some d):=by
 induction W with
 |nil=>exact .inr ⟨by simp,h⟩
 |cons s W ih=>
  have h':find ((s,ag.dead)::wQ W l) t=some d:=h;rw[aw]at h';split at h'
  .exact .inl (YA h').symm
  .rename_i e
   rcases ih h' with h1|⟨h1,h2⟩
   .exact .inl h1
   .exact .inr ⟨by simp[h1,Ne.symm e],h2⟩
theorem Cf{st st1:State}{W:List Nat}{J:JS}{x:cx J.rows}{H1:aj}{F1:Nat->Prop}{w1:World}{C1:Nat->Value}(h:yO st J st1=some x)(hh:bR G w0 F0 H F w ρ st)(iX:bR G w0 F0 H1 F1 w1 C1 st1)(hk:bA H F w H1 F1 w1)
 (Im:∀t,t∉W->C1 t=ρ t):∃H2 F2,bR G w0 F0 H2 F2 w1 C1 (behind st W J x)/\bA H F w H2 F2 w1:=by
 unfold yO at h;split at h
 case h_2=>cases h
 rename_i _ y rest hp;obtain⟨bs,aA⟩:=rest;obtain rfl:=YA h;obtain⟨F2,H2,a1,a2,a3,_,a5,_,a6,a7,a8⟩:=qT (U':=UU G w0) hp hh.sat.ob hh.sat.all hk iX.sat.ob iX.sat.slot
 have dC:Step F1 w1 F2 w1:=fun b hb=>⟨a2 b hb,rfl⟩
 have bJ:=a8 iX.sat.ob.new (fun o s t v k _ h2 h3 h4=>by
  obtain⟨v',cQ,bH⟩:=a1.obj _ _ _ h2;rw[h3]at cQ;obtain rfl:=YA cQ
  exact bH.use k h4) (fun o s t v k h2 h3 h4=>by
  have h5:=(eH.1 h2).2;obtain⟨v',cQ,bH⟩:=hh.sat.ob.obj _ _ _ h5;rw[hk.dU.val _ _ cQ]at h3;obtain rfl:=YA h3
  exact bH.use k (by rwa [hk.dU.sub _ _ bH.con]at h4))
 refine⟨H2,F2,⟨⟨fun t d hd=>?_,bJ,a6⟩,⟨iX.glob.ext,fun b hb=>a2 b (iX.glob.le b hb),fun b hb=>?_⟩⟩,⟨a5,fun b hb=>⟨a2 b (hk.step b hb).1,(hk.step b hb).2⟩⟩⟩
 .have sb:find ((b7 J.ah (ct J.rows y)).1++wQ W st.ah) t=some d:=hd;rw[eG]at sb
  cases hm:find (b7 J.ah (ct J.rows y)).1 t with
  |some d'=>
   rw[hm]at sb;obtain rfl:=YA sb;exact a7 t _ hm
  |none=>
   rw[hm,ZW]at sb
   rcases yP sb with rfl|⟨h1,h2⟩
   .trivial
   .rw[Im t h1]
    exact(hh.sat.slot t d h2).keep a5 fun b hb=>⟨a2 b (hk.step b hb).1,(hk.step b hb).2⟩
 .rcases a3 b hb with h1|h1
  .exact iX.glob.new b h1
  .exact .inr (iX.sat.ob.dG b h1)
theorem Cg{U:Nat->Prop}{ob:Nat->Option (Nat×Th)}{n:Nat}(hs:ak U H F w ob n){o:Nat}{e:cL}(h:EL ob n o=some e):ie H F w ob n e undef w:=by
 unfold EL at h;split at h
 case h_2=>cases h
 rename_i s T d l bJ;obtain rfl:=YA h;obtain⟨v,hv,bH⟩:=hs.obj _ _ _ bJ
 obtain⟨lh,Ss,⟨xs,hx,K5⟩,h2,h3,h4⟩:=(show Ba F w T d.low (km H F w d none) v l (H.sub s)from bH.ok)
 have hn:∀k,H.sub s k->¬F k:=bH.no
 have xN:fa 0 (fun b=>F b\/∃i,i<l.length/\Ss i b) w T d.row v l:=by
  refine⟨fun k hk hF=>?_,xs,?_,fun i hi=>?_⟩
  .rcases hF with hF|⟨i,hi,hm⟩
   .exact hn k (h4.aS k hk) hF
   .exact h4.out i k hi hm hk
  .rw[<-d.size,<-h2];exact hx
  .have gH:i<lh.length:=by omega
   have:=fO.freeze (h3 i gH hi) (fun k hk=>hn k (h4.part hi k hk)) (K5 i gH);rw[<-d.size]
   exact this.step fun b hb=>⟨hb.imp id fun hb=>⟨i,hi,hb⟩,rfl⟩
 have hf:=hs.fresh n (YD _) (by omega)
 have ee:∀k,H.sub s k->bq H ob [o] k:=fun k hk=>⟨o,by simp,s,_,v,bJ,hv,hk⟩
 refine⟨H.aP n (.own T d.row l),fun b=>F b\/∃i,i<l.length/\Ss i b,⟨⟨fun _ _ h=>h,fun s' t h=>?_,fun s' t h=>?_⟩,⟨rfl,⟨rfl,YD _⟩,rfl,YD _,fun _ _ _=>rfl⟩,fun _ h=> .inl h,fun b hb=>?_,fun b hb=>?_⟩,fun m hm=>⟨id,fun h=>?_⟩,trivial,⟨fun o' s' q hq=>?_,fun o1 o2 s1 s2 q1 q2 u1 u2 b8 g1 g2=>?_⟩,fun o' h=>?_⟩
 .have:s'≠n:=fun e=>by rw[e,hf.2]at h;cases h
  simp[aj.aP,this,h]
 .rfl
 .rcases hb with hb|⟨i,hi,hb⟩
  .exact .inl hb
  .exact .inr (.inr (ee b (h4.part hi b hb)))
 .rcases hb with hb|⟨i,hi,hb⟩
  .exact hs.lt b hb
  .exact bH.lt b (h4.part hi b hb)
 .simp[aj.aP,show m≠n from by omega,h]
 .obtain⟨rfl,e⟩:=bh hq;obtain⟨rfl,rfl⟩:=Z3 e;refine⟨v,hv,bH.one,by simp[aj.aP,Th.base],xN.2,fun k hk=>⟨xN.1 k hk,bH.lt k (h4.aS k hk), .inr (ee k (h4.aS k hk))⟩⟩
 .exact absurd ((bh g1).1.trans (bh g2).1.symm) b8
 .left
  obtain⟨y,hy⟩:=Zg.1 h;rw[(bh hy).1];simp
theorem bR.ji:(os:List (Nat×OS))->{st:State}->{H:aj}->{F:Nat->Prop}->bR G w0 F0 H F w ρ st->∃H' F',bR G w0 F0 H' F' w ρ (ji st os)/\bA H F w H' F' w
 |[],_,H,F,h=>⟨H,F,h,bA.refl H F w⟩
 |(j, .own _ _)::os,st,H,F,h=>by
  unfold Go.Proofs.YtbladfbbhijpmaaGreat.ji;split
  .rename_i e he;obtain⟨H',F',hp⟩:=Cg h.sat.ob he;have hs:=h.sat.apply (d:=none) hp;obtain⟨H2,F2,h2,k2⟩:=bR.ji os (st:=st.apply none e) ⟨hs,h.glob.gz hp.gz h.sat.ob.dG⟩;exact⟨H2,F2,h2,(bA.sX hp.gz h.sat.ob.lt h.sat.ob.de).trans k2⟩
  .exact bR.ji os h
 |(_, .box ..)::os,_,_,_,h=>bR.ji os h
 |(_, .map ..)::os,_,_,_,h=>bR.ji os h
 |(_, .deep ..)::os,_,_,_,h=>bR.ji os h
 |(_, .smap ..)::os,_,_,_,h=>bR.ji os h
theorem bR.EM{st cg:State}{t o:Nat}{r:Row}(h:bR G w0 F0 H F w ρ st)(eD:find st.ah t=some (.ptr o [] 0))(hb:EM st t o r=some cg):∃F',bR G w0 F0 H F' w ρ cg/\bA H F w H F' w:=by
 unfold Go.Proofs.YtbladfbbhijpmaaGreat.EM at hb;split at hb
 case h_2=>cases hb
 split at hb
 case h_2=>cases hb
 rename_i aA rQ;obtain⟨F1,h1,k1⟩:=h.oj rQ;split at hb
 case h_2=>cases hb
 rename_i s1 T1 t1 bJ;split at hb
 case h_2=>cases hb
 rename_i x hx;obtain rfl:=YA hb;obtain⟨v,hv,bH⟩:=h1.sat.ob.obj _ _ _ bJ
 obtain⟨b,es,rfl,US,hold⟩:=(show∃b es,v= .pointer (some ⟨b,0,none⟩)/\w.heap[b]? =some (.cells es.toArray T1 (0,0))/\Holds H F1 w t1 es from bH.ok)
 obtain⟨b',cQ,k9⟩:=h.sat.slot t _ eD;rw[hv]at cQ;simp only[YH,aam,Z2,and_true]at cQ;subst cQ;have nI:=dV h1.sat.ob hx hold
 have hg:bq H (find aA) [o] b:=⟨o,by simp,s1,_,_,bJ,hv,rfl⟩
 have dC:Step F1 w (fun k=>F1 k\/k=b) w:=fun k hk=>⟨.inl hk,rfl⟩
 have hp:gZ H F1 w (find aA) st.nxt {dst:= .at r x,eat:=[o]} (ρ t) w H (fun k=>F1 k\/k=b):=
  ⟨⟨aj.le.refl H,⟨rfl,⟨rfl,YD _⟩,rfl,YD _,fun _ _ _=>rfl⟩,fun _ hk=> .inl hk,fun k hk=>hk.elim .inl fun e=> .inr (.inr (e▸hg)),fun k hk=>hk.elim (h1.sat.ob.lt k) fun e=>by rw[e];exact bH.lt b rfl⟩,fun m _=>⟨id,id⟩,
    ⟨b,0,k9, .inr rfl,es,nI.length,fun j u hu=>by
      show w.cell? ⟨b,0+j,none⟩=some u
      simp[World.cell?,US,hu],nI.step dC⟩,⟨fun _ _ _ h=>(by cases h),fun _ _ _ _ _ _ _ _ _ h=>(by cases h)⟩,fun _ h=>(by cases h)⟩
 have hs:=h1.sat.apply (d:=some t) hp
 have UT:pK ρ (some t) (ρ t)=ρ:=by
  funext u
  show xw ρ t (ρ t) u=ρ u
  rw[ko];split
  .rename_i e;rw[e]
  .rfl
 rw[UT]at hs;exact⟨_,⟨hs,h1.glob.gz hp.gz h1.sat.ob.dG⟩,k1.trans (bA.sX hp.gz h1.sat.ob.lt h1.sat.ob.de)⟩
theorem bR.uK{R:Type}{k:State->Option R}{q:R}:(ss:List (Nat×SS))->{st:State}->{H:aj}->{F:Nat->Prop}->bR G w0 F0 H F w ρ st->uK st k ss=some q->∃st2 H' F',k st2=some q/\bR G w0 F0 H' F' w ρ st2/\bA H F w H' F' w
 |[],st,H,F,h,hk=>⟨st,H,F,hk,h,bA.refl H F w⟩
 |(t, .at r)::ss,st,H,F,h,hk=>by
  unfold Go.Proofs.YtbladfbbhijpmaaGreat.uK at hk;split at hk
  .rename_i o eD;split at hk
   case h_2=>cases hk
   rename_i cg UW;obtain⟨F1,h1,k1⟩:=h.EM eD UW;obtain⟨st2,H2,F2,g1,g2,g3⟩:=bR.uK ss h1 hk;exact⟨st2,H2,F2,g1,g2,k1.trans g3⟩
  .rename_i o d i eD;split at hk
   case h_2=>cases hk
   rename_i aA rQ;obtain⟨F1,h1,k1⟩:=h.oj rQ;split at hk
   case h_2=>cases hk
   rename_i s1 T1 d' l bJ;obtain⟨iz,hk⟩:=ax hk;have iz:=Zo iz;obtain⟨x,hx,NP⟩:=bind_some hk;obtain⟨j,rfl,hj,UX⟩:=dF hx;obtain⟨g,o0,q0,m,cap,hv,hq,k9⟩:=h1.sat.slot t _ eD;obtain⟨v,cQ,bH⟩:=h1.sat.ob.obj _ _ _ bJ;rw[hv]at cQ;obtain rfl:=YA cQ
   obtain⟨A,Dq,e1,_,_,pF⟩:=(show bF F1 w (.slice d'.row) [_] l from bH.ok)
   obtain⟨b,off,es,hA,UY,hlen,nv,nI⟩:=pF j hj;simp only[ZM,ZV,and_true]at e1;obtain⟨e1,_,_⟩:=e1;rw[<-e1]at hA;simp only[YH,Z2,and_true]at hA;obtain⟨rfl,rfl⟩:=hA
   have pV:af H F1 w (.at d'.row x) (ρ t):=by
    have e:j=q0:=by omega
    subst e;refine⟨g,o0+j*d.low.size+0,k9,UY,es,hlen,fun jj u hu=>?_,by rw[<-UX];exact nI⟩;rw[iz];exact nv jj u hu
   obtain⟨st2,H2,F2,g1,g2,g3⟩:=bR.uK ss (st:={ah:=(t, .at d'.row x)::st.ah,objs:=aA,nxt:=st.nxt}) ⟨⟨fun t' q' pc=>by
    have pc:find ((t,ag.at d'.row x)::st.ah) t'=some q':=pc;rw[aw]at pc;by_cases e:t=t'
    .subst e;rw[if_pos rfl]at pc;obtain rfl:=YA pc;exact pV
    .rw[if_neg e]at pc
     exact h1.sat.slot t' q' pc,h1.sat.ob,h1.sat.all⟩,h1.glob⟩ NP
   exact⟨st2,H2,F2,g1,g2,k1.trans g3⟩
  .exact bR.uK ss h hk
 |(_, .val ..)::ss,_,_,_,h,hk=>bR.uK ss h hk
 |(_, .ptr ..)::ss,_,_,_,h,hk=>bR.uK ss h hk
 |(_, .undef)::ss,_,_,_,h,hk=>bR.uK ss h hk
 |(_, .fn ..)::ss,_,_,_,h,hk=>bR.uK ss h hk
 |(_, .ifc ..)::ss,_,_,_,h,hk=>bR.uK ss h hk
theorem gM{st st1:State}{W:List Nat}{J:JS}{x:cx J.rows}{H1:aj}{F1:Nat->Prop}{w1:World}{C1:Nat->Value}(h:carry st J st1=some x)(hh:bR G w0 F0 H F w ρ st)(iX:bR G w0 F0 H1 F1 w1 C1 st1)(hk:bA H F w H1 F1 w1)
 (Im:∀t,t∉W->C1 t=ρ t):∃H2 F2,bR G w0 F0 H2 F2 w1 C1 (behind st W J x)/\bA H F w H2 F2 w1:=by
 obtain⟨X4,X5,PD,ig⟩:=iX.kP;obtain⟨X6,X7,PE,Kw⟩:=PD.ji J.objs;unfold carry at h;obtain⟨st2,X8,X9,h3,UZ,U0⟩:=PE.uK J.ah h;exact Cf h3 hh UZ (((hk.trans ig).trans Kw).trans U0) Im
theorem pt{l:List Oper}{o:Oper}{t:Nat}(ho:o∈l)(hd:o.dst=some t):t∈mh l:=by
 induction l with
 |nil=>cases ho
 |cons p l ih=>
  rcases YM.1 ho with rfl|h
  .unfold mh;rw[hd];exact Zp
  .unfold mh;split
   .exact Zc _ (ih h)
   .exact ih h
structure Js(G:Nat->Prop)(w0:World)(F0:Nat->Prop)(W:List Nat)(H:aj)(F:Nat->Prop)(w:World)(ρ:Nat->Value)(H':aj)(F':Nat->Prop)(w':World)(bT:Nat->Value)(cg:State):Prop where
 here:bR G w0 F0 H' F' w' bT cg
 keeps:bA H F w H' F' w'
 same:∀t,t∉W->bT t=ρ t
theorem map_inl{α β:Type}{o:Option α}{f:α->β}{r:β}(h:o.map f=some r):∃x,o=some x/\f x=r:=Option.map_eq_some_iff.1 h
theorem eV{E:Env P}:(c:Code)->{R:Type}->{q:R}->{a:tf}->{st:State}->{k:Ex->State->Option R}->{H:aj}->{F:Nat->Prop}->{w:World}->{ρ:Nat->Value}->{Q:Exit->(Nat->Value)->World->Prop}->
 exec E nt N c a st k=some q->bR G w0 F0 H F w ρ st->
 (∀e cg H' F' w' bT,k e cg=some q->Js G w0 F0 (writes c) H F w ρ H' F' w' bT cg->Q e.pq bT w')->pU P nt c Q ρ w
 | .skip,R,q,a,st,k,H,F,w,ρ,Q,h,hh,hk=>C4 (hk .normal st H F w ρ h ⟨hh,bA.refl H F w,fun _ _=>rfl⟩)
 | .ret,R,q,a,st,k,H,F,w,ρ,Q,h,hh,hk=>Gt (hk .ret st H F w ρ h ⟨hh,bA.refl H F w,fun _ _=>rfl⟩)
 | .exit id,R,q,a,st,k,H,F,w,ρ,Q,h,hh,hk=>C5 (hk (.exit id) st H F w ρ h ⟨hh,bA.refl H F w,fun _ _=>rfl⟩)
 | .cond c x y,R,q,a,st,k,H,F,w,ρ,Q,h,hh,hk=>by
   unfold exec at h;split at h
   case h_2=>cases h
   rename_i D hD;split at h
   case h_2=>cases h
   rename_i b hb;have hv:=jG hb (ol hh.sat.ob.gl hh.sat.slot _ _ hD);split at h
   .rename_i e;subst e;exact C6 hv (eV x h hh fun e cg H' F' w' bT h1 h2=>hk e cg H' F' w' bT h1 ⟨h2.here,h2.keeps,fun t ht=>h2.same t fun hm=>ht (by simp[writes,hm])⟩)
   .rename_i e
    have e:b=false:=by cases b<;>simp_all
    subst e;exact AM hv (eV y h hh fun e cg H' F' w' bT h1 h2=>hk e cg H' F' w' bT h1 ⟨h2.here,h2.keeps,fun t ht=>h2.same t fun hm=>ht (by simp[writes,hm])⟩)
 | .region id ops draw,R,q,a,st,k,H,F,w,ρ,Q,h,hh,hk=>by
   unfold exec at h
   cases draw with
   |true=>
    rw[cond_true]at h
    exact Hd E.mix h hh fun cg H' F' w' bT h1 h2 h3 h4=>hk .normal cg H' F' w' bT h1 ⟨h2,h3,fun t ht=>h4 t fun o ho e=>ht (pt ho e)⟩
   |false=>
    rw[cond_false]at h
    have:=uu (K:=fun ρ w=>Q .normal ρ w) (ops:=ops) (nt:=nt) h (fun _ _ h=>by cases h) hh fun cg H' F' w' bT h1 h2 h3 h4=>hk .normal cg H' F' w' bT h1 ⟨h2,h3,fun t ht=>h4 t fun o ho e=>ht (pt ho e)⟩
    have h2:=xI (id:=id) (l:=ops.toList) (P:=P) (n:=nt) (Q:=Q) (ρ:=ρ) (w:=w) (by rw[Zi];exact this);rw[Zi]at h2;exact h2
 | .seq x y,R,q,a,st,k,H,F,w,ρ,Q,h,hh,hk=>by
   have fin:∀{H1:aj}{F1:Nat->Prop}{w1:World}{C1:Nat->Value}{st1:State}{a2:tf},exec E nt N y a2 st1 k=some q->bR G w0 F0 H1 F1 w1 C1 st1->bA H F w H1 F1 w1->(∀t,t∉writes x->C1 t=ρ t)->pU P nt y Q C1 w1:=by
    intro H1 F1 w1 C1 st1 a2 g1 g2 g3 g4
    exact eV y g1 g2 fun e cg H' F' w' bT h1 h2=>hk e cg H' F' w' bT h1 ⟨h2.here,g3.trans h2.keeps,fun t ht=>(h2.same t fun hm=>ht (by simp[writes,hm])).trans (g4 t fun hm=>ht (by simp[writes,hm]))⟩
   have out:∀{e:Ex}{cg:State}{H':aj}{F':Nat->Prop}{w':World}{bT:Nat->Value},k e cg=some q->Js G w0 F0 (writes x) H F w ρ H' F' w' bT cg->Q e.pq bT w':=by
    intro e cg H' F' w' bT g1 g2;exact hk e cg H' F' w' bT g1 ⟨g2.here,g2.keeps,fun t ht=>g2.same t fun hm=>ht (by simp[writes,hm])⟩
   unfold exec at h;split at h
   .rename_i J a1 a2;unfold bI at h;obtain⟨s,hs,h⟩:=bind_some h;refine tM (eV x hs hh fun e cg H' F' w' bT h1 h2=>?_)
    cases e with
    |normal=>
     obtain⟨j,hj,rfl⟩:=map_inl h1;obtain⟨H2,F2,g1,g2⟩:=gM (W:=writes x) hj hh h2.here h2.keeps h2.same;exact fin h g1 g2 h2.same
    |exit id=>
     obtain⟨r,hr,rfl⟩:=map_inl h1;obtain rfl:=YA h;exact out hr h2
    |ret=>
     obtain⟨r,hr,rfl⟩:=map_inl h1;obtain rfl:=YA h;exact out hr h2
    |goto l=>
     obtain⟨r,hr,rfl⟩:=map_inl h1;obtain rfl:=YA h;exact out hr h2
   .rename_i J a1 a2;obtain⟨s,hs,h⟩:=bind_some h;refine tM (eV x hs hh fun e cg H' F' w' bT h1 h2=>?_)
    cases e with
    |normal=>
     obtain⟨H2,F2,g1,g2⟩:=gM (W:=writes x) h1 hh h2.here h2.keeps h2.same;exact fin h g1 g2 h2.same
    |exit id=>cases h1
    |ret=>cases h1
    |goto l=>cases h1
   .refine tM (eV x h hh fun e cg H' F' w' bT h1 h2=>?_)
    cases e with
    |normal=>exact fin h1 h2.here h2.keeps h2.same
    |exit id=>exact out h1 h2
    |ret=>exact out h1 h2
    |goto l=>exact out h1 h2
 | .block id x,R,q,a,st,k,H,F,w,ρ,Q,h,hh,hk=>by
   have hw:writes (.block id x)=writes x:=rfl;rw[hw]at hk
   have PF:∀{e:Ex}{bT:Nat->Value}{w':World},(match e with| .exit i=>if i=id then Q .normal bT w' else Q (.exit i) bT w'|e=>Q e.pq bT w')->Ku id Q e.pq bT w':=by
    intro e bT w' g
    cases e with
    |normal=>exact g
    |ret=>exact g
    |goto l=>exact g
    |exit i=>
     by_cases e:i=id
     .subst e;simp only[if_pos]at g;exact Dv g
     .simp only[if_neg e]at g;refine A4 ?_ g
      cases hb:YE i id with
      |false=>rfl
      |true=>exact absurd (beq_true hb) e
   have yQ:∀{i:Nat},i≠id->YE i id=false:=fun{i}e=>by
    cases hb:YE i id with
    |false=>rfl
    |true=>exact absurd (beq_true hb) e
   unfold exec at h;split at h
   .rename_i J a1 a2;unfold bI at h;obtain⟨s,hs,h⟩:=bind_some h;refine oe (eV x hs hh fun e cg H' F' w' bT h1 h2=>PF ?_)
    have inn:(carry st J cg).map Sum.inl=some s->Q .normal bT w':=fun h1=>by
     obtain⟨j,hj,rfl⟩:=map_inl h1;obtain⟨H2,F2,g1,g2⟩:=gM (W:=writes x) hj hh h2.here h2.keeps h2.same;exact hk .normal _ H2 F2 w' bT h ⟨g1,g2,h2.same⟩
    have out:∀{e:Ex},(k e cg).map Sum.inr=some s->Q e.pq bT w':=fun{e}h1=>by
     obtain⟨r,hr,rfl⟩:=map_inl h1;obtain rfl:=YA h;exact hk e cg H' F' w' bT hr h2
    cases e with
    |normal=>exact inn h1
    |exit i=>
     show if i=id then _ else _
     by_cases e:i=id
     .subst e;rw[if_pos rfl];refine inn ?_;simpa using h1
     .rw[if_neg e];simp only[yQ e,cond_false]at h1;exact out (e:= .exit i) h1
    |ret=>exact out (e:= .ret) h1
    |goto l=>exact out (e:= .goto l) h1
   .rename_i J a1 a2;obtain⟨s,hs,h⟩:=bind_some h;refine oe (eV x hs hh fun e cg H' F' w' bT h1 h2=>PF ?_)
    have inn:carry st J cg=some s->Q .normal bT w':=fun h1=>by
     obtain⟨H2,F2,g1,g2⟩:=gM (W:=writes x) h1 hh h2.here h2.keeps h2.same;exact hk .normal _ H2 F2 w' bT h ⟨g1,g2,h2.same⟩
    cases e with
    |normal=>exact inn h1
    |exit i=>
     show if i=id then _ else _
     by_cases e:i=id
     .subst e;rw[if_pos rfl];refine inn ?_;simpa using h1
     .simp only[yQ e,cond_false]at h1;cases h1
    |ret=>cases h1
    |goto l=>cases h1
   .refine oe (eV x h hh fun e cg H' F' w' bT h1 h2=>PF ?_)
    cases e with
    |normal=>exact hk .normal cg H' F' w' bT h1 h2
    |exit i=>
     show if i=id then _ else _
     by_cases e:i=id
     .subst e;rw[if_pos rfl];refine hk .normal cg H' F' w' bT ?_ h2;simpa using h1
     .rw[if_neg e];simp only[yQ e,cond_false]at h1;exact hk (.exit i) cg H' F' w' bT h1 h2
    |ret=>exact hk .ret cg H' F' w' bT h1 h2
    |goto l=>exact hk (.goto l) cg H' F' w' bT h1 h2
 | .loop x,R,q,a,st,k,H,F,w,ρ,Q,h,hh,hk=>by
   have hw:writes (.loop x)=writes x:=rfl;rw[hw]at hk;unfold exec at h;split at h
   case h_3=>cases h
   case h_2=>
    rename_i L a1;split at h
    case h_2=>cases h
    rename_i s0 G0;refine Ce (fun s bT w'=>∃H' F',bR G w0 F0 H' F' w' bT (behind st (writes x) L s)/\bA H F w H' F' w'/\∀t,t∉writes x->bT t=ρ t) h ?_ ?_
    .obtain⟨H2,F2,g1,g2⟩:=gM (W:=writes x) G0 hh hh (bA.refl H F w) fun _ _=>rfl
     exact⟨H2,F2,g1,g2,fun _ _=>rfl⟩
    .rintro kk s bT w' ⟨H',F',g1,g2,g3⟩ hy
     refine eV x hy g1 fun e cg pJ yp p3 oU h1 h2=>?_
     have sm:∀t,t∉writes x->oU t=ρ t:=fun t ht=>(h2.same t ht).trans (g3 t ht)
     cases e with
     |normal=>
      obtain⟨j,hj,Bc⟩:=Option.bind_eq_some_iff.1 h1;obtain⟨H2,F2,m1,m2⟩:=gM (W:=writes x) hj hh h2.here (g2.trans h2.keeps) sm;exact⟨j,Bc,H2,F2,m1,m2,sm⟩
     |exit i=>exact hk (.exit i) cg pJ yp p3 oU h1 ⟨h2.here,g2.trans h2.keeps,sm⟩
     |ret=>exact hk .ret cg pJ yp p3 oU h1 ⟨h2.here,g2.trans h2.keeps,sm⟩
     |goto l=>exact hk (.goto l) cg pJ yp p3 oU h1 ⟨h2.here,g2.trans h2.keeps,sm⟩
   rename_i L a1;split at h
   case h_2=>cases h
   rename_i s0 G0;refine C7 (fun s bT w'=>∃H' F',bR G w0 F0 H' F' w' bT (behind st (writes x) L s)/\bA H F w H' F' w'/\∀t,t∉writes x->bT t=ρ t) h ?_ ?_
   .obtain⟨H2,F2,g1,g2⟩:=gM (W:=writes x) G0 hh hh (bA.refl H F w) fun _ _=>rfl
    exact⟨H2,F2,g1,g2,fun _ _=>rfl⟩
   .rintro s bT w' y ⟨H',F',g1,g2,g3⟩ hy
    refine eV x hy g1 fun e cg pJ yp p3 oU h1 h2=>?_
    have sm:∀t,t∉writes x->oU t=ρ t:=fun t ht=>(h2.same t ht).trans (g3 t ht)
    have out:∀{e:Ex},e≠ .normal->(k e cg).map Sum.inr=some y->HX (fun s bT w'=>∃H' F',bR G w0 F0 H' F' w' bT (behind st (writes x) L s)/\bA H F w H' F' w'/\∀t,t∉writes x->bT t=ρ t) Q q y e.pq oU p3:=fun{e}he h1=>by
     obtain⟨r,hr,rfl⟩:=map_inl h1;refine⟨by cases e<;>simp_all[Ex.pq],fun hq=>?_⟩;subst hq;exact hk e cg pJ yp p3 oU hr ⟨h2.here,g2.trans h2.keeps,sm⟩
    cases e with
    |normal=>
     obtain⟨j,hj,rfl⟩:=map_inl h1;obtain⟨H2,F2,m1,m2⟩:=gM (W:=writes x) hj hh h2.here (g2.trans h2.keeps) sm;exact⟨rfl,H2,F2,m1,m2,sm⟩
    |exit i=>exact out (e:= .exit i) (by simp) h1
    |ret=>exact out (e:= .ret) (by simp) h1
    |goto l=>exact out (e:= .goto l) (by simp) h1
 | .label l,R,q,a,st,k,H,F,w,ρ,Q,h,hh,hk=>fun act hf=>wp_label ⟨ρ,hf,hk .normal st H F w ρ h ⟨hh,bA.refl H F w,fun _ _=>rfl⟩⟩
 | .scope x,R,q,a,st,k,H,F,w,ρ,Q,h,hh,hk=>by
   have h1:=eV (Q:=fun e ρ w=>match e with| .goto _=>False|e=>Q e ρ w) x (show exec E nt N x a.l st (noGoto k)=some q from h) hh fun e cg H' F' w' bT h1 h2=>by
    cases e with
    |goto l=>cases h1
    |_=>exact hk _ cg H' F' w' bT h1 h2
   intro act hf;refine wp_scope_straight (wp_mono (h1 act hf) fun e a' w' ⟨bT,mr,NO⟩=>?_)
   cases e<;>first
    |exact NO.elim
    |exact⟨bT,mr,NO⟩
 | .goto l,R,q,a,st,k,H,F,w,ρ,Q,h,hh,hk=>fun act hf=>wp_goto ⟨ρ,hf,hk (.goto l) st H F w ρ h ⟨hh,bA.refl H F w,fun _ _=>rfl⟩⟩
 | .rangeFunc ..,_,_,_,_,_,_,_,_,_,_,h,_,_=>by cases h
 | .refuse _,_,_,_,_,_,_,_,_,_,_,h,_,_=>by cases h
end
end Go.Proofs.YtbladfbbhijpmaaGreat
namespace Go.Proofs.YtbladfbbhijpmaaGreat
open Go Go.RowKit
def uL{P:Program}(T:aI P)(ah:List (Nat×ag))(objs:List (Nat×(Nat×Th)))(t:Nat)(T0:TypeId):Option ag:=
 match find T.und T0 with
 |none=>none
 |some kk=>match find ah t with
  |some (.ptr o p off)=>match find objs o with
   |some (_, .box _ tr)=>match tr.get p with
    |some (s,cF)=>bif YE cF off&&iH T T0 kk s.size then some (.val (fP kk) s)else none
    |none=>none
   |_=>none
  |_=>none
def uM{P:Program}(T:aI P)(ah:List (Nat×ag))(objs:List (Nat×(Nat×Th))):List ResultVar->Option (List ag)
 |[]=>some []
 | .tmp t::l=>match find ah t with
   |some d=>match uM T ah objs l with
    |some ds=>some (d::ds)
    |none=>none
   |none=>none
 | .cell t T0::l=>match uL T ah objs t T0 with
   |some d=>match uM T ah objs l with
    |some ds=>some (d::ds)
    |none=>none
   |none=>none
noncomputable def Jt{P:Program}(T:aI P)(rs:List ResultVar)(nb:Nat)(out:JS)(st:State):Option (cx out.rows):=
 match uM T st.ah st.objs rs with
 |some ds=>uK {ah:=eK 0 ds,objs:=(kP st).objs,nxt:=(kP st).nxt} (fun st1=>match sM nb [] out st1.ah st1.objs with
  |some (x,_)=>some x
  |none=>none) out.ah
 |none=>none
def init(inn:JS)(x:cx inn.rows):State:=
 {ah:=(b7 inn.ah (ct _ x)).1,objs:=ef 0 inn.objs (b7 inn.ah (ct _ x)).2,nxt:=inn.nxt}
noncomputable def L2{P:Program}(T:aI P)(rs:List ResultVar)(nb:Nat)(out:JS):Ex->State->Option (cx out.rows)
 | .exit _,_=>none
 | .goto _,_=>none
 |_,st=>Jt T rs nb out st
noncomputable def L3{P:Program}(E:Env P)(nt N:Nat)(c:Code)(rs:List ResultVar)(a:tf)(inn out:JS)(x:cx inn.rows):Option (cx out.rows):=
 exec E nt N c a (init inn x) (L2 E.T rs inn.nxt out)
section
variable {P:Program} {ρ:Nat->Value} {w:World} {H:aj} {F:Nat->Prop} {U:Nat->Prop} {n:Nat}
theorem wR(T:aI P){t:TypeId}{kk:CV}(hu:find T.und t=some kk){b off:Nat}{s:Tree}{cs:List Value}(hh:Holds H F w s cs)(hc:∀j u,cs[j]? =some u->w.cell? ⟨b,off+j,none⟩=some u)
 (hz:if fP kk=true then∃r,find T.row t=some r/\r.size=s.size else s.size=1):∃v,(loadVar t ⟨b,off,none⟩).run P w= .ok v w/\au H F w (fP kk) s v:=by
 obtain⟨dd,si,rI⟩:=(T.und_ok _ _ hu).agg;have hl:=hh.length
 cases ha:fP kk with
 |true=>
  rw[if_pos ha]at hz;obtain⟨r,hr,Ga⟩:=hz;obtain⟨ti,z,h1,_,_,h4,_⟩:=T.row_ok _ _ hr
  have Pe:(loadCells ⟨b,off,none⟩ cs.length).run P w= .ok cs.toArray w:=
   run_loadCells_list (P:=P) w ⟨b,off,none⟩ cs (fun j v hv=>by rw[bM];exact hc j v hv)
  refine⟨.agg cs.toArray,?_,cs,hh,rfl,by simp⟩
  have iz:ti.size=cs.length:=by omega
  simp[loadVar,Y6,dn si,rI.trans ha,sizeOf,typeInfo,h1,iz,Pe]
 |false=>
  rw[if_neg (by simp[ha])]at hz
  obtain⟨v,rfl⟩:∃v,cs=[v]:=by
   match cs,hl.trans hz with
   |[v],_=>exact⟨v,rfl⟩
  refine⟨v,?_,[v],hh,rfl,fun _=>rfl⟩;have:=hc 0 v rfl;simp only[ZD]at this;simp[loadVar,Y6,dn si,rI.trans ha,this,go_sem]
theorem yR(T:aI P){ah:List (Nat×ag)}{objs:List (Nat×(Nat×Th))}{t:Nat}{T0:TypeId}{D:ag}(h:uL T ah objs t T0=some D)(eD:∀t d,find ah t=some d->af H F w d (ρ t))(hs:ak U H F w (find objs) n):
 ∃a v,ρ t= .pointer (some a)/\(loadVar T0 a).run P w= .ok v w/\af H F w D v:=by
 unfold uL at h;split at h
 .cases h
 rename_i kk hu;split at h
 case h_2=>cases h
 rename_i o p off hD;split at h
 case h_2=>cases h
 rename_i s0 T1 tr bJ;split at h
 case h_2=>cases h
 rename_i s cF hg;obtain⟨h1,rfl⟩:=nE h;obtain⟨h1,h3⟩:=bE h1;obtain rfl:=beq_true h1;obtain⟨b,hb,e⟩:=eD _ _ hD;obtain⟨es,hh,Ic⟩:=hs.box bJ hb;obtain⟨g1,g2⟩:=Ic.get hg
 obtain⟨v,hv,iV⟩:=wR (b:=b) (off:=cF) T hu g1 (fun j u hj=>by
  rw[qv hh];rw[Y0]at hj;split at hj
  .rwa [YR]at hj
  .cases hj) (fE T h3)
 exact⟨_,v,e,hv,iV⟩
def He(tmps:Array Value):ResultVar->Sem Value
 | .tmp t=>pure (tmps.getD t undef)
 | .cell a t=>do loadVar t (<-asAddr (tmps.getD a undef))
theorem uN(T:aI P){ah:List (Nat×ag)}{objs:List (Nat×(Nat×Th))}(eD:∀t d,find ah t=some d->af H F w d (ρ t))(hs:ak U H F w (find objs) n){tmps:Array Value}(hf:∀t,tmps.getD t undef=ρ t):
 {rs:List ResultVar}->{ds:List ag}->uM T ah objs rs=some ds->∃vs:List Value,(rs.mapM (He tmps)).run P w= .ok vs w/\du H F w ds vs
 |[],ds,h=>by obtain rfl:=YA h;exact⟨[],by simp,rfl⟩
 | .tmp t::l,ds,h=>by
   unfold uM at h;split at h
   case h_2=>cases h
   rename_i d hd;split at h
   case h_2=>cases h
   rename_i NK p6;obtain rfl:=YA h;obtain⟨vs,h1,h2⟩:=uN T eD hs hf p6;refine⟨ρ t::vs,?_,ρ t,vs,rfl,eD t d hd,h2⟩
   have hm:(He tmps (.tmp t)).run P w= .ok (ρ t) w:=by rw[<-hf t];rfl
   rw[List.mapM_cons];simp only[Y6,hm,Sem.run_pure,Zh,h1]
 | .cell t T0::l,ds,h=>by
   unfold uM at h;split at h
   case h_2=>cases h
   rename_i d hd;split at h
   case h_2=>cases h
   rename_i NK p6;obtain rfl:=YA h;obtain⟨vs,h1,h2⟩:=uN T eD hs hf p6;obtain⟨a,v,e1,e2,e3⟩:=yR T hd eD hs;refine⟨v::vs,?_,v,vs,rfl,e3,h2⟩;have ha:(asAddr (.pointer (some a))).run P w= .ok a w:=rfl
   have hm:(He tmps (.cell t T0)).run P w= .ok v w:=by
    show(asAddr (tmps.getD t undef)>>= fun b=>loadVar T0 b).run P w=_
    rw[hf t,e1,Y6,ha,Zh,e2]
   rw[List.mapM_cons];simp only[Y6,hm,Sem.run_pure,Zh,h1]
theorem yS(T:aI P){fn:Func}{rs:List ResultVar}(Ga:fn.results.toList=rs){ah:List (Nat×ag)}{objs:List (Nat×(Nat×Th))}(eD:∀t d,find ah t=some d->af H F w d (ρ t))(hs:ak U H F w (find objs) n){tmps:Array Value}(hf:∀t,tmps.getD t undef=ρ t)
 {ds:List ag}(h:uM T ah objs rs=some ds):∃vs:List Value,(results fn tmps).run P w= .ok (rR vs) w/\du H F w ds vs:=by
 obtain⟨vs,h1,h2⟩:=uN T eD hs hf h;refine⟨vs,?_,h2⟩;have e:fn.results=rs.toArray:=cG Ga;have er:results fn tmps=(fn.results.mapM (He tmps)>>= fun vs=>pure (if h:vs.size=1 then vs[0]else Value.tuple vs)):=rfl;rw[er,e,List.mapM_toArray]
 have:∀vs:List Value,(if h:vs.toArray.size=1 then vs.toArray[0]else Value.tuple vs.toArray)=rR vs:=by
  intro vs
  match vs with
  |[]=>rfl
  |[v]=>rfl
  |a::b::l=>simp[rR]
 simp only[Y6,Sem.run_map,h1,Zh,Sem.run_pure,this]
theorem Ao:{l:List (Nat×SS)}->{vs:List fQ}->{k t:Nat}->{d:ag}->oN k l=true->find (b7 l vs).1 t=some d->t<k+l.length
 |[],_,_,_,_,_,h=>by cases h
 |(t0,s)::l,vs,k,t,d,hi,h=>by
  obtain⟨h1,h2⟩:=bE hi;have h':find ((t0,(c7 s vs).1)::(b7 l (c7 s vs).2).1) t=some d:=h;rw[aw]at h';have:=beq_true h1;rw[YT];split at h'
  .omega
  .have:=Ao h2 h';omega
def L4(P:Program)(nt:Nat)(c:Code)(run:{R:Type}->State->(Ex->State->Option R)->Option R):Prop:=
 ∀{R:Type}{q:R}{st:State}{k:Ex->State->Option R}{H:aj}{F:Nat->Prop}{w:World}{ρ:Nat->Value}{G:Nat->Prop}{w0:World}{F0:Nat->Prop}{Q:Exit->(Nat->Value)->World->Prop},
  run st k=some q->bR G w0 F0 H F w ρ st->(∀e cg H' F' w' bT,k e cg=some q->Js G w0 F0 (writes c) H F w ρ H' F' w' bT cg->Q e.pq bT w')->pU P nt c Q ρ w
theorem Ju{E:Env P}{f:FuncId}{fn:Func}{c:Code}{rs:List ResultVar}{sg:bU}{run:{R:Type}->State->(Ex->State->Option R)->Option R}(hW:L4 P fn.ntmps c run)(hf:P.funcs[f]? =some fn)(hn:(fn.name== "runtime.NumGoroutine")=false)(hb:fn.body=some c)(Ga:fn.results.toList=rs)
 (kl:oN 0 sg.inn.ah=true)(hlen:Nat.ble sg.inn.ah.length fn.ntmps=true)(tQ:YE rs.length sg.out.ah.length=true)
 (BU:∀x,sg.fn x=run (init sg.inn x) (L2 E.T rs sg.inn.nxt sg.out)):aL P f sg:=by
 refine⟨⟨fn,hf,hn,by rw[hb];rfl⟩,fun x y mM args w H F G zF eD bJ di hG=>?_⟩
 have hlen:sg.inn.ah.length<=fn.ntmps:=by simpa using hlen
 have tQ:=beq_true tQ
 refine(tN (R:=fun v w'=>∃vs,v=rR vs/\vs.length=sg.out.ah.length/\∃H' F',Ext G w w'/\H.le H'/\(∀b,F b->F' b)/\(∀b,F' b->F b\/w.heap.size<=b\/G b)/\
  (∀t d,find (b7 sg.out.ah (ct _ y)).1 t=some d->af H' F' w' d (vs.getD t undef))/\
  ak (fun k=>w.heap.size<=k\/G k) H' F' w' (find (ef sg.inn.nxt sg.out.objs (b7 sg.out.ah (ct _ y)).2)) sg.out.nxt/\eI H' sg.out.nxt) hf hb (by omega) fun ρ Im=>?_).mono fun e w' ⟨v,he,vs,hv,h1,h2⟩=>⟨vs,by rw[he,hv],h1,h2⟩
 have PG:∀t,t<args.length->ρ t=args.getD t undef:=fun t ht=>by
  rw[Im t _ (YF ht)];simp[List.getD,ht]
 have keys:∀t d,find (b7 sg.inn.ah (ct sg.inn.rows x)).1 t=some d->af H F w d (ρ t):=fun t d hd=>by
  rw[PG t (by have:=Ao kl hd;omega)];exact eD t d hd
 have hh:bR G w F H F w ρ (init sg.inn x):=⟨⟨keys,bJ,di⟩,⟨⟨rfl,⟨rfl,YD _⟩,rfl,YD _,fun _ _ _=>rfl⟩,fun _ h=>h,fun _ h=> .inl h⟩⟩
 refine hW ((BU x).symm.trans mM) hh fun e cg H' F' w' bT h1 h2=>?_
 have main:Jt E.T rs sg.inn.nxt sg.out cg=some y->∀act,Fr fn.ntmps act bT->∃v,(results fn act.tmps).run P w'= .ok v w'/\∃vs,v=rR vs/\vs.length=sg.out.ah.length/\∃H' F',Ext G w w'/\H.le H'/\(∀b,F b->F' b)/\(∀b,F' b->F b\/w.heap.size<=b\/G b)/\
  (∀t d,find (b7 sg.out.ah (ct _ y)).1 t=some d->af H' F' w' d (vs.getD t undef))/\
  ak (fun k=>w.heap.size<=k\/G k) H' F' w' (find (ef sg.inn.nxt sg.out.objs (b7 sg.out.ah (ct _ y)).2)) sg.out.nxt/\eI H' sg.out.nxt:=by
  intro hr act tR;unfold Jt at hr;split at hr
  case h_2=>cases hr
  rename_i ds p6;obtain⟨vs,g1,g2⟩:=yS E.T Ga h2.here.sat.slot h2.here.sat.ob tR.get p6;have Ya:=fR g2;refine⟨_,g1,vs,rfl,?_,?_⟩
  .have:∀{rs:List ResultVar}{ds:List ag},uM E.T cg.ah cg.objs rs=some ds->ds.length=rs.length:=by
    intro rs
    induction rs with
    |nil=>intro ds h;obtain rfl:=YA h;rfl
    |cons r l ih=>
     intro ds h
     cases r<;>unfold uM at h<;>split at h<;>try cases h
     all_goals
      split at h
      case h_2=>cases h
      rename_i NK PH;obtain rfl:=YA h;simp[ih PH]
   have:=this p6;omega
  .have G0:ak (UU G w) H F w (find (del [] [])) sg.inn.nxt:=⟨fun _ _ _ h=>(by cases h),fun _ _ _ _ _ _ _ _ _ h=>(by cases h),bJ.fresh,bJ.lt,bJ.new,bJ.gl⟩
   obtain⟨H4,F4,h4,k4⟩:=h2.here.kP;obtain⟨st1,H3,F3,hr,h3,k3⟩:=bR.uK (ρ:=fun t=>vs.getD t undef) (st:={ah:=eK 0 ds,objs:=(kP cg).objs,nxt:=(kP cg).nxt}) sg.out.ah ⟨⟨fun t d hd=>af.keep k4.dU k4.step (by simpa using(lg g2 t d hd).2),h4.sat.ob,h4.sat.all⟩,h4.glob⟩ hr;split at hr
   case h_2=>cases hr
   rename_i _ z rest hp;obtain⟨bs,aA⟩:=rest;obtain rfl:=YA hr;obtain⟨F2,H2,a1,a2,a3,_,a5,_,a6,a7,a8⟩:=qT (U':=UU G w) (ns:=[]) (objs0:=[]) (ρ:=fun t=>vs.getD t undef) hp G0 di ((h2.keeps.trans k4).trans k3) h3.sat.ob (fun t d hd=>h3.sat.slot t d hd)
   have pM:=a8 h3.sat.ob.new (fun o s t v k _ m2 m3 m4=>by
    obtain⟨v',cQ,bH⟩:=a1.obj _ _ _ m2;rw[m3]at cQ;obtain rfl:=YA cQ
    exact bH.use k m4) (fun _ _ _ _ _ h=>by cases h)
   rw[show del [] ([]:List (Nat×(Nat×Th)))=[]from rfl,List.append_nil]at pM;refine⟨H2,F2,h3.glob.ext,a5,fun b hb=>a2 b (h3.glob.le b hb),fun b hb=>?_,a7,pM,a6⟩
   rcases a3 b hb with m1|m1
   .exact h3.glob.new b m1
   .exact .inr (h3.sat.ob.dG b m1)
 cases e with
 |normal=>exact main h1
 |ret=>exact main h1
 |exit id=>cases h1
 |goto l=>cases h1
theorem L5{E:Env P}{f:FuncId}{fn:Func}{c:Code}{rs:List ResultVar}{N:Nat}{a:tf}{sg:bU}(hf:P.funcs[f]? =some fn)(hn:(fn.name== "runtime.NumGoroutine")=false)(hb:fn.body=some c)(Ga:fn.results.toList=rs)
 (kl:oN 0 sg.inn.ah=true)(hlen:Nat.ble sg.inn.ah.length fn.ntmps=true)(tQ:YE rs.length sg.out.ah.length=true)
 (BU:∀x,sg.fn x=L3 E fn.ntmps N c rs a sg.inn sg.out x):aL P f sg:=
 Ju (E:=E) (run:=fun st k=>exec E fn.ntmps N c a st k) (fun h hh hk=>eV c h hh hk) hf hn hb Ga kl hlen tQ BU
structure CT(P:Program)where
 f:Nat
 sg:bU
 ok:aL P f sg
def ck{P:Program}{f:Nat}{sg:bU}(h:aL P f sg):CT P:=⟨f,sg,h⟩
def CT.tab{P:Program}:List (CT P)->List (Nat×bU)
 |[]=>[]
 |c::l=>(c.f,c.sg)::CT.tab l
theorem CT.EN{P:Program}:{l:List (CT P)}->∀p∈CT.tab l,aL P p.1 p.2
 |[],_,h=>by cases h
 |c::l,p,h=>by
  rcases YM.1 h with rfl|h
  .exact c.ok
  .exact CT.EN p h
def SL(fn:Func)(sg:bU):Bool:= !(fn.name== "runtime.NumGoroutine")&&fn.body.isSome&&oN 0 sg.inn.ah&&Nat.ble sg.inn.ah.length fn.ntmps&&YE fn.results.toList.length sg.out.ah.length
theorem fw(E:Env P){f:FuncId}{fn:Func}{N:Nat}{sg:bU}(a:tf)(hf:P.funcs[f]? =some fn)(hc:SL fn sg=true)
 (BU:∀x,sg.fn x=L3 E fn.ntmps N (fn.body.getD .skip) fn.results.toList a sg.inn sg.out x):aL P f sg:=by
 unfold SL at hc;simp only[Zr,Bool.not_eq_true']at hc;obtain⟨⟨⟨⟨h1,h2⟩,h3⟩,h4⟩,h5⟩:=hc;obtain⟨c,hc⟩:=Zg.1 h2;exact L5 (E:=E) (N:=N) (a:=a) hf h1 (by rw[hc];rfl) rfl h3 h4 h5 BU
@[reducible] def SS.l(r:Row):SS:= .val false (.leaf r)
@[reducible] def SS.g(r:Row):SS:= .val true (.leaf r)
abbrev ae:Row:= .int .i64
end
end Go.Proofs.YtbladfbbhijpmaaGreat
end
section
open _root_.Nat renaming le_refl->YD
open _root_.Option.some renaming inj->YA
namespace Go.Proofs.YtbladfbbhijpmaaGreat
open Go Go.RowKit
inductive yT(F:Nat->Prop)(w:World):Nat->List (Nat×SS)->List fQ->List Value->Prop where
 |nil {k:Nat}:yT F w k [] [] []
 |cons {k:Nat} {agg:Bool} {r:Row} {x:r.den} {v:Value} {ss:List (Nat×SS)} {ds:List fQ} {vs:List Value} (h:au ⟨fun _=>none,fun _=>none,fun _ _=>False⟩ F w agg (.leaf r x) v) (hs:yT F w (k+1) ss ds vs):yT F w k ((k, .val agg (.leaf r))::ss) (⟨r,x⟩::ds) (v::vs)
theorem yT.ah{F:Nat->Prop}{w:World}{k:Nat}{ss:List (Nat×SS)}{ds:List fQ}{vs:List Value}(h:yT F w k ss ds vs):(∀t d,find (b7 ss ds).1 t=some d->k<=t/\af ⟨fun _=>none,fun _=>none,fun _ _=>False⟩ F w d (vs.getD (t-k) undef))/\(b7 ss ds).2=[]/\vs.length=ss.length:=by
 induction h with
 |nil=>exact⟨fun _ _ h=>(by cases h),rfl,rfl⟩
 | @cons k agg r x v ss ds vs h hs ih=>
   refine⟨fun t d hf=>?_,ih.2.1,by simp[ih.2.2]⟩;have mr:find ((k,ag.val agg (bif r.beq r then Tree.leaf r x else .nil))::(b7 ss ds).1) t=some d:=hf;rw[aw]at mr;split at mr
   .rename_i e;subst e;obtain rfl:=YA mr;rw[Row.beq_refl,Nat.sub_self];exact⟨YD _,h⟩
   .obtain⟨h1,h2⟩:=ih.1 t d mr;refine⟨by omega,?_⟩;rw[show t-k=(t-(k+1))+1 from by omega];simpa using h2
theorem EO(F:Nat->Prop)(w:World)(k:IntKind)(x:Int):au ⟨fun _=>none,fun _=>none,fun _ _=>False⟩ F w false (.leaf (.int k) x) (.int k x):=au.jd rfl
theorem pu{F:Nat->Prop}{w:World}{r:Row}{x:r.den}{es:List Value}(h:bF F w r es x):au ⟨fun _=>none,fun _=>none,fun _ _=>False⟩ F w true (.leaf r x) (.agg es.toArray):=⟨es,h,rfl,by simp⟩
theorem Ch{P:Program}{f:FuncId}{inn:JS}{fn:cx inn.rows->Option Bool}(h:aL P f ⟨inn,⟨[(0, .val false (.leaf .bool))],[],[],0⟩,fn⟩){x:cx inn.rows}{y:Bool}(hy:fn x=some y){ds:List fQ}(p6:ct inn.rows x=ds){W:World}{vs:List Value}
 (ha:yT (fun b=>b<W.heap.size) W 0 inn.ah ds vs)(ho:inn.objs=[])(Jv:mN (fun b=>b<W.heap.size) W):Calls P f vs.toArray W fun e W'=>e= .returned (.bool y)/\Below W.heap.size W W':=by
 obtain⟨h1,h2,h3⟩:=ha.ah;subst p6
 refine(h.ok x y hy vs W ⟨fun _=>none,fun _=>none,fun _ _=>False⟩ (fun b=>b<W.heap.size) (fun _=>False) h3 (fun t d hd=>by simpa using(h1 t d hd).2) ?_ (fun _ _=>⟨rfl,rfl⟩) (fun _ h=>h.elim)).mono fun e W' ⟨us,he,Ep,H',F',a1,_,_,_,a5,_⟩=>?_
 .show ak _ _ _ W (find (ef 0 inn.objs _)) inn.nxt
  rw[ho];exact⟨fun _ _ _ h=>(by cases h),fun _ _ _ _ _ _ _ _ _ h=>(by cases h),fun _ _ _=>⟨rfl,rfl⟩,fun _ h=>h,fun _ h=> .inl h,Jv⟩
 .refine⟨?_,⟨a1.os,a1.tape.1,a1.output,a1.size,fun k hk=>a1.block k hk (fun h=>h)⟩⟩
  match us,Ep with
  |[u],_=>
   have:=a5 0 (cJ y) rfl;have hu:u= .bool y:=au.bool (x:=y) this;rw[he,hu];rfl
end Go.Proofs.YtbladfbbhijpmaaGreat
end
section
namespace Go.Proofs.YtbladfbbhijpmaaGreat
open Go Go.RowKit
section
variable {P:Program} {nt N:Nat} {R:Type}
variable {ρ:Nat->Value} {w w0:World} {H:aj} {F F0 G:Nat->Prop}
end
end Go.Proofs.YtbladfbbhijpmaaGreat
end
section
open _root_.Array renaming getElem?_append_left->Z9,getElem?_eq_some_iff->Zb
open _root_.Go.Lib renaming compact->ZB
open _root_.Go.Sort renaming ahead->Zz,grow->ZE,mapBlock->ZN,putCells->Zs,putRow->Zt
open _root_.List.cons renaming injEq->ZM
open _root_.List renaming drop_eq_getElem_cons->Zd,getElem?_drop->YR,getElem?_take->Y0,length_append->YV,replicate->Y4,take_length->YS
open _root_.Nat renaming beq->YE,eq_of_beq_eq_true->Zo,le_refl->YD,le_trans->Y3,lt_of_lt_of_le->Y8,min_eq_left->ZF
open _root_.Option.some renaming inj->YA
open _root_.Go.Value renaming int->Zv,ownBlock->Y9
namespace Go.Proofs.YtbladfbbhijpmaaGreat
open Go Go.RowKit
def mD(l:List Int):List Int:=l.mergeSort fun x y=>decide (x<=y)
section
variable {P:Program} {w w':World} {F:Nat->Prop} {T:TypeId}
theorem EP(w:World):ZE w #[]=w:=by
 unfold ZE;rw[Array.append_empty]
theorem Ap{g off:Nat}{d:Array Int}{n:Nat}{os:Array Obj}(h:w'=ZE (Zt (Zv .i64) (Zz w n) g off d) os):Ext (fun k=>k=g) w w':=by
 subst h;refine⟨rfl,⟨rfl,Nat.le_add_right _ _⟩,rfl,?_,fun k hk hn=>?_⟩
 .simp[ZE,Zt,ZN,Zz]
 .simp only[ZE];rw[Z9 (by simpa[Zt,ZN,Zz]using hk)];simp only[Zt,ZN,Zz,Array.getElem?_modify];rw[if_neg (fun e=>hn e.symm)]
theorem Hf{g off:Nat}{d:Array Int}{n:Nat}{os:Array Obj}(h:w'=ZE (Zt (Zv .i64) (Zz w n) g off d) os){cur:Array Value}(hg:w.heap[g]? =some (.cells cur T (0,0))):
 w'.heap[g]? =some (.cells (Zs (Zv .i64) off d cur) T (0,0)):=by
 subst h;have av:g<w.heap.size:=(Zb.1 hg).1;simp only[ZE];rw[Z9 (by simpa[Zt,ZN,Zz]using av)];simp only[Zt,ZN,Zz,Array.getElem?_modify];rw[if_pos trivial,hg];rfl
theorem yU{l:List Int}{xs:List Value}(hx:xs.length=l.length*1)(h:∀i(hi:i<l.length),bF F w ae ((xs.drop (i*1)).take 1) l[i]):xs=l.map (Zv .i64):=by
 apply List.ext_getElem (by simpa using hx);intro i h1 h2
 have hi:i<l.length:=by simpa using h2
 have:(xs.drop (i*1)).take 1=[Zv .i64 l[i]]:=h i hi;rw[Nat.mul_one,Zd h1,List.take_succ_cons,List.take_zero]at this;simpa only[List.getElem_map,ZM,and_true]using this
theorem Ci{off:Nat}{d:Array Int}{cur:Array Value}(h:off+d.size<=cur.size):((Zs (Zv .i64) off d cur).toList.drop off).take d.size=d.toList.map (Zv .i64):=by
 apply List.ext_getElem (by simp[Zs];omega);intro i h1 h2
 have hi:i<d.size:=by simpa using h2
 rw[List.getElem_take,List.getElem_drop,List.getElem_map,Array.getElem_toList,Array.getElem_toList];simp only[Zs,Array.getElem_mapIdx];rw[if_pos ⟨by omega,by omega⟩,show off+i-off=i by omega,getElem!_pos d i hi]
theorem tg{v:Value}{l:List Int}(h:fa 0 F w T ae v l):(v= .slice none 0 0/\l=[])\/∃g o0 cap cur,v= .slice (some ⟨g,o0,none⟩) l.length cap/\w.heap[g]? =some (.cells cur T (0,0))/\l.length<=cap/\cap<=maxLen/\o0+cap<=cur.size/\Go.Sort.Holds (Zv .i64) w g o0 l.toArray:=by
 obtain⟨_,xs,⟨hx,h2⟩,h3⟩:=h;have e:=yU hx h3
 rcases h2 with⟨rfl,h0⟩|⟨g,o0,cap,cur,rfl,_,hg,h4,h5,h6,h7⟩
 .exact .inl ⟨rfl,List.eq_nil_of_length_eq_zero h0⟩
 .refine .inr ⟨g,o0,cap,cur,rfl,hg,h4,h5,by simpa[Row.size]using h6,fun j hj=>⟨?_,frozen_of_row w g _ cur T hg⟩⟩
  have hj:j<l.length:=by simpa using hj
  rw[cell_of_row w g _ cur T (0,0) hg]
  have:xs[j]? =some (Zv .i64 l[j]):=by rw[e];simp[hj]
  rw[<-h7,Y0]at this;split at this
  .rw[YR]at this;rw[getElem!_pos l.toArray j (by simpa using hj)];simpa using this
  .cases this
theorem wS{g o0 cap:Nat}{l d:List Int}{cur:Array Value}{n:Nat}{os:Array Obj}(h:fa 0 F w T ae (.slice (some ⟨g,o0,none⟩) l.length cap) l)(hg:w.heap[g]? =some (.cells cur T (0,0)))(hs:o0+cap<=cur.size)(hc:cap<=maxLen)
 (hl:d.length<=cap)(m:Nat)(hm:m<=d.length)(hw:w'=ZE (Zt (Zv .i64) (Zz w n) g o0 d.toArray) os):fa 0 F w' T ae (.slice (some ⟨g,o0,none⟩) m cap) (d.take m):=by
 have Jw:=Hf hw hg;have hp:=Ci (off:=o0) (d:=d.toArray) (cur:=cur) (by simp;omega);refine⟨fun k hk=>h.no k (by simpa[aS,Y9]using hk),(d.take m).map (Zv .i64),⟨by simp[Row.size], .inr ⟨g,o0,cap,_,by simp[ZF hm],Nat.zero_le _,Jw,by simp;omega,hc,by simp[Zs,Row.size];omega,?_⟩⟩,fun i hi=>?_⟩
 .have:((Zs (Zv .i64) o0 d.toArray cur).toList.drop o0).take m=(d.take m).map (Zv .i64):=by
   rw[show m=min m d.toArray.size by simp[ZF hm],<-List.take_take,hp,List.map_take];simp[ZF hm]
  simpa[Row.size,ZF hm]using this
 .have gH:i<d.length:=by simp at hi;omega
  show((List.map (Zv .i64) (d.take m)).drop (i*1)).take 1=[Zv .i64 (d.take m)[i]]
  rw[Nat.mul_one,Zd (by simpa using hi)];simp
theorem ln(d:Array Int):∀m,(Go.Lib.compactUpTo d m).length<=m
 |0=>by simp[Go.Lib.compactUpTo]
 |m+1=>by
  have:=ln d m;rw[Go.Lib.compactUpTo_succ,YV]
  split<;>simp<;>omega
theorem rf(l:List Int):(ZB l).length<=l.length:=ln _ _
theorem iL{α:Type}{k o:Nat}{x:α}(h:o≠k):find [(k,x)] o=none:=by
 have:YE k o=false:=by
  cases hb:YE k o with
  |false=>rfl
  |true=>exact absurd (Zo hb).symm h
 simp[find,this]
theorem yV{f:FuncId}{r:Row}{fn:List r.den->Option (List r.den)}(hb:∃fn,P.funcs[f]? =some fn/\(fn.name== "runtime.NumGoroutine")=false/\fn.body.isNone=false)
 (hr:r.beq r=true)
 (hc:∀{F:Nat->Prop}{w:World}{v:Value}{l m:List r.den},fn l=some m->fa 0 F w T r v l->(∀b,F b->b<w.heap.size)->Calls P f #[v] w fun e w'=>e= .returned (.tuple #[])/\Ext (aS v) w w'/\fa 0 F w' T r v m):
 aL P f ⟨⟨[(0, .val false (.own 0))],[(0, .own T r)],[],1⟩,⟨[],[(0, .own T r)],[],2⟩,fn⟩:=by
 refine⟨hb,fun x y mM args w H F G hlen eD bJ di hG=>?_⟩;have di:eI H 1:=di
 match args,hlen with
 |[v],_=>
 have hx:(ef 0 [(0,OS.own T r)] (b7 [(0,SS.val false (.own 0))] (ct [.slice r] x)).2)=[(0,(0, .own T r x))]:=by
  show[(0,(0,(bW (.own T r) [⟨.slice r,x⟩]).1))]=_
  simp only[bW,hr,cond_true]
 have hy:(ef 1 [(0,OS.own T r)] (b7 [] (ct [.slice r] y)).2)=[(0,(1, .own T r y))]:=by
  show[(0,(1,(bW (.own T r) [⟨.slice r,y⟩]).1))]=_
  simp only[bW,hr,cond_true]
 have bJ:ak (fun k=>w.heap.size<=k\/G k) H F w (find [(0,(0,Th.own T r x))]) 1:=by rw[<-hx];exact bJ
 have hd:af H F w (.val false (.own 0)) v:=eD 0 _ rfl;obtain⟨cs,⟨v',hv,h1,rfl⟩,_,mK⟩:=hd
 obtain rfl:v'=v:=by have:=mK rfl;simpa using this
 have cV:=bJ.own rfl hv;obtain⟨v2,jw,bH⟩:=bJ.obj 0 0 _ rfl;rw[hv]at jw;obtain rfl:=YA jw
 refine(hc mM cV bJ.lt).mono fun e w' ⟨he,aY,ed⟩=>⟨[],he,rfl,H.aP 1 (.own T r y),F,⟨aY.os,aY.tape,aY.output,aY.size,fun k hk hn=>aY.block k hk fun hm=>?_⟩,aj.dH (di 1 (YD _)).2,fun b h=>h,fun b h=> .inl h,fun t d h=>?_,?_,?_⟩
 .rcases bH.use k hm with h|h
  .omega
  .exact hn h
 .cases h
 .show ak _ _ F w' (find (ef 1 [(0,OS.own T r)] (b7 [] (ct [.slice r] y)).2)) 2
  rw[hy];refine⟨fun o s t ho=>?_,fun o o' s s' t t' u u' b8 ho gm=>?_,fun m h1 h2=>⟨(di m (by have:2<=m:=h1;omega)).1,?_⟩,fun b hb=>Y8 (bJ.lt b hb) aY.size,fun b hb=> .inl (Y3 aY.size hb),bJ.gl.step (Step.ext aY bJ.lt cV.no)⟩
  .obtain⟨rfl,h⟩:o=0/\(1,Th.own T r y)=(s,t):=by
    by_cases h0:o=0
    .subst h0;exact⟨rfl,YA ho⟩
    .exfalso;have:find [(0,(1,Th.own T r y))] o=none:=iL h0;rw[this]at ho;cases ho
   cases h;refine⟨v',hv,h1,by simp[aj.aP,Th.base],fa.to _ ed,ed.no,ed.lt,fun k hk=>?_⟩;exact bH.use k hk
  .have key:∀o x,find [(0,(1,Th.own T r y))] o=some x->o=0:=fun o x h=>by
    by_cases h0:o=0
    .exact h0
    .have:find [(0,(1,Th.own T r y))] o=none:=iL h0;rw[this]at h;cases h
   exact absurd ((key o _ ho).trans (key o' _ gm).symm) b8
  .have h1:2<=m:=h1
   show(if m=1 then _ else H.con m)=none
   rw[if_neg (by omega)];exact(di m (by omega)).2
 .intro m hm;have hm:2<=m:=hm;refine⟨(di m (by omega)).1,?_⟩
  show(if m=1 then _ else H.con m)=none
  rw[if_neg (by omega)];exact(di m (by omega)).2
theorem Cj{f:FuncId}{r:Row}{fn:List r.den->Option (List r.den)}(hb:∃fn,P.funcs[f]? =some fn/\(fn.name== "runtime.NumGoroutine")=false/\fn.body.isNone=false)
 (hr:r.beq r=true)
 (hc:∀{F:Nat->Prop}{w:World}{v:Value}{l m:List r.den},fn l=some m->fa 0 F w T r v l->(∀b,F b->b<w.heap.size)->Calls P f #[v] w fun e w'=>∃v',e= .returned v'/\Ext (aS v) w w'/\fa 0 F w' T r v' m/\∀k,aS v' k->aS v k):
 aL P f ⟨⟨[(0, .val false (.own 0))],[(0, .own T r)],[],1⟩,⟨[(0, .val false (.own 1))],[(1, .own T r)],[],2⟩,fn⟩:=by
 refine⟨hb,fun x y mM args w H F G hlen eD bJ di hG=>?_⟩;have di:eI H 1:=di
 match args,hlen with
 |[v],_=>
 have hx:(ef 0 [(0,OS.own T r)] (b7 [(0,SS.val false (.own 0))] (ct [.slice r] x)).2)=[(0,(0, .own T r x))]:=by
  show[(0,(0,(bW (.own T r) [⟨.slice r,x⟩]).1))]=_
  simp only[bW,hr,cond_true]
 have hy:(ef 1 [(1,OS.own T r)] (b7 [(0,SS.val false (.own 1))] (ct [.slice r] y)).2)=[(1,(1, .own T r y))]:=by
  show[(1,(1,(bW (.own T r) [⟨.slice r,y⟩]).1))]=_
  simp only[bW,hr,cond_true]
 have bJ:ak (fun k=>w.heap.size<=k\/G k) H F w (find [(0,(0,Th.own T r x))]) 1:=by rw[<-hx];exact bJ
 have hd:af H F w (.val false (.own 0)) v:=eD 0 _ rfl;obtain⟨cs,⟨v',hv,h1,rfl⟩,_,mK⟩:=hd
 obtain rfl:v'=v:=by have:=mK rfl;simpa using this
 have cV:=bJ.own rfl hv;obtain⟨v2,jw,bH⟩:=bJ.obj 0 0 _ rfl;rw[hv]at jw;obtain rfl:=YA jw;have tR:=di 1 (YD _)
 refine(hc mM cV bJ.lt).mono fun e w' ⟨v3,he,aY,ed,D8⟩=>?_
 have SM:v3.oneCell'=true:=(gJ.one ed.2)
 have hle:H.le ((H.aP 1 (.own T r y)).bL 1 v3):=⟨fun o u h=>by
  show(if o=1 then some v3 else H.val o)=some u
  rw[if_neg (fun e=>by rw[e,tR.1]at h;cases h)]
  exact h,(aj.dH (t:= .own T r y) tR.2).con,(aj.dH (t:= .own T r y) tR.2).sub⟩
 refine⟨[v3],he,rfl,(H.aP 1 (.own T r y)).bL 1 v3,F,⟨aY.os,aY.tape,aY.output,aY.size,fun k hk hn=>aY.block k hk fun hm=>?_⟩,hle,fun b h=>h,fun b h=> .inl h,fun t d h=>?_,?_,?_⟩
 .rcases bH.use k hm with h|h
  .omega
  .exact hn h
 .have ht:t=0/\d= .val false (.own 1):=by
   have h:find [(0,ag.val false (.own 1))] t=some d:=h;by_cases h0:t=0
   .subst h0;exact⟨rfl,(YA h).symm⟩
   .have e:find [(0,ag.val false (.own 1))] t=none:=iL h0;rw[e]at h;cases h
  obtain⟨rfl,rfl⟩:=ht;exact⟨[v3],⟨v3,by simp[aj.bL],SM,rfl⟩,rfl,fun _=>rfl⟩
 .show ak _ _ F w' (find (ef 1 [(1,OS.own T r)] (b7 [(0,SS.val false (.own 1))] (ct [.slice r] y)).2)) 2
  rw[hy]
  have key:∀o x,find [(1,(1,Th.own T r y))] o=some x->o=1/\x=(1,Th.own T r y):=fun o x h=>by
   by_cases h0:o=1
   .subst h0;exact⟨rfl,(YA h).symm⟩
   .have:find [(1,(1,Th.own T r y))] o=none:=iL h0;rw[this]at h;cases h
  refine⟨fun o s t ho=>?_,fun o o' s s' t t' u u' b8 ho gm=>?_,fun m h1 h2=>⟨?_,?_⟩,fun b hb=>Y8 (bJ.lt b hb) aY.size,fun b hb=> .inl (Y3 aY.size hb),bJ.gl.step (Step.ext aY bJ.lt cV.no)⟩
  .obtain⟨rfl,h⟩:=key o _ ho;cases h;exact⟨v3,by simp[aj.bL],SM,by simp[aj.aP,aj.bL,Th.base],fa.to _ ed,ed.no,ed.lt,fun k hk=>bH.use k (D8 k hk)⟩
  .exact absurd ((key o _ ho).1.trans (key o' _ gm).1.symm) b8
  .have h1:2<=m:=h1
   show(if m=1 then _ else H.val m)=none
   rw[if_neg (by omega)];exact(di m (by omega)).1
  .have h1:2<=m:=h1
   show(if m=1 then _ else H.con m)=none
   rw[if_neg (by omega)];exact(di m (by omega)).2
 .intro m hm;have hm:2<=m:=hm;refine⟨?_,?_⟩
  .show(if m=1 then _ else H.val m)=none
   rw[if_neg (by omega)];exact(di m (by omega)).1
  .show(if m=1 then _ else H.con m)=none
   rw[if_neg (by omega)];exact(di m (by omega)).2
def wT(l:List Int):Option (List Int):=if l.length<4611686018427387904 then some (mD l)else none
theorem Hg{f:FuncId}(hb:∃fn,P.funcs[f]? =some fn/\(fn.name== "runtime.NumGoroutine")=false/\fn.body.isNone=false)
 (h1:∀(jE off cap:Nat)(zs:List Int)(w:World),Go.Sort.Holds (Zv .i64) w jE off zs.toArray->jE<w.heap.size->zs.length<4611686018427387904->
   Calls P f #[.slice (some ⟨jE,off,none⟩) zs.length cap] w fun e w'=>e= .returned (.tuple #[])/\∃n os,w'=ZE (Zt (Zv .i64) (Zz w n) jE off (zs.mergeSort fun x y=>decide (x<=y)).toArray) os)
 (h2:∀(p:Option Addr)(cap:Nat)(w:World),Calls P f #[.slice p 0 cap] w fun e w'=>e= .returned (.tuple #[])/\w'=w):
 aL P f ⟨⟨[(0, .val false (.own 0))],[(0, .own T ae)],[],1⟩,⟨[],[(0, .own T ae)],[],2⟩,fun x=>wT x⟩:=by
 refine yV (r:=ae) hb rfl fun{F w v l m}hm ho hF=>?_
 have hm:wT l=some m:=hm;unfold wT at hm;split at hm
 case isFalse=>cases hm
 rename_i hlen;obtain rfl:=YA hm
 rcases tg ho with⟨rfl,rfl⟩|⟨g,o0,cap,cur,rfl,hg,vl,DS,iz,hh⟩
 .refine(h2 none 0 w).mono fun e w' ⟨he,hw⟩=>⟨he,hw▸⟨rfl,⟨rfl,YD _⟩,rfl,YD _,fun _ _ _=>rfl⟩,hw▸?_⟩
  simpa[mD]using ho
 .refine(h1 g o0 cap l w hh (Zb.1 hg).1 hlen).mono fun e w' ⟨he,n,os,hw⟩=>⟨he,?_,?_⟩
  .have:=Ap hw;exact⟨this.os,this.tape,this.output,this.size,fun k hk hn=>this.block k hk fun e=>hn (by simp[aS,Y9,e])⟩
  .have hl:(mD l).length=l.length:=List.length_mergeSort ..;have:=wS (d:=mD l) ho hg iz DS (by omega) (mD l).length (YD _) hw;rw[YS,hl]at this;exact this
def lp(l:List Int):Option (List Int):=if l.length<=9223372036854775807 then some (ZB l)else none
theorem yW{f:FuncId}(hb:∃fn,P.funcs[f]? =some fn/\(fn.name== "runtime.NumGoroutine")=false/\fn.body.isNone=false)
 (h1:∀(jE off cap:Nat)(zs:List Int)(w:World),Go.Sort.Holds (Zv .i64) w jE off zs.toArray->zs.length<=9223372036854775807->zs.length<=cap->
   Calls P f #[.slice (some ⟨jE,off,none⟩) zs.length cap] w fun e w'=>e= .returned (.slice (some ⟨jE,off,none⟩) (ZB zs).length cap)/\∃q,w'=Zt (Zv .i64) (Zz w q) jE off (ZB zs++Y4 (zs.length-(ZB zs).length) 0).toArray)
 (h2:∀(p:Option Addr)(cap:Nat)(w:World),Calls P f #[.slice p 0 cap] w fun e w'=>e= .returned (.slice p 0 cap)/\w'=w):
 aL P f ⟨⟨[(0, .val false (.own 0))],[(0, .own T ae)],[],1⟩,⟨[(0, .val false (.own 1))],[(1, .own T ae)],[],2⟩,fun x=>lp x⟩:=by
 refine Cj (r:=ae) hb rfl fun{F w v l m}hm ho hF=>?_
 have hm:lp l=some m:=hm;unfold lp at hm;split at hm
 case isFalse=>cases hm
 rename_i hlen;obtain rfl:=YA hm
 rcases tg ho with⟨rfl,rfl⟩|⟨g,o0,cap,cur,rfl,hg,vl,DS,iz,hh⟩
 .refine(h2 none 0 w).mono fun e w' ⟨he,hw⟩=>⟨_,he,hw▸⟨rfl,⟨rfl,YD _⟩,rfl,YD _,fun _ _ _=>rfl⟩,hw▸?_,fun k hk=>hk⟩
  exact ho
 .have Gh:(ZB l).length<=l.length:=rf l
  refine(h1 g o0 cap l w hh hlen vl).mono fun e w' ⟨he,n,hw⟩=>⟨_,he,?_,?_,fun k hk=>by simpa[aS,Y9]using hk⟩
  all_goals have hw:w'=ZE (Zt (Zv .i64) (Zz w n) g o0 (ZB l++Y4 (l.length-(ZB l).length) 0).toArray) #[]:=by rw[hw,EP]
  .have:=Ap hw;exact⟨this.os,this.tape,this.output,this.size,fun k hk hn=>this.block k hk fun e=>hn (by simp[aS,Y9,e])⟩
  .have:=wS (d:=ZB l++Y4 (l.length-(ZB l).length) 0) ho hg iz DS (by simp;omega) (ZB l).length (by simp) hw;rw[List.take_left]at this;exact this
def mj(x:ByteArray×ByteArray):Option Bool:=if x.2.size=1 then some (decide (0<=Go.Lib.indexByte x.1.data.toList (x.2.data.getD 0 0)))else none
theorem wU{f:FuncId}(hb:∃fn,P.funcs[f]? =some fn/\(fn.name== "runtime.NumGoroutine")=false/\fn.body.isNone=false)
 (h1:∀(s:ByteArray)(c:UInt8)(w:World),Calls P f #[.string s, .string ⟨#[c]⟩] w fun e w'=>e= .returned (.bool (decide (0<=Go.Lib.indexByte s.data.toList c)))/\w'=w):
 aL P f ⟨⟨[(0, .val false (.leaf .str)),(1, .val false (.leaf .str))],[],[],0⟩,⟨[(0, .val false (.leaf .bool))],[],[],0⟩,fun x=>mj x⟩:=by
 refine⟨hb,fun x y mM args w H F G hlen eD bJ di hG=>?_⟩
 match args,hlen with
 |[u,v],_=>
 obtain⟨s,t⟩:=x;have mM:mj (s,t)=some y:=mM;unfold mj at mM;split at mM
 case isFalse=>cases mM
 rename_i iz;obtain rfl:=YA mM;have hu:au H F w false (.leaf .str s) u:=eD 0 _ rfl;have hv:au H F w false (.leaf .str t) v:=eD 1 _ rfl;obtain⟨cs,hc,_,h2⟩:=hu;obtain⟨mL,PI,_,rJ⟩:=hv;have hc:cs=[.string s]:=hc;have PI:mL=[.string t]:=PI
 have eu:u= .string s:=by have:=(h2 rfl).symm.trans hc;simpa using this
 have ev:v= .string t:=by have:=(rJ rfl).symm.trans PI;simpa using this
 subst eu ev
 obtain⟨⟨⟨l⟩⟩,ht⟩:∃t':ByteArray,t'=t:=⟨t,rfl⟩
 match l,ht with
 |[c],ht=>
  subst ht
  refine(h1 s c w).mono fun e w' ⟨he,hw⟩=>?_
  subst hw;refine⟨[_],he,rfl,H,F,⟨rfl,⟨rfl,YD _⟩,rfl,YD _,fun _ _ _=>rfl⟩,aj.le.refl H,fun _ h=>h,fun _ h=> .inl h,fun i d h=>?_,?_,di⟩
  .have hd:i=0/\d= .val false (.leaf .bool (decide (0<=Go.Lib.indexByte s.data.toList c))):=by
    have h:find [(0,ag.val false (.leaf .bool (decide (0<=Go.Lib.indexByte s.data.toList c))))] i=some d:=h;by_cases h0:i=0
    .subst h0;exact⟨rfl,(YA h).symm⟩
    .rw[iL h0]at h;cases h
   obtain⟨rfl,rfl⟩:=hd;exact au.jd rfl
  .exact bJ
 |[],ht=>subst ht;cases iz
 |_::_::_,ht=>subst ht;simp[ByteArray.size]at iz
end
end Go.Proofs.YtbladfbbhijpmaaGreat
end
