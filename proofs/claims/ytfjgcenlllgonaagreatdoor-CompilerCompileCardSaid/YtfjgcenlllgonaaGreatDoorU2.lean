/- Joined texts: Path Effs2 Effs3 Effs4 Effs5 Effs6 Effs8 Effs9. -/
import Derived.Test.YtfjgcenlllgonaaGreatDoorU1
import Derived.Carry
open _root_.Bool renaming false->ag,true->af,and_eq_true->apQ
open _root_.Option renaming none->ae,some->aa,isSome_iff_exists->apA
open _root_.List renaming append_assoc->ape,replicate->aoE,map_cons->aqi,take_length->ao3
open _root_.Nat renaming beq->aoL,mul_le_mul_right->aoZ,zero_le->aoR,add_mul->apl,le_refl->aoJ,min_eq_left->apC,lt_of_lt_of_le->api
open _root_.Option.some renaming inj->aoB,injEq->aoW
open _root_.Array renaming toArray_toList->apF
open _root_.Go.Instr renaming fill->aqw
open _root_.Int renaming eq_ofNat_of_zero_le->aoU,le_refl->apR,natCast_mul->apy,toNat_natCast->aoF,tdiv->aoM,tmod->aoP
open _root_.Go.Result renaming andThen_ok->apM
open _root_.Go.Sem renaming run_bind->ao9
open _root_.Go.Value renaming ownBlock->apg
open _root_.List.cons renaming injEq->ap5
open _root_.Go.Value.slice renaming injEq->aqj
namespace Go.Proofs.YtfjgcenlllgonaaGreatDoor
open Go Go.RowKit
set_option maxRecDepth 100000
set_option linter.unusedSimpArgs false
set_option linter.unusedVariables false
set_option linter.defProp false
section
def Tree.split:Tree->Option (Tree×Tree)
 | .leaf (.pair a b) x=>aa (.leaf a x.1, .leaf b x.2)
 | .pair a b=>aa (a,b)
 |_=>ae
def Tree.get:Tree->List Bool->Option (Tree×Nat)
 |t,[]=>aa (t,0)
 |t,d::p=>match t.split with
  |none=>ae
  |some (a,b)=>match d with
   |false=>Tree.get a p
   |true=>match Tree.get b p with
    |none=>ae
    |some (s,off)=>aa (s,a.size+off)
def Tree.put:Tree->List Bool->Tree->Option Tree
 |_,[],u=>aa u
 |t,d::p,u=>match t.split with
  |none=>ae
  |some (a,b)=>match d with
   |false=>match Tree.put a p u with
    |none=>ae
    |some a'=>aa (.pair a' b)
   |true=>match Tree.put b p u with
    |none=>ae
    |some b'=>aa (.pair a b')
def vG:Nat->Nat->List Bool
 |0,_=>[]
 |1,_=>[]
 |_+2,0=>[ag]
 |m+2,f+1=>af::vG (m+1) f
section
variable {H:aR} {F:Nat->Prop} {w:World}
theorem Holds.split{t a b:Tree}{cs:List Value}(hs:t.split=aa (a,b))(h:Holds H F w t cs):∃c1 c2,cs=c1++c2/\Holds H F w a c1/\Holds H F w b c2/\t.size=a.size+b.size:=by
 unfold Tree.split at hs
 split at hs<;>cases hs
 .obtain⟨c1,c2,e,h1,h2⟩:=h;exact⟨c1,c2,e,h1,h2,rfl⟩
 .obtain⟨c1,c2,e,h1,h2⟩:=h;exact⟨c1,c2,e,h1,h2,rfl⟩
theorem Holds.get:{p:List Bool}->{t s:Tree}->{off:Nat}->{cs:List Value}->t.get p=aa (s,off)->Holds H F w t cs->Holds H F w s ((cs.drop off).take s.size)/\off+s.size<=cs.length
 |[],t,s,off,cs,hg,h=>by
  obtain⟨rfl,rfl⟩:=Prod.mk.inj (aoB hg)
  grind [Holds.length]
 |d::p,t,s,off,cs,hg,h=>by
  unfold Tree.get at hg
  cases BA:t.split with
  |none=>rw[BA]at hg;cases hg
  |some ab=>
   obtain⟨a,b⟩:=ab;rw[BA]at hg;obtain⟨c1,c2,rfl,h1,h2,_⟩:=h.split BA;have XA:=h1.length
   cases d with
   |false=>
    obtain⟨g1,g2⟩:=Holds.get hg h1
    grind
   |true=>
    cases hb:b.get p with
    |none=>simp only[hb]at hg;cases hg
    |some so=>
     obtain⟨s',fI⟩:=so;simp only[hb,aoW,Prod.mk.injEq]at hg;obtain⟨rfl,rfl⟩:=hg;obtain⟨g1,g2⟩:=Holds.get hb h2
     grind [List.drop_append,List.drop_of_length_le]
theorem Holds.put{u:Tree}{vs:List Value}(hu:Holds H F w u vs):{p:List Bool}->{t s t':Tree}->{off:Nat}->{cs:List Value}->t.get p=aa (s,off)->t.put p u=aa t'->s.size=u.size->Holds H F w t cs->
 Holds H F w t' (cs.take off++vs++cs.drop (off+u.size))
 |[],t,s,t',off,cs,hg,hp,hz,h=>by
  obtain⟨rfl,rfl⟩:=Prod.mk.inj (aoB hg);obtain rfl:=aoB hp;have hl:=h.length
  grind
 |d::p,t,s,t',off,cs,hg,hp,hz,h=>by
  unfold Tree.get at hg;unfold Tree.put at hp
  cases BA:t.split with
  |none=>rw[BA]at hg;cases hg
  |some ab=>
   obtain⟨a,b⟩:=ab;rw[BA]at hg hp;obtain⟨c1,c2,rfl,h1,h2,_⟩:=h.split BA;have XA:=h1.length
   cases d with
   |false=>
    cases hq:a.put p u with
    |none=>simp only[hq]at hp;cases hp
    |some a'=>
     simp only[hq,aoW]at hp;subst hp;have h3:=Holds.put hu hg hq hz h1;have g2:=(Holds.get hg h1).2;refine⟨_,c2,?_,h3,h2⟩
     grind
   |true=>
    cases hb:b.get p with
    |none=>simp only[hb]at hg;cases hg
    |some so=>
     obtain⟨s',fI⟩:=so;simp only[hb,aoW,Prod.mk.injEq]at hg;obtain⟨rfl,rfl⟩:=hg
     cases hq:b.put p u with
     |none=>simp only[hq]at hp;cases hp
     |some b'=>
      simp only[hq,aoW]at hp;subst hp;have h3:=Holds.put hu hb hq hz h2;refine⟨c1,_,?_,h1,h3⟩
      rw[<-XA,List.take_append,List.take_of_length_le (by omega),List.drop_append,List.drop_of_length_le (by omega),show c1.length+fI-c1.length=fI from by omega,
       show c1.length+fI+u.size-c1.length=fI+u.size from by omega]
      simp[ape]
end
def Nt.beq:Nt->Nt->Bool
 | .map, .map=>af
 | .ptr, .ptr=>af
 | .func, .func=>af
 |_,_=>ag
theorem Nt.eq_of_beq{a b:Nt}(h:a.beq b=af):a=b:=by cases a<;>cases b<;>first|rfl|cases h
def Row.beq:Row->Row->Bool
 | .int k, .int k'=>decide (k=k')
 | .bool, .bool=>af
 | .str, .str=>af
 | .mI, .mI=>af
 | .nul a, .nul b=>a.beq b
 | .map a x b, .map c y d=>a.beq c&&(bif x then y else !y)&&b.beq d
 | .slice a, .slice b=>a.beq b
 | .pair a b, .pair c d=>a.beq c&&b.beq d
 |_,_=>ag
theorem Row.eq_of_beq:{r s:Row}->r.beq s=af->r=s
 | .int k, .int k',h=>by rw[ak (show decide (k=k')=af from h)]
 | .bool, .bool,_=>rfl
 | .str, .str,_=>rfl
 | .mI, .mI,_=>rfl
 | .nul a, .nul b,h=>by rw[Nt.eq_of_beq (show a.beq b=af from h)]
 | .map a x b, .map c y d,h=>by
   have h':(a.beq c&&(bif x then y else !y)&&b.beq d)=af:=h;rw[apQ,apQ]at h'
   have AS:x=y:=by cases x<;>cases y<;>simp_all
   rw[Row.eq_of_beq h'.1.1,Row.eq_of_beq h'.2,AS]
 | .slice a, .slice b,h=>by rw[Row.eq_of_beq (show a.beq b=af from h)]
 | .pair a b, .pair c d,h=>by
   have h':(a.beq c&&b.beq d)=af:=h;rw[apQ]at h';rw[Row.eq_of_beq h'.1,Row.eq_of_beq h'.2]
def lg{r s:Row}(h:r=s)(x:r.den):s.den:=h▸x
theorem Row.beq_refl:(r:Row)->r.beq r=af
 | .int k=>by simp[Row.beq]
 | .bool=>rfl
 | .str=>rfl
 | .mI=>rfl
 | .nul a=>by cases a<;>rfl
 | .map a x b=>by
   show(a.beq a&&(bif x then x else !x)&&b.beq b)=af
   rw[Row.beq_refl a,Row.beq_refl b]
   cases x<;>rfl
 | .slice a=>Row.beq_refl a
 | .pair a b=>by
   show(a.beq a&&b.beq b)=af
   rw[Row.beq_refl a,Row.beq_refl b];rfl
def DR.beq:DR->DR->Bool
 | .leaf r, .leaf s=>r.beq s
 | .sl T d, .sl T' d'=>aoL T T'&&d.beq d'
 | .pair a b, .pair c d=>a.beq c&&b.beq d
 |_,_=>ag
theorem DR.eq_of_beq:{d e:DR}->d.beq e=af->d=e
 | .leaf r, .leaf s,h=>by rw[Row.eq_of_beq (show r.beq s=af from h)]
 | .sl T d, .sl T' d',h=>by
   obtain⟨h1,h2⟩:=(apQ _ _▸(show(aoL T T'&&d.beq d')=af from h):aoL T T'=af/\d.beq d'=af)
   rw[Nat.eq_of_beq_eq_true h1,DR.eq_of_beq h2]
 | .pair a b, .pair c d,h=>by
   obtain⟨h1,h2⟩:=(apQ _ _▸(show(a.beq c&&b.beq d)=af from h):a.beq c=af/\b.beq d=af)
   rw[DR.eq_of_beq h1,DR.eq_of_beq h2]
 | .leaf _, .sl ..,h=>by cases h
 | .leaf _, .pair ..,h=>by cases h
 | .sl .., .leaf _,h=>by cases h
 | .sl .., .pair ..,h=>by cases h
 | .pair .., .leaf _,h=>by cases h
 | .pair .., .sl ..,h=>by cases h
theorem DR.beq_refl:(d:DR)->d.beq d=af
 | .leaf r=>Row.beq_refl r
 | .sl T d=>by show(aoL T T&&d.beq d)=af;rw[DR.beq_refl d,Bool.and_true];exact Nat.beq_refl T
 | .pair a b=>by show(a.beq a&&b.beq b)=af;rw[DR.beq_refl a,DR.beq_refl b];rfl
def rE:List Bool->List Bool->Bool
 |[],[]=>af
 |a::p,b::q=>(bif a then b else !b)&&rE p q
 |_,_=>ag
theorem uY:{p q:List Bool}->rE p q=af->p=q
 |[],[],_=>rfl
 |a::p,b::q,h=>by
  have h':((bif a then b else !b)&&rE p q)=af:=h;rw[apQ]at h';rw[uY h'.2]
  grind
 |[],_::_,h=>by cases h
 |_::_,[],h=>by cases h
def flat(ob:Nat->Option (Nat×Th)):(r:Row)->Tree->Option r.den
 |r, .leaf s x=>if h:s.beq r=af then aa (lg (Row.eq_of_beq h) x)else ae
 | .slice e, .own o=>match ob o with
   |some (_, .yf _ s l)=>if h:s.beq e=af then aa (lg (r:= .slice s) (s:= .slice e) (aw Row.slice (Row.eq_of_beq h)) l)else ae
   |some (_, .fdeep _ d l)=>if h:d.row.beq e=af then aa (lg (r:= .slice d.row) (s:= .slice e) (aw Row.slice (Row.eq_of_beq h)) l)else ae
   |_=>ae
 | .slice _, .nil=>aa []
 | .map K agg V, .own o=>match ob o with
   |some (_, .fmap _ K' vH V' l)=>if h:(Row.map K' vH V').beq (.map K agg V)=af then aa (lg (Row.eq_of_beq h) l)else ae
   |some (_, .fdmap _ K' _ r' l)=>if h:(Row.map K' ag (.slice r')).beq (.map K agg V)=af then aa (lg (r:= .map K' ag (.slice r')) (Row.eq_of_beq h) l)else ae
   |_=>ae
 | .slice e, .view o s r m=>match ob o with
   |some (s', .yf ..)=>bif aoL s' s then(if h:r.beq e=af then aa (lg (r:= .slice r) (s:= .slice e) (aw Row.slice (Row.eq_of_beq h)) m)else ae)else ae
   |_=>ae
 | .pair a b, .pair t u=>match flat ob a t with
   |none=>ae
   |some x=>match flat ob b u with
    |none=>ae
    |some y=>aa (x,y)
 |_,_=>ae
section
variable {U:Nat->Prop} {H:aR} {F:Nat->Prop} {w:World} {ob:Nat->Option (Nat×Th)} {n:Nat}
theorem BC(hs:aS U H F w ob n){o s:Nat}{T:TypeId}{r0 r:Row}{l0:List r0.den}{m:List r.den}{v:Value}(ho:ob o=aa (s, .yf T r0 l0))(h:oT H o s r m v):dF F w (.slice r) [v] m:=by
 obtain⟨A,cap,T',l,a,b,h1,h2,h3,h4,rfl,rfl⟩:=h;obtain⟨v',gQ,eK⟩:=hs.obj _ _ _ ho;rw[h1]at gQ;obtain rfl:=aoB gQ;have e:=eK.con;rw[h2]at e;simp only[Th.base,aoW,Th.own.injEq]at e;obtain⟨rfl,rfl,e⟩:=e;obtain rfl:=eq_of_heq e;exact dF.cut eK.ok h3 h4
theorem mM(hs:aS U H F w ob n):{r:Row}->{t:Tree}->{x:r.den}->{cs:List Value}->flat ob r t=aa x->Holds H F w t cs->dF F w r cs x
 |r, .leaf s x0,x,cs,hf,h=>by
  unfold flat at hf;split at hf
  .rename_i e;obtain rfl:=Row.eq_of_beq e;obtain rfl:=aoB hf;exact h
  .cases hf
 | .slice e, .own o,x,cs,hf,h=>by
   unfold flat at hf;split at hf
   .rename_i s0 T s l AW;split at hf
    .rename_i e;obtain rfl:=Row.eq_of_beq e;obtain rfl:=aoB hf;obtain⟨v,hv,_,rfl⟩:=h;obtain⟨v',gQ,eK⟩:=hs.obj _ _ _ AW;rw[hv]at gQ;obtain rfl:=aoB gQ;exact eK.ok
    .cases hf
   .rename_i s0 T d l AW;split at hf
    .rename_i e;obtain rfl:=Row.eq_of_beq e;obtain rfl:=aoB hf;obtain⟨v,hv,_,rfl⟩:=h;obtain⟨v',gQ,eK⟩:=hs.obj _ _ _ AW;rw[hv]at gQ;obtain rfl:=aoB gQ;exact eK.ok
    .cases hf
   .cases hf
 | .map K agg V, .own o,x,cs,hf,h=>by
   unfold flat at hf;split at hf
   .rename_i s0 T K' vH V' l AW;split at hf
    .rename_i e;cases Row.eq_of_beq e;obtain rfl:=aoB hf;obtain⟨v,hv,_,rfl⟩:=h;obtain⟨v',gQ,eK⟩:=hs.obj _ _ _ AW;rw[hv]at gQ;obtain rfl:=aoB gQ;exact eK.ok
    .cases hf
   .rename_i s0 T K' E r' l AW;split at hf
    .rename_i e;cases Row.eq_of_beq e;obtain rfl:=aoB hf;obtain⟨v,hv,_,rfl⟩:=h;obtain⟨v',gQ,eK⟩:=hs.obj _ _ _ AW;rw[hv]at gQ;obtain rfl:=aoB gQ;exact eK.ok
    .cases hf
   .cases hf
 | .slice e, .nil,x,cs,hf,h=>by
   unfold flat at hf;obtain rfl:=aoB hf;rw[show cs=_ from h];exact dF.nil F w e
 | .slice e, .view o s r m,x,cs,hf,h=>by
   unfold flat at hf;split at hf
   .rename_i s' T r' l' AW
    cases hb:aoL s' s with
    |false=>rw[hb]at hf;cases hf
    |true=>
     rw[hb,cond_true]at hf;obtain rfl:=Nat.eq_of_beq_eq_true hb;split at hf
     .rename_i e;obtain rfl:=Row.eq_of_beq e;obtain rfl:=aoB hf;obtain⟨v,rfl,h⟩:=h;exact BC hs AW h
     .cases hf
   .cases hf
 | .pair a b, .pair t u,x,cs,hf,h=>by
   obtain⟨c1,c2,rfl,h1,h2⟩:=h;unfold flat at hf
   cases ha:flat ob a t with
   |none=>grind
   |some p=>
    cases hb:flat ob b u with
    |none=>grind
    |some q=>
     simp only[ha,hb,aoW]at hf;subst hf;exact⟨c1,c2,rfl,mM hs ha h1,mM hs hb h2⟩
 | .int _, .own _,_,_,hf,_=>by unfold flat at hf;cases hf
 | .bool, .own _,_,_,hf,_=>by unfold flat at hf;cases hf
 | .str, .own _,_,_,hf,_=>by unfold flat at hf;cases hf
 | .mI, .own _,_,_,hf,_=>by unfold flat at hf;cases hf
 | .nul _, .own _,_,_,hf,_=>by unfold flat at hf;cases hf
 | .pair _ _, .own _,_,_,hf,_=>by unfold flat at hf;cases hf
 | .int _, .nil,_,_,hf,_=>by unfold flat at hf;cases hf
 | .bool, .nil,_,_,hf,_=>by unfold flat at hf;cases hf
 | .str, .nil,_,_,hf,_=>by unfold flat at hf;cases hf
 | .mI, .nil,_,_,hf,_=>by unfold flat at hf;cases hf
 | .nul _, .nil,_,_,hf,_=>by unfold flat at hf;cases hf
 | .map .., .nil,_,_,hf,_=>by unfold flat at hf;cases hf
 | .pair _ _, .nil,_,_,hf,_=>by unfold flat at hf;cases hf
 | .int _, .view ..,_,_,hf,_=>by unfold flat at hf;cases hf
 | .bool, .view ..,_,_,hf,_=>by unfold flat at hf;cases hf
 | .str, .view ..,_,_,hf,_=>by unfold flat at hf;cases hf
 | .mI, .view ..,_,_,hf,_=>by unfold flat at hf;cases hf
 | .nul _, .view ..,_,_,hf,_=>by unfold flat at hf;cases hf
 | .map .., .view ..,_,_,hf,_=>by unfold flat at hf;cases hf
 | .pair _ _, .view ..,_,_,hf,_=>by unfold flat at hf;cases hf
 | .int _, .junk _,_,_,hf,_=>by unfold flat at hf;cases hf
 | .bool, .junk _,_,_,hf,_=>by unfold flat at hf;cases hf
 | .str, .junk _,_,_,hf,_=>by unfold flat at hf;cases hf
 | .slice _, .junk _,_,_,hf,_=>by unfold flat at hf;cases hf
 | .mI, .junk _,_,_,hf,_=>by unfold flat at hf;cases hf
 | .nul _, .junk _,_,_,hf,_=>by unfold flat at hf;cases hf
 | .map .., .junk _,_,_,hf,_=>by unfold flat at hf;cases hf
 | .pair _ _, .junk _,_,_,hf,_=>by unfold flat at hf;cases hf
 | .int _, .pair _ _,_,_,hf,_=>by unfold flat at hf;cases hf
 | .bool, .pair _ _,_,_,hf,_=>by unfold flat at hf;cases hf
 | .str, .pair _ _,_,_,hf,_=>by unfold flat at hf;cases hf
 | .mI, .pair _ _,_,_,hf,_=>by unfold flat at hf;cases hf
 | .nul _, .pair _ _,_,_,hf,_=>by unfold flat at hf;cases hf
 | .map .., .pair _ _,_,_,hf,_=>by unfold flat at hf;cases hf
 | .slice _, .pair _ _,_,_,hf,_=>by unfold flat at hf;cases hf
end
def Row.Ez:Row->Tree
 | .slice _=> .nil
 | .pair a b=> .pair a.Ez b.Ez
 |r=> .leaf r r.zero
theorem Row.p5(H:aR)(F:Nat->Prop)(w:World):(r:Row)->Holds H F w r.Ez r.iK
 | .int _=>rfl
 | .bool=>rfl
 | .str=>rfl
 | .slice _=>rfl
 | .mI=>⟨rfl,ae,0,0,rfl⟩
 | .nul _=>rfl
 | .map .. =>⟨_,rfl, .inl ⟨rfl,rfl⟩⟩
 | .pair a b=>⟨_,_,rfl,Row.p5 H F w a,Row.p5 H F w b⟩
end
end Go.Proofs.YtfjgcenlllgonaaGreatDoor
section
open _root_.Bool renaming false->ag,true->af
open _root_.Option renaming none->ae,some->aa,isSome_iff_exists->apA
open _root_.Array renaming toArray_toList->apF
open _root_.Int renaming toNat_natCast->aoF
open _root_.Nat renaming add_zero->apO,beq->aoL,blt->aps,le_refl->aoJ,lt_of_lt_of_le->api
open _root_.Option.some renaming inj->aoB,injEq->aoW
open _root_.Go.Value renaming oneCell'->aqa
namespace Go.Proofs.YtfjgcenlllgonaaGreatDoor
open Go Go.RowKit
section
variable {P:Program} {ρ:Nat->Value} {w w':World} {H H':aR} {F F':Nat->Prop} {U:Nat->Prop} {ob:Nat->Option (Nat×Th)} {n:Nat} {R:Type}
variable {op:Op} {ty:TypeId} {pos:String} {aft:Array Edge} {d:Nat}
theorem aS.box(hs:aS U H F w ob n){o s:Nat}{T:TypeId}{t:Tree}(ho:ob o=aa (s, .box T t)){b:Nat}(hb:H.val o=aa (.pointer (aa ⟨b,0,ae⟩))):
 ∃es,w.heap[b]? =aa (.cells es.toArray T (0,0))/\Holds H F w t es:=by
 obtain⟨v,hv,hi⟩:=hs.obj _ _ _ ho;rw[hb]at hv;obtain rfl:=aoB hv;obtain⟨b',es,e,h1,h2⟩:=hi.ok
 grind
theorem aS.own(hs:aS U H F w ob n){o s:Nat}{T:TypeId}{r:Row}{l:List r.den}(ho:ob o=aa (s, .own T r l)){v:Value}(hv:H.val o=aa v):lV 0 F w T r v l:=by
 obtain⟨v',gQ,hi⟩:=hs.obj _ _ _ ho;rw[hv]at gQ;obtain rfl:=aoB gQ;exact⟨hi.no,hi.ok⟩
theorem EA{fs:List (TypeId×Nat)}{arr:Array Field}(ha:arr.toList.map (λf=>(f.type,f.offset))=fs){f:Nat}{ft:TypeId}{off:Nat}(hf:fs[f]? =aa (ft,off)):∃fd,arr[f]? =aa fd/\fd.type=ft/\fd.offset=off:=by
 grind
def sub(r:Row)(x:r.den)(p:List Bool):Option ((s:Row)×s.den×Nat):=
 match Tree.get (.leaf r x) p with
 |some (.leaf s y,off)=>aa ⟨s,y,off⟩
 |_=>ae
theorem Hx{r s:Row}{x:r.den}{y:s.den}{p:List Bool}{off b k:Nat}(h:sub r x p=aa ⟨s,y,off⟩)(ha:At F w r b k x):At F w s b (k+off) y:=by
 unfold sub at h;split at h
 .rename_i s' y' fI hg;simp only[aoW,Sigma.mk.injEq]at h;obtain⟨rfl,h⟩:=h;obtain⟨rfl,rfl⟩:=Prod.mk.inj (eq_of_heq h);obtain⟨es,hl,hc,hr⟩:=ha;obtain⟨g1,g2⟩:=Holds.get (H:=⟨λ_=>ae,λ_=>ae,λ_ _=>False⟩) (F:=F) (w:=w) (cs:=es) hg hr;have Yf:dF F w s' ((es.drop fI).take s'.size) y':=g1;refine⟨_,Yf.length,λj u hu=>?_,Yf⟩
  grind
 .cases h
def Hy(T:bU P)(t:TypeId)(f:Nat)(D:aM):Option aM:=
 match find T.und t with
 |some (.struct fs)=>match fs[f]? with
  |some (ft,off)=>match find T.row ft with
   |some _=>match D with
    | .ptr o p k=>aa (.ptr o (p++vG fs.length f) (k+off))
    | .at r x=>match sub r x (vG fs.length f)with
      |some ⟨s,y,fI⟩=>bif aoL fI off then aa (.at s y)else ae
      |none=>ae
    | .elem o s r i x p k=>aa (.elem o s r i x (p++vG fs.length f) (k+off))
    | .dlm o d i p k=>aa (.dlm o d i (p++vG fs.length f) (k+off))
    |_=>ae
   |none=>ae
  |none=>ae
 |_=>ae
theorem beq_true{m k:Nat}(h:aoL m k=af):m=k:=Nat.eq_of_beq_eq_true h
theorem pF{α:Type}{b:Bool}{x:α}{y:α}(h:(bif b then aa x else ae)=aa y):b=af/\x=y:=by
 grind
theorem LF(T:bU P){t:TypeId}{f:Nat}{D D':aM}{x:Operand}(h:Hy T t f D=aa D')(hs:aS U H F w ob n)(hx:aN H F w D (ev ρ x)):
 dZ P U H F w ρ ob n ⟨aa d, .fieldAddr t x f,ty,pos,aft,ae⟩ {dst:=D'}:=by
 unfold Hy at h;split at h
 case h_2=>cases h
 rename_i fs hu;obtain⟨arr,Hz,RM⟩:=T.und_ok _ _ hu;split at h
 case h_2=>cases h
 rename_i ft off hf;obtain⟨fd,XB,rfl,rfl⟩:=EA RM hf;split at h
 case h_2=>cases h
 rename_i r' yZ;have sB:=T.row_ok _ _ yZ;split at h
 .obtain rfl:=aoB h;obtain⟨b,h1,h2⟩:=hx;exact bm hs (p3 (r:=r') fd.offset Hz XB sB rfl h2) ⟨b,h1,rfl⟩
 .split at h
  .rename_i s y fI jY;obtain⟨h1,rfl⟩:=pF h;obtain rfl:=beq_true h1;obtain⟨b,k,h2,h3,h4⟩:=hx;exact bm hs (p3 (r:=r') fd.offset Hz XB sB rfl h2) ⟨b,_,rfl,h3,Hx jY h4⟩
  .cases h
 .obtain rfl:=aoB h;obtain⟨g,o0,q,T',m,cap,l,h1,h2,h3,h4,h5⟩:=hx;exact bm hs (p3 (r:=r') fd.offset Hz XB sB rfl h5) ⟨g,o0,q,T',m,cap,l,h1,h2,h3,h4,by rw[Nat.add_assoc]⟩
 .obtain rfl:=aoB h;obtain⟨g,o0,q,m,cap,h1,h2,h5⟩:=hx;exact bm hs (p3 (r:=r') fd.offset Hz XB sB rfl h5) ⟨g,o0,q,m,cap,h1,h2,by rw[Nat.add_assoc]⟩
 .cases h
theorem dF.elemAt{r:Row}{v:Value}{l:List r.den}(h:dF F w (.slice r) [v] l){i:Int}{y:r.den}(hi:idx l i=aa y):
 ∃b off cap k,v= .slice (aa ⟨b,off,ae⟩) l.length cap/\i=(k:Nat)/\k<l.length/\F b/\At F w r b (off+k*r.size) y:=by
 obtain⟨A,cap,hv,_,_,h4⟩:=h;obtain⟨k,hk,aJ,rfl⟩:=jv hi;obtain⟨b,off,es,rfl,hF,wJ,hc,hr⟩:=h4 k aJ;exact⟨b,off,cap,k,by simpa using hv,hk,aJ,hF,es,wJ,hc,hr⟩
inductive Ot where
 |read (r:Row) (l:List r.den)
 |own (o s:Nat) (T:TypeId) (r:Row) (l:List r.den)
 |nil
 |view (o s:Nat) (r:Row) (l:List r.den)
 |deep (o s:Nat) (T:TypeId) (d:DR) (l:List d.row.den) (h:Option yU)
def yi(ob:Nat->Option (Nat×Th)):aM->Option Ot
 | .val ag (.leaf (.slice r) l)=>aa (.read r l)
 | .val ag .nil=>aa .nil
 | .val ag (.own o)=>match ob o with
   |some (s, .own T r l)=>aa (.own o s T r l)
   |some (_, .yf _ r l)=>aa (.read r l)
   |some (_, .fdeep _ d l)=>aa (.read d.row l)
   |some (s, .deep T d l h)=>aa (.deep o s T d l h)
   |_=>ae
 | .val ag (.view o s r m)=>match ob o with
   |some (s', .yf ..)=>bif aoL s' s then aa (.read r m)else aa (.view o s r m)
   |_=>aa (.view o s r m)
 |_=>ae
def RN(U:Nat->Prop)(H:aR)(F:Nat->Prop)(w:World)(ob:Nat->Option (Nat×Th))(v:Value):Ot->Prop
 | .read r l=>dF F w (.slice r) [v] l
 | .own o s T r l=>H.val o=aa v/\ob o=aa (s, .own T r l)/\lV 0 F w T r v l
 | .nil=>v= .slice ae 0 0
 | .view o s r m=>oT H o s r m v
 | .deep o s T d l h=>H.val o=aa v/\ob o=aa (s, .deep T d l h)/\LC U H F w v s (.deep T d l h)
theorem kM(hs:aS U H F w ob n){D:aM}{k:Ot}{v:Value}(h:yi ob D=aa k)(hd:aN H F w D v):RN U H F w ob v k:=by
 unfold yi at h;split at h
 .cases h;exact bq.inv hd
 .cases h;obtain⟨cs,h1,_,h3⟩:=hd;have Ef:cs=_:=h1
  grind [RN]
 .rename_i o;obtain⟨cs,⟨u,hu,Hz,e⟩,_,h3⟩:=hd;rw[h3 rfl]at e
  obtain rfl:v=u:=by simpa using e
  split at h
  .rename_i s T r l AW;cases h;exact⟨hu,AW,hs.own AW hu⟩
  .rename_i s T r l AW;cases h;obtain⟨v',gQ,hi⟩:=hs.obj _ _ _ AW;rw[hu]at gQ;obtain rfl:=aoB gQ;exact hi.ok
  .rename_i s T d l AW;cases h;obtain⟨v',gQ,hi⟩:=hs.obj _ _ _ AW;rw[hu]at gQ;obtain rfl:=aoB gQ;exact hi.ok
  .rename_i s T d l h' AW;cases h;obtain⟨v',gQ,hi⟩:=hs.obj _ _ _ AW;rw[hu]at gQ;obtain rfl:=aoB gQ;exact⟨hu,AW,hi⟩
  .cases h
 .rename_i o s r m;obtain⟨cs,⟨u,e,hu⟩,_,h3⟩:=hd;rw[h3 rfl]at e
  obtain rfl:v=u:=by simpa using e
  split at h
  .rename_i s' T r' l' AW
   cases hb:aoL s' s with
   |false=>rw[hb]at h;cases h;exact hu
   |true=>
    rw[hb]at h;obtain rfl:=Nat.eq_of_beq_eq_true hb;cases h;exact BC hs AW hu
  .cases h;exact hu
 .cases h
def oW:Nat->(r:Row)->r.den->(e:Row)->Option (List e.den)
 |1,r,x,e=>if h:r.beq e=af then aa [lg (Row.eq_of_beq h) x]else ae
 |m+2, .pair a b,x,e=>if h:a.beq e=af then(match oW (m+1) b x.2 e with
  |some l=>aa (lg (Row.eq_of_beq h) x.1::l)
  |none=>ae)else ae
 |_,_,_,_=>ae
theorem Jy{e:Row}{b:Nat}:{m:Nat}->{r:Row}->{x:r.den}->{l:List e.den}->{off:Nat}->oW m r x e=aa l->At F w r b off x->l.length=m/\∀i(h:i<l.length),At F w e b (off+i*e.size) l[i]
 |0,r,x,l,off,h,_=>by unfold oW at h;cases h
 |1,r,x,l,off,h,ha=>by
  unfold oW at h;split at h
  case isFalse=>cases h
  rename_i hb;obtain rfl:=Row.eq_of_beq hb;obtain rfl:=aoB h;refine⟨rfl,λi hi=>?_⟩
  obtain rfl:i=0:=by simp at hi;omega
  rw[Nat.zero_mul,apO];exact ha
 |m+2, .pair a b',x,l,off,h,ha=>by
  unfold oW at h;split at h
  case isFalse=>cases h
  rename_i hb;obtain rfl:=Row.eq_of_beq hb;split at h
  case h_2=>cases h
  rename_i l' hl;obtain rfl:=aoB h;obtain⟨g1,g2⟩:=Jy hl (ha.snd _ rfl);refine⟨by simp[g1],λi hi=>?_⟩
  cases i with
  |zero=>
   rw[Nat.zero_mul,apO];exact ha.fst
  |succ i=>
   grind
 |m+2, .int _,_,_,_,h,_=>by unfold oW at h;cases h
 |m+2, .bool,_,_,_,h,_=>by unfold oW at h;cases h
 |m+2, .str,_,_,_,h,_=>by unfold oW at h;cases h
 |m+2, .slice _,_,_,_,h,_=>by unfold oW at h;cases h
 |m+2, .mI,_,_,_,h,_=>by unfold oW at h;cases h
 |m+2, .nul _,_,_,_,h,_=>by unfold oW at h;cases h
 |m+2, .map ..,_,_,_,h,_=>by unfold oW at h;cases h
theorem uJ{t e:TypeId}{x y:Operand}{kd:IntKind}{a:Int}{ti:TypeInfo}{m sI off i:Nat}(size:Nat)(ht:P.underlying t=aa (.array m e))(hi:P.info? e=aa ti)(pS:ti.size=size)
 (hx:ev ρ x= .pointer (aa ⟨sI,off,ae⟩))(hy:ev ρ y= .int kd a)(ha:a=(i:Int))(aJ:i<m):
 Pure P ρ ⟨aa d, .indexAddr t x y,ty,pos,aft,ae⟩ (.pointer (aa ⟨sI,off+i*size,ae⟩)):=λw=>by
 subst pS;subst ha;simp[execOp,Instr.indexAt,Instr.sureAddr,asIntOf,run_underlying ht,sizeOf,typeInfo,hi,hx,hy,aJ,dY]
theorem Jz{α:Type}{b:Bool}{x:Option α}{y:α}(h:(bif b then x else ae)=aa y):b=af/\x=aa y:=by
 cases b with
 |true=>exact⟨rfl,h⟩
 |false=>cases h
def tN(T:bU P)(m:Nat)(e:TypeId)(D:aM)(i:Int)(k:gw->Option R):Option R:=
 match find T.row e with
 |some re=>match D with
  | .at r x=>match oW m r x re with
    |some l=>(idx l i).bind λy=>k {dst:= .at re y}
    |none=>ae
  | .ptr o p off=>match i with
    | .ofNat j=>bif aps j m then k {dst:= .ptr o (p++vG m j) (off+j*re.size)}else ae
    | .negSucc _=>ae
  |_=>ae
 |none=>ae
theorem HA(T:bU P){t:TypeId}{m:Nat}{e:TypeId}(hu:P.underlying t=aa (.array m e)){D:aM}{x y:Operand}{kd:IntKind}{i:Int}{k:gw->Option R}{q:R}(h:tN T m e D i k=aa q)(hs:aS U H F w ob n)(hx:aN H F w D (ev ρ x))(hy:ev ρ y= .int kd i):
 ∃e,k e=aa q/\dZ P U H F w ρ ob n ⟨aa d, .indexAddr t x y,ty,pos,aft,ae⟩ e:=by
 unfold tN at h;split at h
 case h_2=>cases h
 rename_i re hr;obtain⟨ti,z,h1,_,_,h4,_⟩:=T.row_ok _ _ hr;split at h
 case h_3=>cases h
 case h_2=>
  split at h
  case h_2=>cases h
  rename_i o p off _ j;obtain⟨aJ,hk⟩:=Jz h
  have aJ:j<m:=by simpa using aJ
  obtain⟨b,hb,hv⟩:=hx;exact⟨_,hk,bm hs (uJ re.size hu h1 h4 hv hy rfl aJ) ⟨b,hb,rfl⟩⟩
 rename_i r v;split at h
 case h_2=>cases h
 rename_i l hl;obtain⟨a,ha,hk⟩:=bind_some h;obtain⟨b,off,hv,hF,vD⟩:=hx;obtain⟨g1,g2⟩:=Jy hl vD;obtain⟨j,hj,aJ,rfl⟩:=jv ha;exact⟨_,hk,bm hs (uJ re.size hu h1 h4 hv hy hj (by omega)) ⟨b,_,rfl,hF,g2 j aJ⟩⟩
def wP(T:bU P)(ob:Nat->Option (Nat×Th))(t:TypeId)(D:aM)(i:Int)(k:gw->Option R):Option R:=
 match find T.und t with
 |some (.slice e)=>match find T.row e with
  |some re=>match yi ob D with
   |some (.read r l)=>bif aoL r.size re.size then(idx l i).bind λx=>k {dst:= .at r x}else ae
   |some (.own o s _ r l)=>bif aoL r.size re.size then(idx l i).bind λx=>k {dst:= .elem o s r i x [] 0}else ae
   |some (.deep o _ _ d l _)=>bif aoL d.low.size re.size then(idx l i).bind λ_=>k {dst:= .dlm o d i [] 0}else ae
   |_=>ae
  |none=>ae
 |some (.array m e)=>tN T m e D i k
 |_=>ae
theorem LG(T:bU P){t:TypeId}{D:aM}{x y:Operand}{kd:IntKind}{i:Int}{k:gw->Option R}{q:R}(h:wP T ob t D i k=aa q)(hs:aS U H F w ob n)(hx:aN H F w D (ev ρ x))(hy:ev ρ y= .int kd i):
 ∃e,k e=aa q/\dZ P U H F w ρ ob n ⟨aa d, .indexAddr t x y,ty,pos,aft,ae⟩ e:=by
 unfold wP at h;split at h
 case h_3=>cases h
 case h_2=>rename_i m e hu;exact HA T (T.und_ok _ _ hu) h hs hx hy
 rename_i e hu;have hu:=T.und_ok _ _ hu;split at h
 case h_2=>cases h
 rename_i re hr;obtain⟨ti,z,h1,_,_,h4,_⟩:=T.row_ok _ _ hr;split at h
 .rename_i r l iP
  cases hz:aoL r.size re.size with
  |false=>rw[hz]at h;cases h
  |true=>
   rw[hz,cond_true]at h;have hz:=beq_true hz;obtain⟨a,ha,hk⟩:=bind_some h;have iP:=kM hs iP hx;obtain⟨b,off,cap,j,hv,hj,aJ,hF,vD⟩:=dF.elemAt iP ha;refine⟨_,hk,bm hs (pB r.size hu h1 (h4.trans hz.symm) hv hy hj aJ) ⟨b,_,rfl,hF,vD⟩⟩
 .rename_i o s T' r l iP
  cases hz:aoL r.size re.size with
  |false=>rw[hz]at h;cases h
  |true=>
   rw[hz,cond_true]at h;have hz:=beq_true hz;obtain⟨a,ha,hk⟩:=bind_some h;obtain⟨hv,fR,gS⟩:=kM hs iP hx;obtain⟨v',gQ,eK⟩:=hs.obj _ _ _ fR;obtain⟨j,hj,aJ,hja⟩:=jv ha;obtain⟨_,xs,Lp,_⟩:=gS
   rcases Lp.2 with⟨Ou,h0⟩|⟨g,o0,cap,cur,LH,_,_,_⟩
   .omega
   .have hp:=pB (P:=P) (d:=aa d) (ty:=ty) (pos:=pos) (aft:=aft) r.size hu h1 (h4.trans hz.symm) LH hy hj aJ;refine⟨_,hk,bm hs hp ⟨g,o0,j,T',l.length,cap,l,?_,hj,eK.con,ha,rfl⟩⟩
    grind
 .rename_i o s T' d' l hh iP;obtain⟨hz,h⟩:=Jz h;have hz:=beq_true hz;obtain⟨a,ha,hk⟩:=bind_some h;obtain⟨hv,fR,eK⟩:=kM hs iP hx;obtain⟨j,hj,aJ,hja⟩:=jv ha;obtain⟨lh,_,⟨xs,Lp,_⟩,vx,_⟩:=eK.ok
  rcases Lp.2 with⟨Ou,h0⟩|⟨g,o0,cap,cur,LH,_,_,_⟩
  .omega
  .have hp:=pB (P:=P) (d:=aa d) (ty:=ty) (pos:=pos) (aft:=aft) d'.low.size hu h1 (h4.trans hz.symm) LH hy hj (by omega);refine⟨_,hk,bm hs hp ⟨g,o0,j,lh.length,cap,?_,hj,rfl⟩⟩
   grind
 .cases h
theorem za{b:Nat}{T:TypeId}{es:List Value}(hh:w.heap[b]? =aa (.cells es.toArray T (0,0)))(j:Nat):w.cell? ⟨b,j,ae⟩=es[j]? :=by
 rw[cell_of_row w b j _ T (0,0) hh];simp
theorem qN(T:bU P){t:TypeId}{kk:Nx}(hu:find T.und t=aa kk){x:Operand}{b off:Nat}{s:Tree}{cs:List Value}(hx:ev ρ x= .pointer (aa ⟨b,off,ae⟩))(hs:aS U H F w ob n)
 (hh:Holds H F w s cs)(hc:∀j u,cs[j]? =aa u->w.cell? ⟨b,off+j,ae⟩=aa u)
 (hz:if oV kk=af then∃r,find T.row t=aa r/\r.size=s.size else s.size=1):
 dZ P U H F w ρ ob n ⟨aa d, .load t x,ty,pos,aft,ae⟩ {dst:= .val (oV kk) s}:=by
 obtain⟨dd,ye,yT⟩:=(T.und_ok _ _ hu).agg;have hl:=hh.length
 cases ha:oV kk with
 |true=>
  rw[aj ha]at hz;obtain⟨r,hr,Nz⟩:=hz;obtain⟨ti,z,h1,_,_,h4,_⟩:=T.row_ok _ _ hr;exact cP hs (Ln ye (yT.trans ha) h1 (by omega) hx hc) ⟨cs,hh,rfl,by simp⟩
 |false=>
  rw[ai (by simp[ha])]at hz
  obtain⟨v,rfl⟩:∃v,cs=[v]:=by
   match cs,hl.trans hz with
   |[v],_=>exact⟨v,rfl⟩
  exact cP hs (Bx ye (yT.trans ha) hx (hc 0 v rfl)) ⟨[v],hh,rfl,λ_=>rfl⟩
def pG(T:bU P)(t:TypeId)(kk:Nx)(m:Nat):Bool:=
 bif oV kk then(match find T.row t with|some r=>aoL r.size m|none=>ag)else aoL m 1
theorem mv(T:bU P){t:TypeId}{kk:Nx}{m:Nat}(h:pG T t kk m=af):if oV kk=af then∃r,find T.row t=aa r/\r.size=m else m=1:=by
 grind [pG,beq_true]
def BD(T:bU P)(ob:Nat->Option (Nat×Th))(t:TypeId)(D:aM)(k:gw->Option R):Option R:=
 match find T.und t with
 |none=>ae
 |some kk=>match D with
  | .at r x=>bif pG T t kk r.size then k {dst:= .val (oV kk) (.leaf r x)}else ae
  | .ptr o p off=>match ob o with
    |some (_, .box _ tr)=>match tr.get p with
     |some (s,fI)=>bif aoL fI off&&pG T t kk s.size then k {dst:= .val (oV kk) s}else ae
     |none=>ae
    |_=>ae
  | .elem o s r i x p off=>match ob o with
    |some (s', .own _ r' l)=>bif aoL s' s then
      (match sub r x p with
      |some ⟨q,y,fI⟩=>bif aoL fI off&&pG T t kk q.size then k {dst:= .val (oV kk) (.leaf q y)}else ae
      |none=>ae)
     else(idx l i).bind λx'=>match sub r' x' p with
      |some ⟨q,y,fI⟩=>bif aoL fI off&&pG T t kk q.size&&aoL r'.size r.size then k {dst:= .val (oV kk) (.leaf q y)}else ae
      |none=>ae
    |_=>ae
  |_=>ae
theorem bo{α:Type}{b:Bool}{x:Option α}{y:α}(h:(bif b then x else ae)=aa y):b=af/\x=aa y:=by
 cases b with
 |true=>exact⟨rfl,h⟩
 |false=>cases h
theorem eG{a b:Bool}(h:(a&&b)=af):a=af/\b=af:=by simpa using h
theorem JA(hs:aS U H F w ob n){o s':Nat}{T':TypeId}{r':Row}{i:Int}{x':r'.den}{l:List r'.den}{g o0 q m cap:Nat}(fR:ob o=aa (s', .own T' r' l))(hv:H.val o=aa (.slice (aa ⟨g,o0,ae⟩) m cap))(hq:i=(q:Nat))(hi:idx l i=aa x'):
 At F w r' g (o0+q*r'.size) x':=(hs.own fR hv).at rfl hq hi
theorem Ov(T:bU P){t:TypeId}{D:aM}{x:Operand}{k:gw->Option R}{q:R}(h:BD T ob t D k=aa q)(hs:aS U H F w ob n)(hx:aN H F w D (ev ρ x)):
 ∃e,k e=aa q/\dZ P U H F w ρ ob n ⟨aa d, .load t x,ty,pos,aft,ae⟩ e:=by
 unfold BD at h;split at h
 .cases h
 rename_i kk hu;split at h
 .rename_i r y;obtain⟨h1,h2⟩:=bo h;obtain⟨b,off,e,hF,es,hl,hc,hr⟩:=hx;exact⟨_,h2,qN T hu e hs (s:= .leaf r y) hr hc (mv T h1)⟩
 .rename_i o p off;split at h
  .rename_i st0 T0 tr fR;split at h
   .rename_i s fI hg;obtain⟨h1,h2⟩:=bo h;obtain⟨h1,h3⟩:=eG h1;obtain rfl:=beq_true h1;obtain⟨b,hb,e⟩:=hx;obtain⟨es,hh,Uf⟩:=hs.box fR hb;obtain⟨g1,g2⟩:=Uf.get hg
    grind [qN,mv,za]
   .cases h
  .cases h
 .rename_i o s r i y p off;split at h
  .rename_i s' T0 r' l fR;obtain⟨g,o0,qq,T',m,cap,l0,e1,e2,e3,e4,e5⟩:=hx
   cases sq:aoL s' s with
   |true=>
    rw[sq,cond_true]at h;obtain rfl:=beq_true sq;obtain⟨v,hv,eK⟩:=hs.obj _ _ _ fR;have hc:=eK.con;rw[e3]at hc
    obtain⟨rfl,CO⟩:T'=T0/\(⟨r,l0⟩:(r:Row)×List r.den)=⟨r',l⟩:=by
     grind [Th.base]
    cases CO;split at h
    .rename_i q' y' fI jY;obtain⟨h1,h2⟩:=bo h;obtain⟨h1,h3⟩:=eG h1;obtain rfl:=beq_true h1;obtain⟨es,hl,RO,hr⟩:=Hx jY (JA hs fR e1 e2 e4);exact⟨_,h2,qN T hu e5 hs (s:= .leaf q' y') hr RO (mv T h3)⟩
    .cases h
   |false=>
    rw[sq,cond_false]at h;obtain⟨x',U8,h⟩:=bind_some h;split at h
    .rename_i q' y' fI jY;obtain⟨h1,h2⟩:=bo h;obtain⟨h1,h4⟩:=eG h1;obtain⟨h1,h3⟩:=eG h1;obtain rfl:=beq_true h1;have h4:=beq_true h4;obtain⟨es,hl,RO,hr⟩:=Hx jY (JA hs fR e1 e2 U8);rw[h4]at RO;exact⟨_,h2,qN T hu e5 hs (s:= .leaf q' y') hr RO (mv T h3)⟩
    .cases h
  .cases h
 .cases h
end
end Go.Proofs.YtfjgcenlllgonaaGreatDoor
namespace Go.Proofs.YtfjgcenlllgonaaGreatDoor
open Go Go.RowKit
def HB:(r:Row)->List Bool->Option ((s:Row)×Path r s)
 |r,[]=>aa ⟨r, .here⟩
 | .pair a b,d::p=>match d with
   |false=>match HB a p with
    |some ⟨s,q⟩=>aa ⟨s, .fst q⟩
    |none=>ae
   |true=>match HB b p with
    |some ⟨s,q⟩=>aa ⟨s, .snd q⟩
    |none=>ae
 |_,_::_=>ae
section
variable {P:Program} {ρ:Nat->Value} {w w':World} {H H':aR} {F F':Nat->Prop} {U:Nat->Prop} {ob:Nat->Option (Nat×Th)} {n:Nat} {R:Type}
variable {op:Op} {ty:TypeId} {pos:String} {aft:Array Edge} {d:Nat}
def aR.cL(H:aR)(s:Nat)(t:Th):aR:=⟨H.val,λm=>if m=s then aa t else H.con m,H.sub⟩
def aR.fJ(H:aR)(o:Nat)(v:Value):aR:=⟨λm=>if m=o then aa v else H.val m,H.con,H.sub⟩
def aR.kf(H:aR)(s:Nat)(S:Nat->Prop):aR:=⟨H.val,H.con,λm=>if m=s then S else H.sub m⟩
theorem aR.mw{H:aR}{s:Nat}{t:Th}(h:H.con s=ae):H.le (H.cL s t):=⟨λ_ _ h=>h,λm q hq=>by
 grind [aR.cL],λ_ _ _=>rfl⟩
theorem aR.LI{H:aR}{s:Nat}{S:Nat->Prop}(h:H.con s=ae):H.le (H.kf s S):=⟨λ_ _ h=>h,λ_ _ h=>h,λm t hm=>by
 grind [aR.kf]⟩
theorem aR.wQ{H:aR}{s:Nat}{t:Value}(h:H.val s=ae):H.le (H.fJ s t):=⟨λm q hq=>by
 grind [aR.fJ],λ_ _ h=>h,λ_ _ _=>rfl⟩
theorem iQ{α:Type}{o o':Nat}{x y:α}(h:find [(o,x)] o'=aa y):o'=o/\y=x:=by
 rw[bp]at h;split at h
 .grind
 .cases h
theorem qB.JB(hs:aS U H F w ob n){o s:Nat}{t t':Th}{v0:Value}(ho:ob o=aa (s,t))(hv:H.val o=aa v0)(hb:t'.base=t')(Rf:∀k,fp (H.sub n) v0 t' k->fp (H.sub s) v0 t k){D:aM}{v:Value}
 (cG:Ext (fp (H.sub s) v0 t) w w')(sJ:lK (H.cL n t') F w' (H.sub n) v0 t')(hd:aN (H.cL n t') F w' D v):o8 H F w ob n {dst:=D,eat:=[o],make:=[(o,(n,t'))]} v w':=by
 obtain⟨v1,yj,eK⟩:=hs.obj _ _ _ ho;rw[hv]at yj;obtain rfl:=aoB yj
 have pf:∀k,fp (H.sub s) v0 t k->dt H ob [o] k:=λk hk=>⟨o,by simp,s,t,v0,ho,hv,hk⟩
 refine⟨H.cL n t',F,⟨aR.mw (hs.fresh n (aoJ _) (by omega)).2,⟨cG.os,cG.tape,cG.output,cG.size,λk hk hn=>cG.block k hk λe=>hn (pf k e)⟩,λ_ h=>h,λ_ h=> .inl h,λb hb=>api (hs.lt b hb) cG.size⟩,λm hm=>?_,hd,⟨λo' s' q hq=>?_,λo1 o2 s1 s2 q1 q2 u1 u2 dS h1 h2=>?_⟩,λo' h=>?_⟩
 .grind [aR.cL]
 .obtain⟨rfl,e⟩:=iQ hq;obtain⟨rfl,rfl⟩:=Prod.mk.inj e;refine⟨v0,hv,eK.one,by simp[aR.cL,hb],sJ,λk hk=>⟨eK.no k (Rf k hk),api (eK.lt k (Rf k hk)) cG.size, .inr (pf k (Rf k hk))⟩⟩
 all_goals grind [iQ,apA]
theorem qB.new(hs:aS U H F w ob n){eat:List Nat}{t:Th}{v0:Value}(hb:t.base=t)(h1:v0.oneCell'=af){D:aM}{v:Value}
 (cG:Ext (dt H ob eat) w w')(sJ:lK ((H.cL n t).fJ n v0) F w' (H.sub n) v0 t)(Rf:∀k,fp (H.sub n) v0 t k->¬F k/\k<w'.heap.size/\(w.heap.size<=k\/dt H ob eat k))
 (hd:aN ((H.cL n t).fJ n v0) F w' D v):o8 H F w ob n {dst:=D,eat:=eat,make:=[(n,(n,t))]} v w':=by
 have hf:=hs.fresh n (aoJ _) (by omega);refine⟨(H.cL n t).fJ n v0,F,⟨(aR.mw hf.2).trans (aR.wQ (by simp[aR.cL,hf.1])),cG,λ_ h=>h,λ_ h=> .inl h,λb hb=>api (hs.lt b hb) cG.size⟩,λm hm=>?_,hd,⟨λo' s' q hq=>?_,λo1 o2 s1 s2 q1 q2 u1 u2 dS h1 h2=>?_⟩,λo' h=>?_⟩
 .simp[aR.cL,aR.fJ,show m≠n from by omega]
 .obtain⟨rfl,e⟩:=iQ hq;obtain⟨rfl,rfl⟩:=Prod.mk.inj e;exact⟨v0,by simp[aR.fJ],h1,by simp[aR.cL,aR.fJ,hb],sJ,Rf⟩
 .grind [iQ]
 .right
  obtain⟨y,hy⟩:=apA.1 h
  grind [iQ]
def wR(T:bU P)(ob:Nat->Option (Nat×Th))(n:Nat)(t:TypeId)(D V:aM)(k:gw->Option R):Option R:=
 match find T.row t with
 |none=>ae
 |some rt=>match V with
  | .val _ u=>match D with
    | .ptr o p off=>match ob o with
      |some (_, .box T0 tr)=>match tr.get p with
       |some (s,fI)=>bif aoL fI off&&aoL rt.size s.size&&aoL u.size s.size then
         (match tr.put p u with
         |some tr'=>k {dst:= .dead,eat:=[o],make:=[(o,(n, .box T0 tr'))]}
         |none=>ae)else ae
       |none=>ae
      |_=>ae
    | .elem o s r i x p off=>match ob o with
      |some (s', .own T0 r' l)=>match HB r' p with
       |some ⟨q,BE⟩=>bif aoL BE.off off&&aoL rt.size q.size&&aoL r'.size r.size then
         (match flat ob q u with
         |some y=>bif aoL s' s then
           (if h:r.beq r'=af then k {dst:= .dead,eat:=[o],make:=[(o,(n, .own T0 r' (be l i (BE.set (lg (Row.eq_of_beq h) x) y))))]}else ae)
          else(idx l i).bind λx'=>k {dst:= .dead,eat:=[o],make:=[(o,(n, .own T0 r' (be l i (BE.set x' y))))]}
         |none=>ae)else ae
       |none=>ae
      |_=>ae
    |_=>ae
  |_=>ae
theorem bq.cells{agg:Bool}{t:Tree}{v:Value}(h:bq H F w agg t v):∃cs,Holds H F w t cs/\v.cells.toList=cs:=by
 obtain⟨cs,h1,h2,h3⟩:=h;refine⟨cs,h1,?_⟩
 cases agg with
 |true=>rw[h2];rfl
 |false=>
  have e:=h3 rfl;have h1c:=h1.lU v (by rw[e];simp);rw[e]
  cases v<;>first|rfl|simp[aqa]at h1c
theorem zb(T:bU P){t:TypeId}{rt:Row}(Ow:find T.row t=aa rt){x y:Operand}{o s':Nat}{T0:TypeId}{r q:Row}{i:Int}{x':r.den}{z:q.den}{l:List r.den}{p:Path r q}{off g o0 j m cap:Nat}{agg:Bool}{u:Tree}
 (hs:aS U H F w ob n)(fR:ob o=aa (s', .own T0 r l))(hv:H.val o=aa (.slice (aa ⟨g,o0,ae⟩) m cap))(hj:i=(j:Nat))(hi:idx l i=aa x')(hx:ev ρ x= .pointer (aa ⟨g,o0+j*r.size+off,ae⟩))(RP:p.off=off)(hz:rt.size=q.size)
 (hf:flat ob q u=aa z)(hV:bq H F w agg u (ev ρ y)):
 dZ P U H F w ρ ob n ⟨ae, .store t x y,ty,pos,aft,ae⟩ {dst:= .dead,eat:=[o],make:=[(o,(n, .own T0 r (be l i (p.set x' z))))]}:=by
 obtain⟨ti,z0,h1,_,_,h4,_⟩:=T.row_ok _ _ Ow;obtain⟨cs,vA,AX⟩:=hV.cells;have hr:=mM hs hf vA;have gS:=hs.own fR hv;obtain⟨k',hk,aJ,rfl⟩:=jv hi
 obtain rfl:k'=j:=by omega
 obtain⟨cur,hh,hle,cG,lI⟩:=gS.put rfl aJ hs.lt p hr;subst RP;refine dL.unit (rA h1 (h4.trans (hz.trans hr.length.symm)) hx rfl AX hr.lU hh hle) ?_;refine qB.JB (t':= .own T0 r (be l i (p.set l[k'] z))) (D:= .dead) hs fR hv rfl (λ_ h=>h) cG ?_ trivial;have:lK (H.cL n (.own T0 r (be l i (p.set l[k'] z)))) F (w.setRow g (cur.toList.take (o0+k'*r.size+p.off)++cs++cur.toList.drop (o0+k'*r.size+p.off+cs.length)).toArray) (H.sub n) (.slice (aa ⟨g,o0,ae⟩) m cap) (.own T0 r (l.set k' (p.set l[k'] z))):=lI.2
 grind [be,aoF]
theorem LJ(T:bU P){t:TypeId}{D V:aM}{x y:Operand}{k:gw->Option R}{q:R}(h:wR T ob n t D V k=aa q)(hs:aS U H F w ob n)(hx:aN H F w D (ev ρ x))(hy:aN H F w V (ev ρ y)):
 ∃e,k e=aa q/\dZ P U H F w ρ ob n ⟨ae, .store t x y,ty,pos,aft,ae⟩ e:=by
 unfold wR at h;split at h
 .cases h
 rename_i rt Ow;split at h
 case h_2=>cases h
 rename_i agg u;split at h
 .rename_i o p off;split at h
  case h_2=>cases h
  rename_i s0 T0 tr fR;split at h
  case h_2=>cases h
  rename_i s fI hg;obtain⟨h1,h2⟩:=bo h;obtain⟨h1,Eg⟩:=eG h1;obtain⟨h1,Rg⟩:=eG h1;obtain rfl:=beq_true h1;have Rg:=beq_true Rg;have Eg:=beq_true Eg;split at h2
  case h_2=>cases h2
  rename_i tr' hp;obtain⟨b,hb,e⟩:=hx;obtain⟨es,hh,Uf⟩:=hs.box fR hb;obtain⟨cs,vA,AX⟩:=bq.cells hy;have hl:=vA.length;have hle:=(Uf.get hg).2;have yW:=Holds.put vA hg hp Eg.symm Uf;obtain⟨ti,z0,g1,_,_,g4,_⟩:=T.row_ok _ _ Ow;refine⟨_,h2,dL.unit (rA g1 (by omega) e rfl AX vA.lU hh (by simp;omega)) ?_⟩
  have Rh:¬F b:=by
   obtain⟨v1,yj,eK⟩:=hs.obj _ _ _ fR;rw[hb]at yj;obtain rfl:=aoB yj;exact eK.no b rfl
  have cG:Ext (fp (H.sub s0) (.pointer (aa ⟨b,0,ae⟩)) (.box T0 tr)) w (w.setRow b (es.toArray.toList.take fI++cs++es.toArray.toList.drop (fI+cs.length)).toArray):=
   ⟨rfl,rfl,rfl,by simp,λk _ hk=>setRow_other w b k _ λe=>hk (by simp[fp,e])⟩
  refine qB.JB (t':= .box T0 tr') (D:= .dead) hs fR hb rfl (λk hk=>hk) cG ⟨b,_,rfl,setRow_heap w b _ _ T0 (0,0) hh,?_⟩ trivial
  have hk:=yW.keep (H':=H.cL n (.box T0 tr')) (aR.mw (hs.fresh n (aoJ _) (by omega)).2) (Step.ext cG hs.lt λk hk=>by
   grind [fp])
  grind
 .rename_i o s r i x0 p off;split at h
  case h_2=>cases h
  rename_i s' T0 r' l fR;split at h
  case h_2=>cases h
  rename_i q' BE CP;obtain⟨h1,h2⟩:=bo h;obtain⟨h1,Eg⟩:=eG h1;obtain⟨h1,Rg⟩:=eG h1;have h1:=beq_true h1;have Rg:=beq_true Rg;have Eg:=beq_true Eg;split at h2
  case h_2=>cases h2
  rename_i z hf;obtain⟨g,o0,qq,T',m,cap,l0,e1,e2,e3,e4,e5⟩:=hx;rw[<-Eg]at e5
  cases sq:aoL s' s with
  |true=>
   rw[sq,cond_true]at h2;obtain rfl:=beq_true sq;split at h2
   case isFalse=>cases h2
   rename_i EB;obtain⟨v,hv,eK⟩:=hs.obj _ _ _ fR;have hc:=eK.con;rw[e3]at hc
   obtain⟨rfl,CO⟩:T'=T0/\(⟨r,l0⟩:(r:Row)×List r.den)=⟨r',l⟩:=by
    grind [Th.base]
   cases CO;exact⟨_,h2,zb T Ow hs fR e1 e2 e4 e5 h1 Rg hf hy⟩
  |false=>
   rw[sq,cond_false]at h2;obtain⟨x',U8,h2⟩:=bind_some h2;exact⟨_,h2,zb T Ow hs fR e1 e2 U8 e5 h1 Rg hf hy⟩
 .cases h
theorem Ox(hs:aS U H F w ob n){t:TypeId}{tr:Tree}{cs:List Value}(hh:Holds H F w tr cs):
 o8 H F w ob n {dst:= .ptr n [] 0,make:=[(n,(n, .box t tr))]} (.pointer (aa ⟨w.heap.size,0,ae⟩)) (w.alloc (.cells cs.toArray t)):=by
 have cG:Ext (dt H ob []) w (w.alloc (.cells cs.toArray t)):=⟨rfl,rfl,rfl,by simp,λk hk _=>Below.heap_alloc w _ k hk⟩
 have hf:=hs.fresh n (aoJ _) (by omega);refine qB.new (v0:= .pointer (aa ⟨w.heap.size,0,ae⟩)) hs rfl rfl cG ⟨_,cs,rfl,heap_alloc_new w _,?_⟩ (λk hk=>?_) ⟨w.heap.size,by simp[aR.fJ],rfl⟩
 .exact hh.keep ((aR.mw hf.2).trans (aR.wQ (by simp[aR.cL,hf.1]))) (Step.alloc hs.lt _)
 .simp only[fp,Value.pointer.injEq,aoW,Addr.mk.injEq,and_true]at hk;subst hk;exact⟨λe=>by have:=hs.lt _ e;omega,by simp, .inl (aoJ _)⟩
def wS(T:bU P)(n:Nat)(t:TypeId)(k:gw->Option R):Option R:=
 match find T.row t with
 |some r=>k {dst:= .ptr n [] 0,make:=[(n,(n, .box t r.Ez))]}
 |none=>ae
theorem LK(T:bU P){t:TypeId}{k:gw->Option R}{q:R}(h:wS T n t k=aa q)(hs:aS U H F w ob n):
 ∃e,k e=aa q/\dZ P U H F w ρ ob n ⟨aa d, .alloc t,ty,pos,aft,ae⟩ e:=by
 unfold wS at h;split at h
 case h_2=>cases h
 rename_i r hr;obtain⟨ti,z,h1,h2,h3,_,_⟩:=T.row_ok _ _ hr;refine⟨_,h,dL.val (Lq h1 h2) ?_⟩;have:=Ox (t:=t) hs (Row.p5 H F w r);rw[<-h3,apF]at this;exact this
def LL(n:Nat)(t:TypeId)(V:aM)(k:gw->Option R):Option R:=
 match V with
 | .val _ u=>k {dst:= .ptr n [] 0,make:=[(n,(n, .box t u))]}
 |_=>ae
theorem RQ{t:TypeId}{V:aM}{x:Operand}{k:gw->Option R}{q:R}(h:LL n t V k=aa q)(hs:aS U H F w ob n)(hx:aN H F w V (ev ρ x)):
 ∃e,k e=aa q/\dZ P U H F w ρ ob n ⟨aa d, .box t x,ty,pos,aft,ae⟩ e:=by
 unfold LL at h;split at h
 case h_2=>cases h
 rename_i agg u;obtain⟨cs,vA,AX⟩:=bq.cells hx;refine⟨_,h,dL.val (RE rfl) ?_⟩;have:=Ox (t:=t) hs vA;rw[<-AX,apF]at this;exact this
end
end Go.Proofs.YtfjgcenlllgonaaGreatDoor
end
namespace Go.Proofs.YtfjgcenlllgonaaGreatDoor
open Go Go.RowKit
set_option maxRecDepth 100000
set_option linter.unusedSimpArgs false
set_option linter.unusedVariables false
set_option linter.defProp false
section
section
variable {P:Program} {ρ:Nat->Value} {w w':World} {H H':aR} {F F':Nat->Prop} {U:Nat->Prop} {ob:Nat->Option (Nat×Th)} {n:Nat} {R:Type}
variable {op:Op} {ty:TypeId} {pos:String} {aft:Array Edge} {d:Nat}
theorem tO{base:Nat}{T:TypeId}{r:Row}{v:Value}{l:List r.den}(h:lV base F w T r v l):v.oneCell'=af:=by
 obtain⟨A,cap,rfl,_⟩:=h.reads;rfl
theorem tP{H:aR}{o:Nat}{v:Value}(h:H.val o=aa v)(h1:v.oneCell'=af):aN H F w (.val ag (.own o)) v:=⟨[v],⟨v,h,h1,rfl⟩,rfl,λ_=>rfl⟩
theorem wT(hs:aS U H F w ob n){e:TypeId}{r:Row}{v:Value}{l:List r.den}{eat:List Nat}(cG:Ext (dt H ob eat) w w')(ho:lV 0 F w' e r v l)(hn:∀k,cc v k->dt H ob eat k\/w.heap.size<=k):
 o8 H F w ob n {dst:= .val ag (.own n),eat:=eat,make:=[(n,(n, .own e r l))]} v w':=
 qB.new (v0:=v) hs rfl (tO ho) cG ho.2 (λk hk=>⟨ho.1 k hk,ho.lt k hk,(hn k hk).symm⟩) (tP (by simp[aR.fJ]) (tO ho))
theorem BF{g:Nat->Prop}(o:Obj):Ext g w (w.alloc o):=⟨rfl,rfl,rfl,by simp,λk hk _=>Below.heap_alloc w _ k hk⟩
def mkC{α:Type}(a b:Int)(z:α):Option (List α):=if 0<=a/\a<=b/\b<=4294967296 then aa (aoE a.toNat z)else ae
def sR:Operand->Operand->Bool
 | .tmp a, .tmp b=>aoL a b
 | .const (.int _ a), .const (.int _ b)=>decide (a=b)
 |_,_=>ag
theorem BG{e t:TypeId}{r:Row}{a b:Int}(ht:P.underlying t=aa (.slice e))(sB:TI P e r)(hs:aS U H F w ob n){ka kb:IntKind}{x y:Operand}(hx:ev ρ x= .int ka a)(hy:ev ρ y= .int kb b)(h0:0<=a)(h1:a<=b)(h2:b<=4294967296):
 ∃v w',(execOp (ev ρ) ⟨aa d, .makeSlice t x y,ty,pos,aft,ae⟩).run P w= .ok (.value v) w'/\(∀g,Ext g w w')/\lV 0 F w' e r v (aoE a.toNat r.zero)/\∀k,cc v k->w.heap.size<=k:=by
 obtain⟨ti,z,hi,hz,X4,pS,Nv⟩:=sB;obtain⟨ca,rfl⟩:=aoU h0;obtain⟨cb,rfl⟩:=aoU (Int.le_trans h0 h1)
 have hc:cb<=4294967296:=by omega
 have CK:ti.bytes*cb<=281474976710656:=Nat.le_trans (Nat.mul_le_mul Nv hc) (by omega)
 have rB:(ti.bytes:Int)*(cb:Int)<=281474976710656:=by
  have h:((ti.bytes*cb:Nat):Int)<=281474976710656:=by omega
  rwa [apy]at h
 have cD:=run_make (P:=P) w t e ti z ht hi hz ka kb ca cb (by omega) (by omega) rB (by omega)
 have hzl:z.cells=r.iK.toArray:=by rw[<-X4,apF]
 have hzn:r.iK.length=r.size:=(dF.zero F w r).length;have pC:=r.size_pos;simp only[aoF]at cD;refine⟨.slice (aa ⟨w.heap.size,0,ae⟩) ca cb,w.alloc (.cells (madeCells z.cells (cb*ti.size)) e),by simp[execOp,hx,hy,cD],λ_=>BF _,⟨λq hq=>?_,(madeCells z.cells (cb*ti.size)).toList.take (ca*r.size),?_,?_⟩,λq hq=>?_⟩
 .simp only[cc,apg,aoW]at hq;intro e;have:=hs.lt _ e;omega
 .have hle:ca*r.size<=cb*r.size:=aoZ _ (by omega);have abZ:=size_madeCells z.cells (cb*ti.size);refine pZ.of ⟨by grind, .inr ⟨w.heap.size,cb,madeCells z.cells (cb*ti.size),by simp,aoR _,heap_alloc_new w _,by simp;omega,by simp[maxLen];omega,by rw[abZ,pS],by simp⟩⟩
 .intro i aJ;simp only[aoF,List.length_replicate]at aJ;have hle:(i+1)*r.size<=ca*r.size:=aoZ _ aJ
  grind [Oa,dF.zero,List.drop_take]
 .simp only[cc,apg,aoW]at hq;omega
theorem EC{e t:TypeId}{r:Row}{a b:Int}(ht:P.underlying t=aa (.slice e))(sB:TI P e r)(hs:aS U H F w ob n){ka kb:IntKind}{x y:Operand}(hx:ev ρ x= .int ka a)(hy:ev ρ y= .int kb b)(h0:0<=a)(h1:a<=b)(h2:b<=4294967296):
 dZ P U H F w ρ ob n ⟨aa d, .makeSlice t x y,ty,pos,aft,ae⟩ {dst:= .val ag (.own n),make:=[(n,(n, .own e r (aoE a.toNat r.zero)))]}:=by
 obtain⟨v,w',cD,cG,gS,Oy⟩:=BG (d:=d) (ty:=ty) (pos:=pos) (aft:=aft) ht sB hs hx hy h0 h1 h2;exact dL.val cD (wT hs (cG _) gS λq hq=> .inr (Oy q hq))
def zc(T:bU P)(n:Nat)(t:TypeId)(same:Bool)(a b:Int)(k:gw->Option R):Option R:=
 match find T.und t with
 |some (.slice e)=>match find T.row e with
  |some r=>(bif same then pw a r.zero else mkC a b r.zero).bind λl=>k {dst:= .val ag (.own n),make:=[(n,(n, .own e r l))]}
  |none=>ae
 |_=>ae
theorem BH{x y:Operand}(h:sR x y=af){a b:Int}{ka kb:IntKind}(hx:ev ρ x= .int ka a)(hy:ev ρ y= .int kb b):a=b:=by
 unfold sR at h
 grind [beq_true,ev]
theorem ED(T:bU P){t:TypeId}{a b:Int}{ka kb:IntKind}{x y:Operand}{k:gw->Option R}{q:R}(h:zc T n t (sR x y) a b k=aa q)(hs:aS U H F w ob n)(hx:ev ρ x= .int ka a)(hy:ev ρ y= .int kb b):
 ∃e,k e=aa q/\dZ P U H F w ρ ob n ⟨aa d, .makeSlice t x y,ty,pos,aft,ae⟩ e:=by
 unfold zc at h;split at h
 case h_2=>cases h
 rename_i e hu;split at h
 case h_2=>cases h
 rename_i r hr;obtain⟨l,hl,hk⟩:=bind_some h;have sB:=T.row_ok _ _ hr;have ht:=T.und_ok _ _ hu
 cases oC:sR x y with
 |true=>
  rw[oC,cond_true]at hl;unfold pw at hl;split at hl
  case isFalse=>cases hl
  rename_i hc;obtain rfl:=aoB hl;obtain rfl:=BH oC hx hy;exact⟨_,hk,EC ht sB hs hx hy hc.1 (apR _) hc.2⟩
 |false=>
  rw[oC,cond_false]at hl;unfold mkC at hl;split at hl
  case isFalse=>cases hl
  rename_i hc;obtain rfl:=aoB hl;exact⟨_,hk,EC ht sB hs hx hy hc.1 hc.2.1 hc.2.2⟩
def asL(ob:Nat->Option (Nat×Th))(r:Row)(D:aM):Option (List r.den):=
 match yi ob D with
 |some (.read s l)=>if h:s.beq r=af then aa (lg (r:= .slice s) (s:= .slice r) (aw Row.slice (Row.eq_of_beq h)) l)else ae
 |some (.own _ _ _ s l)=>if h:s.beq r=af then aa (lg (r:= .slice s) (s:= .slice r) (aw Row.slice (Row.eq_of_beq h)) l)else ae
 |some .nil=>aa []
 |some (.view ..)=>ae
 |some (.deep ..)=>ae
 |none=>ae
theorem U9(hs:aS U H F w ob n){r:Row}{D:aM}{l:List r.den}{v:Value}(h:asL ob r D=aa l)(hd:aN H F w D v):Reads F w r v l:=by
 unfold asL at h;split at h
 .rename_i s m iP;split at h
  case isFalse=>cases h
  rename_i hb;obtain rfl:=Row.eq_of_beq hb;obtain rfl:=aoB h;exact dF.reads (kM hs iP hd)
 .rename_i o s0 T s m iP;split at h
  case isFalse=>cases h
  rename_i hb;obtain rfl:=Row.eq_of_beq hb;obtain rfl:=aoB h;exact(kM hs iP hd).2.2.reads
 .rename_i iP;obtain rfl:=aoB h;have:v=_:=kM hs iP hd;subst this;exact(dF.nil F w r).reads
 all_goals grind
def xE:Ot->Int
 | .read _ l=>(l.length:Int)
 | .own _ _ _ _ l=>(l.length:Int)
 | .nil=>0
 | .view _ _ _ l=>(l.length:Int)
 | .deep _ _ _ _ l _=>(l.length:Int)
theorem Oz{v:Value}{k:Ot}(h:RN U H F w ob v k):∃A m cap,v= .slice A m cap/\xE k=(m:Int):=by
 cases k with
 |read r l=>
  obtain⟨A,cap,e,_⟩:=dF.Hn h;exact⟨A,_,cap,e,rfl⟩
 |own o s T r l=>
  obtain⟨A,cap,e,_⟩:=h.2.2.reads;exact⟨A,_,cap,e,rfl⟩
 |nil=>exact⟨ae,0,0,h,rfl⟩
 |view o s r m=>
  obtain⟨A,cap,T,l,a,b,_,_,h3,h4,rfl,rfl⟩:=h;refine⟨_,_,_,rfl,?_⟩
  grind [xE]
 |deep o s T d l hh=>
  obtain⟨lh,_,⟨xs,Lp,_⟩,vx,_⟩:=h.2.2.ok
  rcases Lp.2 with⟨Ou,h0⟩|⟨g,o0,cap,cur,LH,_,_,_⟩
  all_goals grind [xE]
def LM(T:bU P)(ob:Nat->Option (Nat×Th))(t:TypeId)(D:aM):Option aM:=
 match find T.und t with
 |some (.slice _)=>match yi ob D with
  |some k=>aa (pE .i64 (xE k))
  |none=>ae
 |some .str=>match Et D with
  |some s=>aa (pE .i64 (s.size:Int))
  |none=>ae
 |_=>ae
theorem JC(T:bU P){t:TypeId}{D D':aM}{x:Operand}(h:LM T ob t D=aa D')(hs:aS U H F w ob n)(hx:aN H F w D (ev ρ x)):
 dZ P U H F w ρ ob n ⟨aa d, .call {callee:= .builtin .len,args:= #[x],argTypes:= #[t]},ty,pos,aft,ae⟩ {dst:=D'}:=by
 unfold LM at h;split at h
 .rename_i e hu;split at h
  case h_2=>cases h
  rename_i k hk;obtain rfl:=aoB h;obtain⟨A,m,cap,e1,e2⟩:=Oz (kM hs hk hx);rw[e2];exact bm hs (N7 rfl (T.und_ok _ _ hu) e1) (bq.mu ..)
 .rename_i hu;split at h
  case h_2=>cases h
  rename_i s hk;obtain rfl:=aoB h;exact bm hs (Lk (T.und_ok _ _ hu) (yY hk hx)) (bq.mu ..)
 .cases h
def tQ(T:bU P)(ob:Nat->Option (Nat×Th))(n:Nat)(t:TypeId)(X Y:aM)(k:gw->Option R):Option R:=
 match find T.und t with
 |some (.slice e)=>match find T.row e with
  |some r=>match asL ob r Y with
   |some m=>match yi ob X with
    |some .nil=>(bR ([]:List r.den) m).bind λl=>k {dst:= .val ag (.own n),make:=[(n,(n, .own e r l))]}
    |some (.own o _ T0 s l0)=>bif aoL T0 e then
      (if h:s.beq r=af then(bR (lg (r:= .slice s) (s:= .slice r) (aw Row.slice (Row.eq_of_beq h)) l0) m).bind λl=>k {dst:= .val ag (.own n),eat:=[o],make:=[(n,(n, .own e r l))]}else ae)else ae
    |_=>ae
   |none=>ae
  |none=>ae
 |_=>ae
theorem HC(T:bU P){t:TypeId}{X Y:aM}{x y:Operand}{k:gw->Option R}{q:R}(h:tQ T ob n t X Y k=aa q)(hs:aS U H F w ob n)(hx:aN H F w X (ev ρ x))(hy:aN H F w Y (ev ρ y)):
 ∃e,k e=aa q/\dZ P U H F w ρ ob n ⟨aa d, .call {callee:= .builtin .append,args:= #[x,y],argTypes:= #[t,t]},ty,pos,aft,ae⟩ e:=by
 unfold tQ at h;split at h
 case h_2=>cases h
 rename_i e hu;split at h
 case h_2=>cases h
 rename_i r hr;obtain⟨ti,z,h1,h2,h3,h4,h5⟩:=T.row_ok _ _ hr;have ht:=T.und_ok _ _ hu;split at h
 case h_2=>cases h
 rename_i m hm;have jN:=U9 hs hm hy
 have key:∀{l out:List r.den},lV 0 F w e r (ev ρ x) l->bR l m=aa out->∃v' w',(execOp (ev ρ) ⟨aa d, .call {callee:= .builtin .append,args:= #[x,y],argTypes:= #[t,t]},ty,pos,aft,ae⟩).run P w= .ok (.value v') w'/\Ext (cc (ev ρ x)) w w'/\lV 0 F w' e r v' out/\(∀k,cc v' k->cc (ev ρ x) k\/w.heap.size<=k):=by
  intro l out ho ha;obtain⟨v',w',cD,he,py,Ya⟩:=yR ty ht h1 h2 h3 h4 h5 ho jN ha hs.lt (aoR _);refine⟨v',w',by simp[execOp,resolve,invoke,builtin,cD],he,py,λk hk=>?_⟩
  rcases Ya with g|g
  .exact .inl (g▸hk)
  .simp_all
 split at h
 .rename_i iP;obtain⟨l,hl,hk⟩:=bind_some h;have hv:ev ρ x=_:=kM hs iP hx;obtain⟨v',w',cD,he,py,hn⟩:=key (by rw[hv];exact lV.nil 0 F w e r) hl
  have no:∀k,¬cc (ev ρ x) k:=λk hk=>by rw[hv]at hk;simp[cc,apg]at hk
  exact⟨_,hk,dL.val cD (wT hs ⟨he.os,he.tape,he.output,he.size,λk hk _=>he.block k hk (no k)⟩ py (by grind))⟩
 .rename_i o s0 T0 s l0 iP;obtain⟨hb,h⟩:=bo h;obtain rfl:=beq_true hb;split at h
  case isFalse=>cases h
  rename_i EB;obtain rfl:=Row.eq_of_beq EB;obtain⟨l,hl,hk⟩:=bind_some h;obtain⟨hv,fR,gS⟩:=kM hs iP hx;obtain⟨v',w',cD,he,py,hn⟩:=key gS hl
  have pf:∀k,cc (ev ρ x) k->dt H ob [o] k:=λk hk=>⟨o,by simp,_,_,_,fR,hv,hk⟩
  exact⟨_,hk,dL.val cD (wT hs ⟨he.os,he.tape,he.output,he.size,λk hk By=>he.block k hk λhm=>By (pf k hm)⟩ py λk hk=>(hn k hk).imp (pf k) id)⟩
 .cases h
def EE(ob:Nat->Option (Nat×Th))(r:Row):List aM->Option (List r.den)
 |[]=>aa []
 | .val _ u::l=>match flat ob r u with
   |some x=>match EE ob r l with
    |some xs=>aa (x::xs)
    |none=>ae
   |none=>ae
 |_::_=>ae
def vI(rd:Operand->Option aM):List Operand->Option (List aM)
 |[]=>aa []
 |x::xs=>match rd x with
  |some d=>match vI rd xs with
   |some ds=>aa (d::ds)
   |none=>ae
  |none=>ae
def ic(H:aR)(F:Nat->Prop)(w:World):List aM->List Value->Prop
 |[],vs=>vs=[]
 |d::ds,vs=>∃v us,vs=v::us/\aN H F w d v/\ic H F w ds us
theorem qO{rd:Operand->Option aM}(h:∀x d,rd x=aa d->aN H F w d (ev ρ x)):{xs:List Operand}->{ds:List aM}->vI rd xs=aa ds->ic H F w ds (xs.map (ev ρ))
 |[],ds,e=>by obtain rfl:=aoB e;rfl
 |x::xs,ds,e=>by
  unfold vI at e
  cases h1:rd x with
  |none=>rw[h1]at e;cases e
  |some d=>
   cases h2:vI rd xs with
   |none=>grind
   |some ds'=>
    simp only[h1,h2,aoW]at e;subst e;exact⟨_,_,rfl,h _ _ h1,qO h h2⟩
theorem EF(hs:aS U H F w ob n){r:Row}:{ds:List aM}->{l:List r.den}->{vs:List Value}->EE ob r ds=aa l->ic H F w ds vs->yS F w r vs l
 |[],l,vs,e,h=>by
  obtain rfl:=aoB e;rw[show vs=[]from h];exact .nil
 | .val _ u::ds,l,vs,e,h=>by
   obtain⟨v,us,rfl,h1,h2⟩:=h;unfold EE at e
   cases hf:flat ob r u with
   |none=>rw[hf]at e;cases e
   |some x=>
    cases hg:EE ob r ds with
    |none=>grind
    |some xs=>
     simp only[hf,hg,aoW]at e;subst e;obtain⟨cs,vA,AX⟩:=bq.cells h1;exact .cons AX (mM hs hf vA) (EF hs hg h2)
 | .dead::_,_,_,e,_=>by cases e
 | .undef::_,_,_,e,_=>by cases e
 | .ptr .. ::_,_,_,e,_=>by cases e
 | .at .. ::_,_,_,e,_=>by cases e
 | .elem .. ::_,_,_,e,_=>by cases e
 | .tup _::_,_,_,e,_=>by cases e
 | .dlm .. ::_,_,_,e,_=>by cases e
theorem zd{e t:TypeId}{r:Row}{xs:List Operand}{l:List r.den}{parts:Array (Nat×Operand)}(ht:P.underlying t=aa (.slice e))(sB:TI P e r)(fl:parts=((xs.zipIdx).map λp=>(p.2,p.1)).toArray)(oC:xs.length*r.size<=16777216)
 (hl:yS F w r (xs.map (ev ρ)) l)(hs:aS U H F w ob n):
 ∃v w',(execOp (ev ρ) ⟨aa d, .buildSlice t xs.length parts,ty,pos,aft,ae⟩).run P w= .ok (.value v) w'/\(∀g,Ext g w w')/\lV 0 F w' e r v l/\∀k,cc v k->w.heap.size<=k:=by
 obtain⟨ti,z,h1,h2,h3,h4,h5⟩:=sB
 have LN:(xs.map (ev ρ)).length=xs.length:=by simp
 have vx:=hl.length;have pC:=r.size_pos
 have X3:z.cells.size=r.size:=by rw[<-(dF.zero F w r).length,<-h3];simp
 have Yg:(parts.map λ(i,q)=>(i,ev ρ q)).toList=((xs.map (ev ρ)).zipIdx).map λp=>(p.2,p.1):=by
  subst fl;simp[List.zipIdx_map,Function.comp_def]
 generalize hm:xs.length=m at*;generalize xs.map (ev ρ)=vs at*
 have key:∀zz:Array Value,zz.size=m*r.size->∃Hg:List Value,aqw (λi=>aa (i*r.size,r.size)) zz ((vs.zipIdx).map λp=>(p.2,p.1))=aa Hg.toArray/\Hg.length=l.length*r.size/\∀i(hi:i<l.length),dF F w r ((Hg.drop (i*r.size)).take r.size) l[i]:=by
  intro zz Yh;obtain⟨Hg,a1,a2,a3⟩:=hl.fill 0 [] zz.toList (by simp) (by rw[Array.length_toList,Yh,LN]);exact⟨Hg,by simpa using a1,a2,a3⟩
 have cD:∃Hg:List Value,(execOp (ev ρ) ⟨aa d, .buildSlice t m parts,ty,pos,aft,ae⟩).run P w= .ok (.value (.slice (aa ⟨w.heap.size,0,ae⟩) m m)) (w.alloc (.cells Hg.toArray e))/\Hg.length=l.length*r.size/\∀i(hi:i<l.length),dF F w r ((Hg.drop (i*r.size)).take r.size) l[i]:=by
  by_cases h0:m*r.size=0
  .obtain⟨Hg,a1,a2,a3⟩:=key #[] (by simp[h0]);refine⟨Hg,?_,a2,a3⟩;simp only[execOp,Instr.buildSlice,ao9,run_underlying ht,apM];rw[Yg]
   have Ug:Array.range 0=(#[]:Array Nat):=by rfl
   simp[sizeOf,typeInfo,h1,h4,h0,newRow,Ug,a1]
  .obtain⟨Hg,a1,a2,a3⟩:=key ((Array.range (m*r.size)).map (z.cells[· %z.cells.size]!)) (by simp);refine⟨Hg,?_,a2,a3⟩;simp only[execOp,Instr.buildSlice,ao9,run_underlying ht,apM];rw[Yg];simp[sizeOf,typeInfo,h1,h4,h0,zeroValue,h2,newRow,a1,show¬(16777216<m*r.size)from by omega]
 obtain⟨Hg,cD,a2,a3⟩:=cD
 have LO:m=l.length:=by omega
 have ajp:m<=16777216:=Nat.le_trans (Nat.le_mul_of_pos_right m pC) oC;refine⟨_,_,cD,λg=>BF _,⟨λk hk=>?_,Hg,?_,λi hi=>(a3 i hi).step (Step.alloc hs.lt _)⟩,λk hk=>?_⟩
 .simp only[cc,apg,aoW]at hk;intro e;have:=hs.lt _ e;omega
 .have:=World.ownsRow_lit (base:=0) (e:=e) (size:=r.size) w Hg.toArray m (aoR _) (by simp[maxLen];omega) (by simp[a2,LO]);rw[LO]at this⊢;simpa using pZ.of this
 .simp only[cc,apg,aoW]at hk;omega
theorem run_build{e t:TypeId}{r:Row}{xs:List Operand}{l:List r.den}{parts:Array (Nat×Operand)}(ht:P.underlying t=aa (.slice e))(sB:TI P e r)(fl:parts=((xs.zipIdx).map λp=>(p.2,p.1)).toArray)(oC:xs.length*r.size<=16777216)
 (hl:yS F w r (xs.map (ev ρ)) l)(hs:aS U H F w ob n):
 dZ P U H F w ρ ob n ⟨aa d, .buildSlice t xs.length parts,ty,pos,aft,ae⟩ {dst:= .val ag (.own n),make:=[(n,(n, .own e r l))]}:=by
 obtain⟨v,w',h1,h2,h3,h4⟩:=zd (d:=d) (ty:=ty) (pos:=pos) (aft:=aft) ht sB fl oC hl hs;exact dL.val h1 (wT hs (h2 _) h3 λk hk=> .inr (h4 k hk))
def JD:Nat->List (Nat×Operand)->Bool
 |_,[]=>af
 |k,p::l=>aoL p.1 k&&JD (k+1) l
theorem ze:{k:Nat}->{l:List (Nat×Operand)}->JD k l=af->l=((l.map (·.2)).zipIdx k).map λp=>(p.2,p.1)
 |_,[],_=>rfl
 |k,p::l,h=>by
  obtain⟨h1,h2⟩:=eG h;have h1:=beq_true h1;have ih:=ze h2
  grind [List.zipIdx_cons]
def my(T:bU P)(rd:Operand->Option aM)(ob:Nat->Option (Nat×Th))(n:Nat)(t:TypeId)(m:Nat)(parts:Array (Nat×Operand))(k:gw->Option R):Option R:=
 match find T.und t with
 |some (.slice e)=>match find T.row e with
  |some r=>bif JD 0 parts.toList&&aoL m parts.toList.length&&Nat.ble (m*r.size) 16777216 then
    (match vI rd (parts.toList.map (·.2))with
    |some ds=>match EE ob r ds with
     |some l=>k {dst:= .val ag (.own n),make:=[(n,(n, .own e r l))]}
     |none=>ae
    |none=>ae)else ae
  |none=>ae
 |_=>ae
theorem zf(T:bU P){rd:Operand->Option aM}(jN:∀x d,rd x=aa d->aN H F w d (ev ρ x)){t:TypeId}{m:Nat}{parts:Array (Nat×Operand)}{k:gw->Option R}{q:R}(h:my T rd ob n t m parts k=aa q)(hs:aS U H F w ob n):
 ∃e,k e=aa q/\dZ P U H F w ρ ob n ⟨aa d, .buildSlice t m parts,ty,pos,aft,ae⟩ e:=by
 unfold my at h;split at h
 case h_2=>cases h
 rename_i e hu;split at h
 case h_2=>cases h
 rename_i r hr;obtain⟨h1,h⟩:=bo h;obtain⟨h1,h3⟩:=eG h1;obtain⟨h1,h2⟩:=eG h1;have h2:=beq_true h2
 have h3:m*r.size<=16777216:=by simpa using h3
 split at h
 case h_2=>cases h
 rename_i ds AY;split at h
 case h_2=>cases h
 rename_i l hl;have Yi:=EF hs hl (qO jN AY)
 have hp:parts=(((parts.toList.map (·.2)).zipIdx).map λp=>(p.2,p.1)).toArray:=by
  rw[<-ze h1,apF]
 have hm:m=(parts.toList.map (·.2)).length:=by simpa using h2
 refine⟨_,h,?_⟩;have:=run_build (d:=d) (ty:=ty) (pos:=pos) (aft:=aft) (T.und_ok _ _ hu) (T.row_ok _ _ hr) hp (by rw[<-hm];exact h3) Yi hs
 grind
def JE{P:Program}(T:bU P)(fs:List (TypeId×Nat)):Tree->List (Nat×aM)->Option Tree
 |t,[]=>aa t
 |t,(f, .val _ u)::l=>match t.get (vG fs.length f)with
  |some (s,off)=>match fs[f]? with
   |some (ft,fI)=>bif aoL off fI&&aoL u.size s.size&&(match find T.row ft with|some r=>aoL r.size u.size|none=>ag)then
     (match t.put (vG fs.length f) u with
     |some t'=>JE T fs t' l
     |none=>ae)else ae
   |none=>ae
  |none=>ae
 |_,_::_=>ae
def yA(T:bU P):List (TypeId×Nat)->Bool
 |[]=>af
 |p::fs=>(match find T.row p.1 with|some _=>af|none=>ag)&&yA T fs
def place(T:bU P)(fs:List (TypeId×Nat))(i:Nat):Option (Nat×Nat):=
 match fs[i]? with
 |some (ft,off)=>match find T.row ft with
  |some r=>aa (off,r.size)
  |none=>ae
 |none=>ae
theorem zg(T:bU P):{l:List Field}->{fs:List (TypeId×Nat)}->l.map (λf=>(f.type,f.offset))=fs->yA T fs=af->
 ∃pl:List (Nat×Nat),(l.mapM λ(f:Field)=>(do pure (f.offset,<-sizeOf f.type):Sem (Nat×Nat))).run P w= .ok pl w/\∀i,pl[i]? =place T fs i
 |[],fs,h,_=>by
  subst h;exact⟨[],by simp,λi=>by simp[place]⟩
 |f::l,fs,h,hz=>by
  subst h;obtain⟨h1,h2⟩:=eG hz;obtain⟨pl,Yj,Uh⟩:=zg T (l:=l) rfl h2
  cases hr:find T.row f.type with
  |none=>rw[hr]at h1;cases h1
  |some r=>
   obtain⟨ti,z,g1,_,_,g4,_⟩:=T.row_ok _ _ hr;refine⟨(f.offset,r.size)::pl,?_,λi=>?_⟩
   .have Rg:(sizeOf f.type).run P w= .ok r.size w:=by simp[sizeOf,typeInfo,g1,g4]
    simp_all
   grind [place]
end
end
section
section
variable {P:Program} {ρ:Nat->Value} {w w':World} {H H':aR} {F F':Nat->Prop} {U:Nat->Prop} {ob:Nat->Option (Nat×Th)} {n:Nat} {R:Type}
variable {op:Op} {ty:TypeId} {pos:String} {aft:Array Edge} {d:Nat}
theorem EG(T:bU P){fs:List (TypeId×Nat)}{pl:List (Nat×Nat)}(hz:yA T fs=af)(pU:∀i,pl[i]? =place T fs i)(pS:∀ft off r,(ft,off)∈fs->find T.row ft=aa r->True):
 {parts:List (Nat×aM)}->{t t':Tree}->{cs:List Value}->{vs:List (Nat×Value)}->JE T fs t parts=aa t'->Holds H F w t cs->parts.map (·.1)=vs.map (·.1)->ic H F w (parts.map (·.2)) (vs.map (·.2))->
 ∃yd,aqw (pl[·]?) cs.toArray vs=aa yd.toArray/\Holds H F w t' yd
 |[],t,t',cs,vs,h,hh,h1,h2=>by
  obtain rfl:=aoB h
  have:vs=[]:=by simpa using h1.symm
  subst this;exact⟨cs,by simp[aqw],hh⟩
 |(f, .val agg u)::parts,t,t',cs,vs,h,hh,h1,h2=>by
  obtain⟨v,us,e,hv,h3⟩:=h2
  cases vs with
  |nil=>simp at e
  |cons fv vs=>
   obtain⟨f',v'⟩:=fv;simp only[aqi,ap5]at h1 e;obtain⟨rfl,h1⟩:=h1;obtain⟨rfl,rfl⟩:=e;unfold JE at h;split at h
   case h_2=>cases h
   rename_i s off hg;split at h
   case h_2=>cases h
   rename_i ft fI hf;obtain⟨hb,h'⟩:=bo h;clear h;obtain⟨hb,hb3⟩:=eG hb;obtain⟨Hh,AZ⟩:=eG hb;have Hh:=beq_true Hh;subst Hh;have AZ:=beq_true AZ;split at h'
   case h_2=>cases h'
   rename_i tp hp;obtain⟨c1,Nw,AX⟩:=bq.cells hv;have hl:=Nw.length;have hle:=(hh.get hg).2
   cases hr:find T.row ft with
   |none=>grind
   |some r=>
    simp only[hr]at hb3;have hb3:=beq_true hb3
    have Va:pl[f]? =aa (off,r.size):=by rw[pU];simp[place,hf,hr]
    rw[wM Va AX (by omega) (by omega)];have yW:=Holds.put Nw hg hp AZ.symm hh;rw[show u.size=r.size from by omega]at yW;exact EG T hz pU pS h' yW h1 h3
 |(_, .dead)::_,_,_,_,_,h,_,_,_=>by cases h
 |(_, .undef)::_,_,_,_,_,h,_,_,_=>by cases h
 |(_, .ptr ..)::_,_,_,_,_,h,_,_,_=>by cases h
 |(_, .at ..)::_,_,_,_,_,h,_,_,_=>by cases h
 |(_, .elem ..)::_,_,_,_,_,h,_,_,_=>by cases h
 |(_, .tup _)::_,_,_,_,_,h,_,_,_=>by cases h
 |(_, .dlm ..)::_,_,_,_,_,h,_,_,_=>by cases h
def wU(T:bU P)(rd:Operand->Option aM)(t:TypeId)(parts:Array (Nat×Operand))(k:gw->Option R):Option R:=
 match find T.und t with
 |some (.struct fs)=>match find T.row t with
  |some r=>bif yA T fs then
    (match vI rd (parts.toList.map (·.2))with
    |some ds=>match JE T fs r.Ez ((parts.toList.map (·.1)).zip ds)with
     |some tr=>k {dst:= .val af tr}
     |none=>ae
    |none=>ae)else ae
  |none=>ae
 |_=>ae
theorem mN:{ds:List aM}->{vs:List Value}->ic H F w ds vs->ds.length=vs.length
 |[],_,h=>by rw[show _=[]from h];rfl
 |_::_,_,h=>by obtain⟨v,us,rfl,_,h2⟩:=h;simp[mN h2]
theorem LP(T:bU P){rd:Operand->Option aM}(jN:∀x d,rd x=aa d->aN H F w d (ev ρ x)){t:TypeId}{parts:Array (Nat×Operand)}{k:gw->Option R}{q:R}(h:wU T rd t parts k=aa q)(hs:aS U H F w ob n):
 ∃e,k e=aa q/\dZ P U H F w ρ ob n ⟨aa d, .build t parts,ty,pos,aft,ae⟩ e:=by
 unfold wU at h;split at h
 case h_2=>cases h
 rename_i fs hu;obtain⟨arr,Hz,RM⟩:=T.und_ok _ _ hu;split at h
 case h_2=>cases h
 rename_i r hr;obtain⟨ti,z,h1,h2,h3,h4,h5⟩:=T.row_ok _ _ hr;obtain⟨hz,h⟩:=bo h;split at h
 case h_2=>cases h
 rename_i ds AY;split at h
 case h_2=>cases h
 rename_i tr Yk;have hd:=qO (w:=w) (H:=H) (F:=F) (ρ:=ρ) jN AY;have hlen:=mN hd;obtain⟨pl,Yj,Uh⟩:=zg (w:=w) T RM hz
 have hn:∀(a:List Nat)(b:List aM),a.length=b.length->(a.zip b).map (·.1)=a/\(a.zip b).map (·.2)=b:=λa b LQ=>⟨List.map_fst_zip (by omega),List.map_snd_zip (by omega)⟩
 have ajq:=hn (parts.toList.map (·.1)) ds (by simp at hlen⊢;omega);obtain⟨yd,hf,hh⟩:=EG (w:=w) (H:=H) (F:=F) T hz Uh (λ_ _ _ _ _=>trivial) (vs:=parts.toList.map λ(i,q)=>(i,ev ρ q)) Yk (Row.p5 H F w r) (by simp_all) (by grind [Function.comp_def]);refine⟨_,h,cP hs (v:= .agg yd.toArray) ?_ ⟨yd,hh,rfl,by simp⟩⟩
 have hzc:z.cells=r.iK.toArray:=by rw[<-h3,apF]
 have hpm:(arr.mapM λ(f:Field)=>(do pure (f.offset,<-sizeOf f.type):Sem (Nat×Nat))).run P w= .ok pl.toArray w:=by
  rw[<-apF (xs:=arr),List.mapM_toArray];simp only[Sem.run_map,Yj];rfl
 have Ui:(parts.map λ(i,q)=>(i,ev ρ q)).toList=parts.toList.map λ(i,q)=>(i,ev ρ q):=by simp
 have ab3:(λ(x:Nat)=>pl.toArray[x]?)=λx=>pl[x]? :=by funext x;simp
 simp only[execOp,Instr.build,ao9,zeroValue,typeInfo,h1,h2,run_program,Sem.run_pure,apM,run_underlying Hz,hzc,Ui,hpm,ab3,hf]
def RR(rd:Operand->Option aM):Option Operand->Option (Option Int)
 |none=>aa ae
 |some x=>match rd x with
  |some d=>match asInt d with
   |some (_,i)=>aa (aa i)
   |none=>ae
  |none=>ae
theorem JF{rd:Operand->Option aM}(jN:∀x d,rd x=aa d->aN H F w d (ev ρ x)){lo:Option Operand}{a:Option Int}(h:RR rd lo=aa a):U6 ρ lo a:=by
 unfold RR at h;split at h
 .obtain rfl:=aoB h;exact .none
 .split at h
  .split at h
   .obtain rfl:=aoB h;rename_i hD _ _ _ hi;exact .some (ke hi (jN _ _ hD))
   .cases h
  .cases h
def wV(dr:Bool)(T:bU P)(rd:Operand->Option aM)(ob:Nat->Option (Nat×Th))(n:Nat)(t:TypeId)(D:aM)(lo hi:Option Operand)(k:gw->Option R):Option R:=
 match find T.und t with
 |some (.slice e)=>match find T.row e with
  |some re=>match RR rd lo with
   |some a=>match RR rd hi with
    |some b=>match yi ob D with
     |some (.read r l)=>bif aoL r.size re.size then(fo l (a.getD 0) (b.getD (l.length:Int))).bind λm=>k {dst:= .val ag (.leaf (.slice r) m)}else ae
     |some .nil=>(fo ([]:List re.den) (a.getD 0) (b.getD 0)).bind λ_=>k {dst:= .val ag .nil}
     |some (.own o s T0 r l)=>bif aoL r.size re.size&&aoL T0 e&&(lo.isNone||dr)then(fo l (a.getD 0) (b.getD (l.length:Int))).bind λm=>k {dst:= .val ag (.own n),eat:=[o],make:=[(n,(n, .own T0 r m))]}
       else bif aoL r.size re.size then(fo l (a.getD 0) (b.getD (l.length:Int))).bind λm=>k {dst:= .val ag (.view o s r m)}else ae
     |_=>ae
    |none=>ae
   |none=>ae
  |none=>ae
 |_=>ae
theorem LR{e T0:TypeId}{ti:TypeInfo}{r:Row}{t:TypeId}{x:Operand}{lo hi:Option Operand}{a b:Option Int}{l m:List r.den}{o s:Nat}{v:Value}(ht:P.underlying t=aa (.slice e))(h1:P.info? e=aa ti)(h4:ti.size=r.size)(hx:ev ρ x=v)
 (hs:aS U H F w ob n)(fR:ob o=aa (s, .own T0 r l))(OA:H.val o=aa v)(ha:U6 ρ lo a)(hb:U6 ρ hi b)(hm:fo l (a.getD 0) (b.getD l.length)=aa m):
 dZ P U H F w ρ ob n ⟨aa d, .slice t x lo hi ae,ty,pos,aft,ae⟩ {dst:= .val ag (.own n),eat:=[o],make:=[(n,(n, .own T0 r m))]}:=by
 have hv:=hs.own fR OA;obtain⟨p,q,ep,eq,Yl,hq,rfl⟩:=wN hm;obtain⟨A,cap,rfl,hlen,hcm,_⟩:=hv.reads;have cD:=yy (P:=P) (w:=w) (d:=d) (ty:=ty) (pos:=pos) (aft:=aft) ht h1 hx ha hb (by omega) (by omega) (by omega) hlen;rw[ep,eq,aoF,aoF,h4]at cD;obtain⟨By,xs,⟨He,Ri⟩,hr⟩:=hv
 have Hi:((l.take q).drop p).length=q-p:=by simp;omega
 have hmul:q*r.size<=l.length*r.size:=aoZ _ hq;have ahK:p*r.size<=q*r.size:=aoZ _ Yl;have ahL:(q-p)*r.size=q*r.size-p*r.size:=Nat.sub_mul ..
 have cG:Ext (dt H ob [o]) w w:=⟨rfl,rfl,rfl,aoJ _,λ_ _ _=>rfl⟩
 rcases Ri with⟨Ou,h0⟩|⟨g,o0,Ob,cur,iP,rB,hh,hn1,hn2,vA,XC⟩
 .simp only[aqj]at Ou;obtain⟨rfl,_,rfl⟩:=Ou
  have Ym:q=0:=by omega
  subst Ym
  obtain rfl:p=0:=by omega
  refine dL.val cD (wT hs cG ?_ ?_)
  .simpa[sliced]using lV.nil 0 F w T0 r
  .intro k hk;simp[sliced,cc,apg]at hk
 .simp only[aqj,true_and]at iP;obtain⟨rfl,rfl⟩:=iP
  obtain⟨o1,qC,ho1,Yn⟩:∃o1,sliced (aa ⟨g,o0,ae⟩) p q cap r.size= .slice (aa ⟨g,o1,ae⟩) (q-p) (cap-p)/\o1+(cap-p)*r.size<=cur.size/\(cur.toList.drop o1).take ((q-p)*r.size)=(xs.drop (p*r.size)).take ((q-p)*r.size):=by
   have hcp:p*r.size<=cap*r.size:=aoZ _ (by omega);have aju:(cap-p)*r.size=cap*r.size-p*r.size:=Nat.sub_mul ..;unfold sliced;by_cases hc:cap=p
   .refine⟨o0,by rw[aj hc],by omega,?_⟩
    have:q=p:=by omega
    subst this;simp
   .refine⟨o0+p*r.size,by rw[ai hc,Option.map_some,dY],by omega,?_⟩;rw[<-XC,List.drop_take,List.take_take,List.drop_drop]
    congr 1
    omega
  rw[qC]at cD
  have hmy:∀k,cc (.slice (aa ⟨g,o1,ae⟩) (q-p) (cap-p)) k->cc (.slice (aa ⟨g,o0,ae⟩) l.length cap) k:=λk hk=>by simpa[cc,apg]using hk
  refine dL.val cD (wT hs cG ⟨λk hk=>By k (hmy k hk),(xs.drop (p*r.size)).take ((q-p)*r.size),⟨by rw[Hi];simp;omega, .inr ⟨g,o1,cap-p,cur,by rw[Hi],rB,hh,by omega,by omega,ho1,?_⟩⟩,λi hi=>?_⟩ λk hk=> .inl ⟨o,by simp,_,_,_,fR,OA,hmy k hk⟩)
  .rw[Hi];exact Yn
  .have hi2:i<q-p:=by omega
   have hle:(i+1)*r.size<=(q-p)*r.size:=aoZ _ hi2;rw[apl]at hle;have:=hr (p+i) (by omega)
   have hg:((l.take q).drop p)[i]=l[p+i]'(by omega):=by simp
   rw[hg,List.drop_take,List.take_take,apC (by omega),List.drop_drop,show p*r.size+i*r.size=(p+i)*r.size from(apl ..).symm];exact this
theorem LS(dr:Bool)(T:bU P){rd:Operand->Option aM}(jN:∀x d,rd x=aa d->aN H F w d (ev ρ x)){t:TypeId}{D:aM}{x:Operand}{lo hi:Option Operand}{k:gw->Option R}{q:R}(h:wV dr T rd ob n t D lo hi k=aa q)(hs:aS U H F w ob n)(hx:aN H F w D (ev ρ x)):
 ∃e,k e=aa q/\dZ P U H F w ρ ob n ⟨aa d, .slice t x lo hi ae,ty,pos,aft,ae⟩ e:=by
 unfold wV at h;split at h
 case h_2=>cases h
 rename_i e hu;have ht:=T.und_ok _ _ hu;split at h
 case h_2=>cases h
 rename_i re hre;obtain⟨ti,z,h1,_,_,h4,_⟩:=T.row_ok _ _ hre;split at h
 case h_2=>cases h
 rename_i a ha;split at h
 case h_2=>cases h
 rename_i b hb;have XD:=JF (w:=w) (H:=H) (F:=F) (ρ:=ρ) jN ha;have rB:=JF (w:=w) (H:=H) (F:=F) (ρ:=ρ) jN hb
 have Vb:∀{r:Row}{l m:List r.den},dF F w (.slice r) [ev ρ x] l->r.size=re.size->fo l (a.getD 0) (b.getD (l.length:Int))=aa m->dZ P U H F w ρ ob n ⟨aa d, .slice t x lo hi ae,ty,pos,aft,ae⟩ {dst:= .val ag (.leaf (.slice r) m)}:=by
  intro r l m hv hz hm;obtain⟨p,q',ep,eq,Yl,hq,rfl⟩:=wN hm;have gQ:=hv;obtain⟨A,cap,he,hc,Vc,_⟩:=hv;simp only[ap5,and_true]at he;have cD:=yy (P:=P) (w:=w) (d:=d) (ty:=ty) (pos:=pos) (aft:=aft) ht h1 he XD rB (by omega) (by omega) (by omega) hc;rw[ep,eq,aoF,aoF,h4,<-hz]at cD;rw[he]at gQ;exact cP hs cD (bq.p4 (gQ.cut Yl hq))
 split at h
 .rename_i r l iP;obtain⟨hz,h⟩:=bo h;obtain⟨m,hm,hk⟩:=bind_some h;exact⟨_,hk,Vb (kM hs iP hx) (beq_true hz) hm⟩
 .rename_i iP;obtain⟨m,hm,hk⟩:=bind_some h;have hv:ev ρ x=_:=kM hs iP hx;unfold fo at hm;split at hm
  case isFalse=>cases hm
  rename_i hc
  have ea:a.getD 0=0:=by have:=hc.2.1;have:=hc.2.2;simp at this;omega
  have eb:b.getD ((0:Nat):Int)=0:=by have:=hc.2.1;have:=hc.2.2;simp at this⊢;omega
  have cD:=yy (P:=P) (w:=w) (d:=d) (ty:=ty) (pos:=pos) (aft:=aft) ht h1 hv XD rB (by omega) (by omega) (by omega) (aoJ _);rw[ea,eb]at cD;exact⟨_,hk,cP hs cD ⟨_,rfl,rfl,λ_=>rfl⟩⟩
 .rename_i o s T0 r l iP;obtain⟨hv,fR,gS⟩:=kM hs iP hx
  cases hz0:(aoL r.size re.size&&aoL T0 e&&(lo.isNone||dr))with
  |true=>
   rw[hz0,cond_true]at h;obtain⟨Rg,hlo⟩:=eG hz0;obtain⟨Eg,hT⟩:=eG Rg;have Yh:=beq_true Eg;obtain⟨m,hm,hk⟩:=bind_some h;exact⟨_,hk,LR ht h1 (h4.trans Yh.symm) rfl hs fR hv XD rB hm⟩
  |false=>
   rw[hz0,cond_false]at h;obtain⟨Eg,h'⟩:=bo h;clear h;have Yh:=beq_true Eg;obtain⟨m,hm,hk⟩:=bind_some h';obtain⟨p,q',ep,eq,Yl,hq,rfl⟩:=wN hm;obtain⟨A,cap,he,hc,Vc,_⟩:=gS.reads;have cD:=yy (P:=P) (w:=w) (d:=d) (ty:=ty) (pos:=pos) (aft:=aft) ht h1 he XD rB (by omega) (by omega) (by omega) hc;rw[ep,eq,aoF,aoF,h4,<-Yh]at cD;obtain⟨v',gQ,eK⟩:=hs.obj _ _ _ fR;refine⟨_,hk,cP hs cD ⟨_,⟨_,rfl,A,cap,T0,l,p,q',by rw[hv,he],eK.con,Yl,hq,rfl,rfl⟩,rfl,λ_=>rfl⟩⟩
 .cases h
noncomputable def Vd(T:bU P)(ob:Nat->Option (Nat×Th))(o:BinOp)(t:TypeId)(X Y:aM):Option aM:=
 match X,Y with
 | .val ag (.leaf .bool a), .val ag (.leaf .bool b)=>match find T.und t with
   |some .bool=>match o with
    | .eql=>aa (fB (decide (a=b)))
    | .neq=>aa (fB (!decide (a=b)))
    |_=>ae
   |_=>ae
 | .val ag (.leaf .str a), .val ag (.leaf .str b)=>match o with
   | .eql=>aa (fB (decide (a=b)))
   | .neq=>aa (fB (!decide (a=b)))
   |_=>ae
 | .val af u, .val af v=>match find T.eqs t with
   |some r=>match flat ob r u with
    |some x=>match flat ob r v with
     |some y=>match o with
      | .eql=>aa (fB (px r x y))
      | .neq=>aa (fB (!(px r x y)))
      |_=>ae
     |none=>ae
    |none=>ae
   |none=>ae
 |_,_=>ae
theorem RT(T:bU P){o:BinOp}{t u:TypeId}{X Y D:aM}{x y:Operand}(h:Vd T ob o t X Y=aa D)(hs:aS U H F w ob n)(hx:aN H F w X (ev ρ x))(hy:aN H F w Y (ev ρ y)):
 dZ P U H F w ρ ob n ⟨aa d, .binOp o t x y u,ty,pos,aft,ae⟩ {dst:=D}:=by
 unfold Vd at h;split at h
 .rename_i a b;split at h
  case h_2=>cases h
  rename_i hu;have hu:=T.und_ok _ _ hu;have ha:ev ρ x= .bool a:=bq.bool hx;have hb:ev ρ y= .bool b:=bq.bool hy
  split at h<;>cases h
  .exact bm hs (Lf hu ha hb) (bq.jZ ..)
  .exact bm hs (Lg hu ha hb) (bq.jZ ..)
 .rename_i a b;have ha:ev ρ x= .string a:=bq.str hx;have hb:ev ρ y= .string b:=bq.str hy
  split at h<;>cases h
  .exact bm hs (Lh ha hb) (bq.jZ ..)
  .exact bm hs (Li ha hb) (bq.jZ ..)
 .rename_i u v;split at h
  case h_2=>cases h
  rename_i r hr;obtain⟨K,dd,hE,hd,hg,hD⟩:=T.eqs_ok _ _ hr;split at h
  case h_2=>cases h
  rename_i a ha;split at h
  case h_2=>cases h
  rename_i b hb;obtain⟨c1,g1,e1,_⟩:=hx;obtain⟨c2,g2,e2,_⟩:=hy;have r1:=mM hs ha g1;have r2:=mM hs hb g2
  split at h<;>cases h
  .exact bm hs (Lx hE hd hg hD e1 e2 r1 r2) (bq.jZ ..)
  .exact bm hs (Ly hE hd hg hD e1 e2 r1 r2) (bq.jZ ..)
 .cases h
def Ve(a b:ByteArray):Option ByteArray:=if a.size+b.size<=9223372036854775807 then aa (a++b)else ae
def HD(o:BinOp)(X Y:aM):Option (ByteArray×ByteArray):=
 match o,X,Y with
 | .add, .val ag (.leaf .str a), .val ag (.leaf .str b)=>aa (a,b)
 |_,_,_=>ae
theorem Vf{t u:TypeId}{o:BinOp}{X Y:aM}{x y:Operand}{a b c:ByteArray}(h:HD o X Y=aa (a,b))(hc:Ve a b=aa c)(hs:aS U H F w ob n)(hx:aN H F w X (ev ρ x))(hy:aN H F w Y (ev ρ y)):
 dZ P U H F w ρ ob n ⟨aa d, .binOp o t x y u,ty,pos,aft,ae⟩ {dst:= .val ag (.leaf .str c)}:=by
 unfold HD at h
 split at h<;>cases h
 unfold Ve at hc;split at hc
 case isFalse=>cases hc
 rename_i hle;obtain rfl:=aoB hc;have ha:ev ρ x= .string a:=bq.str hx;have hb:ev ρ y= .string b:=bq.str hy;refine cP hs (v:= .string (a++b)) ?_ (bq.p4 rfl)
 have:¬(9223372036854775807:Int)<(a.size:Int)+(b.size:Int):=by omega
 simp[execOp,eqGuard,binOp,Op.stringOp,ha,hb,IntKind.max,IntKind.signed,IntKind.bits,this]
noncomputable def LU(T:bU P)(ob:Nat->Option (Nat×Th))(o:BinOp)(t:TypeId)(lit:Bool)(X Y:aM)(k:gw->Option R):Option R:=
 match asInt X with
 |some (kx,a)=>match asInt Y with
  |some (ky,b)=>match o with
   | .shl=>bif lit then(bif !decide (b<0)then k {dst:=pE kx (yh kx a b)}else ae)else(Hw kx a b).bind λc=>k {dst:=pE kx c}
   | .shr=>bif lit then(bif !decide (b<0)then k {dst:=pE kx (iA kx a b)}else ae)else(Eu kx a b).bind λc=>k {dst:=pE kx c}
   |o=>bif decide (kx=ky)then
    (match o with
    | .quo=>bif lit then(bif decide (b≠0)then k {dst:=pE kx (kx.wrap (aoM a b))}else ae)else(nG a b).bind λc=>k {dst:=pE kx (kx.wrap c)}
    | .rem=>bif lit then(bif decide (b≠0)then k {dst:=pE kx (aoP a b)}else ae)else(sQ a b).bind λc=>k {dst:=pE kx c}
    |_=>match arith o kx a b with
     |some D=>k {dst:=D}
     |none=>ae)else ae
  |none=>ae
 |none=>match HD o X Y with
  |some (a,b)=>(Ve a b).bind λc=>k {dst:= .val ag (.leaf .str c)}
  |none=>match Vd T ob o t X Y with
   |some D=>k {dst:=D}
   |none=>ae
theorem RV(T:bU P){o:BinOp}{t u:TypeId}{lit:Bool}{X Y:aM}{x y:Operand}{k:gw->Option R}{q:R}(h:LU T ob o t lit X Y k=aa q)(hs:aS U H F w ob n)(hx:aN H F w X (ev ρ x))(hy:aN H F w Y (ev ρ y)):
 ∃e,k e=aa q/\dZ P U H F w ρ ob n ⟨aa d, .binOp o t x y u,ty,pos,aft,ae⟩ e:=by
 unfold LU at h;split at h
 .rename_i kx a hX;split at h
  case h_2=>cases h
  rename_i ky b hY;have ha:=ke hX hx;have hb:=ke hY hy;split at h
  .cases lit with
   |true=>
    rw[cond_true]at h;obtain⟨dS,h⟩:=bo h;exact⟨_,h,bm hs (Ew ha hb (by simpa using dS)) (bq.mu ..)⟩
   |false=>
    rw[cond_false]at h;obtain⟨c,hc,h⟩:=bind_some h;unfold Hw at hc;split at hc
    .cases hc
    .rename_i dS;obtain rfl:=aoB hc;exact⟨_,h,bm hs (Ew ha hb dS) (bq.mu ..)⟩
  .cases lit with
   |true=>
    rw[cond_true]at h;obtain⟨dS,h⟩:=bo h;exact⟨_,h,bm hs (Ey ha hb (by simpa using dS)) (bq.mu ..)⟩
   |false=>
    rw[cond_false]at h;obtain⟨c,hc,h⟩:=bind_some h;unfold Eu at hc;split at hc
    .cases hc
    .rename_i dS;obtain rfl:=aoB hc;exact⟨_,h,bm hs (Ey ha hb dS) (bq.mu ..)⟩
  obtain⟨hk,h'⟩:=bo h;clear h;have hk:=ak hk;subst hk;revert h';intro h;split at h
  .cases lit with
   |true=>
    rw[cond_true]at h;obtain⟨dS,h⟩:=bo h
    grind [Oo]
   |false=>
    grind [nG,Oo]
  .cases lit with
   |true=>
    rw[cond_true]at h;obtain⟨dS,h⟩:=bo h
    grind [Oq]
   |false=>
    grind [sQ,Oq]
  grind [On]
 .split at h
  .rename_i a b LQ;obtain⟨c,hc,h⟩:=bind_some h;exact⟨_,h,Vf LQ hc hs hx hy⟩
  grind [RT]
def eUn(o:UnOp)(X:aM):Option aM:=
 match o with
 | .not=>match asBool X with
   |some b=>aa (fB (!b))
   |none=>ae
 | .neg=>match asInt X with
   |some (k,a)=>aa (pE k (k.wrap (0-a)))
   |none=>ae
 |_=>ae
theorem Vg{o:UnOp}{t:TypeId}{X D:aM}{x:Operand}(h:eUn o X=aa D)(hs:aS U H F w ob n)(hx:aN H F w X (ev ρ x)):
 dZ P U H F w ρ ob n ⟨aa d, .unOp o t x,ty,pos,aft,ae⟩ {dst:=D}:=by
 unfold eUn at h;split at h
 .split at h<;>cases h
  rename_i b hb;exact bm hs (N5 (qM hb hx)) (bq.jZ ..)
 .split at h<;>cases h
  rename_i k a ha;exact bm hs (N6 (ke ha hx)) (bq.mu ..)
 .cases h
def OB(T:bU P)(s t:TypeId)(X:aM):Option aM:=
 match find T.und s with
 |some _=>match find T.und t with
  |some (.int k)=>match asInt X with
   |some (_,a)=>aa (pE k (k.wrap a))
   |none=>ae
  |some .str=>match Et X with
   |some a=>aa (abY a)
   |none=>ae
  |_=>ae
 |none=>ae
theorem OC(T:bU P){s t:TypeId}{X D:aM}{x:Operand}(h:OB T s t X=aa D)(hs:aS U H F w ob n)(hx:aN H F w X (ev ρ x)):
 dZ P U H F w ρ ob n ⟨aa d, .convert s t x,ty,pos,aft,ae⟩ {dst:=D}:=by
 unfold OB at h;split at h
 case h_2=>cases h
 rename_i ks hsu;obtain⟨dd,ye,_⟩:=(T.und_ok _ _ hsu).agg;split at h
 .rename_i k htu
  split at h<;>cases h
  rename_i k' a ha;exact bm hs (Lj ye (T.und_ok _ _ htu) (ke ha hx)) (bq.mu ..)
 .rename_i htu
  split at h<;>cases h
  rename_i a ha;have hv:=yY ha hx;have ab8:P.underlying t=aa .string:=T.und_ok _ _ htu;refine cP hs (v:= .string a) ?_ (bq.mkStr ..);simp[execOp,convert,run_underlying ye,run_underlying ab8,hv]
 .cases h
def zh(D:aM)(i:Nat):Option aM:=
 match D with
 | .tup ds=>match ds[i]? with
   |some (a,t)=>aa (.val a t)
   |none=>ae
 |_=>ae
theorem vF.get:{ds:List (Bool×Tree)}->{vs:List Value}->{i:Nat}->{a:Bool}->{t:Tree}->vF H F w ds vs->ds[i]? =aa (a,t)->∃v,vs[i]? =aa v/\bq H F w a t v
 |[],_,_,_,_,_,h=>by cases h
 |d::ds,_,0,a,t,hh,h=>by
  obtain⟨v,us,rfl,h1,h2⟩:=hh
  grind
 |d::ds,_,i+1,a,t,hh,h=>by
  obtain⟨v,us,rfl,h1,h2⟩:=hh;obtain⟨v',e,hv⟩:=vF.get h2 (by simpa using h)
  grind
theorem EH{D D':aM}{i:Nat}{x:Operand}(h:zh D i=aa D')(hs:aS U H F w ob n)(hx:aN H F w D (ev ρ x)):
 dZ P U H F w ρ ob n ⟨aa d, .extract x i,ty,pos,aft,ae⟩ {dst:=D'}:=by
 unfold zh at h;split at h
 case h_2=>cases h
 split at h<;>cases h
 rename_i ds a t hd;obtain⟨vs,e,ht⟩:=hx;obtain⟨v,hv,sJ⟩:=ht.get hd;exact bm hs (CM e (by simpa using hv)) sJ
def yB(mx:Bool)(X Y:aM):Option aM:=
 match asInt X,asInt Y with
 |some (k,a),aa (k',b)=>bif decide (k=k')then aa (pE k (bif mx then(if a<b then b else a)else(if b<a then b else a)))else ae
 |_,_=>ae
theorem zi{mx:Bool}{t t':TypeId}{X Y D:aM}{x y:Operand}(h:yB mx X Y=aa D)(hs:aS U H F w ob n)(hx:aN H F w X (ev ρ x))(hy:aN H F w Y (ev ρ y)):
 dZ P U H F w ρ ob n ⟨aa d, .call {callee:= .builtin (bif mx then .max else .min),args:= #[x,y],argTypes:= #[t,t']},ty,pos,aft,ae⟩ {dst:=D}:=by
 unfold yB at h;split at h
 case h_2=>cases h
 rename_i k a k' b ha hb;obtain⟨hk,h'⟩:=bo h;clear h;have hk:=ak hk;subst hk;obtain rfl:=aoB h';have ha:=ke ha hx;have hb:=ke hb hy
 cases mx with
 |true=>exact bm hs (Ll ha hb) (bq.mu ..)
 |false=>exact bm hs (Lm ha hb) (bq.mu ..)
theorem LV{D:aM}{x:Operand}(hs:aS U H F w ob n)(hx:aN H F w D (ev ρ x)):dZ P U H F w ρ ob n ⟨aa d, .move x,ty,pos,aft,ae⟩ {dst:=D}:=bm hs (Le rfl) hx
theorem EI{D:aM}{x:Operand}(hs:aS U H F w ob n)(hx:aN H F w D (ev ρ x)):dZ P U H F w ρ ob n ⟨aa d, .assign x,ty,pos,aft,ae⟩ {dst:=D}:=bm hs (Em rfl) hx
def CQ(T:bU P)(t:TypeId)(f:Nat)(X:aM):Option aM:=
 match find T.und t with
 |some (.struct fs)=>match fs[f]? with
  |some (ft,off)=>match find T.und ft with
   |some kk=>match X with
    | .val af u=>match u.get (vG fs.length f)with
      |some (s,fI)=>bif aoL fI off&&pG T ft kk s.size then aa (.val (oV kk) s)else ae
      |none=>ae
    |_=>ae
   |none=>ae
  |none=>ae
 |_=>ae
theorem HE(T:bU P){t:TypeId}{f:Nat}{X D:aM}{x:Operand}(h:CQ T t f X=aa D)(hs:aS U H F w ob n)(hx:aN H F w X (ev ρ x)):
 dZ P U H F w ρ ob n ⟨aa d, .field t x f,ty,pos,aft,ae⟩ {dst:=D}:=by
 unfold CQ at h;split at h
 case h_2=>cases h
 rename_i fs hu;obtain⟨arr,Hz,RM⟩:=T.und_ok _ _ hu;split at h
 case h_2=>cases h
 rename_i ft off hf;obtain⟨fd,XB,rfl,rfl⟩:=EA RM hf;split at h
 case h_2=>cases h
 rename_i kk hft;obtain⟨dd,ye,yT⟩:=(T.und_ok _ _ hft).agg;split at h
 case h_2=>cases h
 rename_i u;split at h
 case h_2=>cases h
 rename_i s fI hg;obtain⟨hb,rfl⟩:=pF h;obtain⟨Hh,AZ⟩:=eG hb;obtain rfl:=beq_true Hh;have hz:=mv T AZ;obtain⟨cs,vA,e,_⟩:=hx;obtain⟨g1,g2⟩:=vA.get hg;have hl:=g1.length;have e':ev ρ x= .agg cs.toArray:=e
 have Yo:∃v,(part fd.type cs.toArray fd.offset).run P w= .ok v w/\bq H F w (oV kk) s v:=by
  cases ha:oV kk with
  |true=>
   rw[aj ha]at hz;obtain⟨r,hr,Nz⟩:=hz;obtain⟨ti,z,h1,_,_,h4,_⟩:=T.row_ok _ _ hr;refine⟨.agg ((cs.drop fd.offset).take s.size).toArray,?_,_,g1,rfl,by simp⟩;unfold part;rw[ao9,gW ye,yT,ha];simp[sizeOf,typeInfo,h1,h4,Nz]
  |false=>
   rw[ai (by simp[ha])]at hz
   have aJ:fd.offset<cs.length:=by omega
   refine⟨cs[fd.offset],?_,_,g1,?_,λ_=>?_⟩
   .unfold part;rw[ao9,gW ye,yT,ha];simp[aJ]
   all_goals grind [List.take_one,List.head?_drop]
 obtain⟨v,hv,sJ⟩:=Yo;refine cP hs (v:=v) ?_ sJ;simp[execOp,Instr.field,run_underlying Hz,XB,e',asAgg,hv]
end
end
section
open Go Go.RowKit Go.MapKept
section
variable {P:Program} {ρ:Nat->Value} {w w':World} {H H':aR} {F F':Nat->Prop} {U:Nat->Prop} {ob:Nat->Option (Nat×Th)} {n:Nat} {R:Type}
variable {op:Op} {ty:TypeId} {pos:String} {aft:Array Edge} {d:Nat}
theorem JG{K:Row}{agg:Bool}{V:Row}:{es:List MapEntry}->{l:List (K.den×V.den)}->uy H F w K agg V es l->es.length=l.length/\∀i(h:i<l.length),∃(e:MapEntry)(cs:List Value),es[i]? =aa e/\Lb K l[i].1=aa e.key/\dF F w V cs l[i].2/\e.val=(bif agg then .agg cs.toArray else cs.headD undef)/\(agg=ag->cs=[e.val])
 |[],l,h=>by obtain rfl:l=[]:=h;grind
 |e::es,l,h=>by
  obtain⟨k,x,l',rfl,h1,⟨cs,h2,h3,h4⟩,h5⟩:=h;obtain⟨g1,g2⟩:=JG h5;refine⟨by simp[g1],λi hi=>?_⟩
  cases i with
  |zero=>exact⟨e,cs,rfl,h1,h2,h3,h4⟩
  |succ i=>
   obtain⟨e',yd,q1,q2,q3,q4⟩:=g2 i (by simpa using hi);exact⟨e',yd,by simpa only[List.getElem?_cons_succ]using q1,q2,q3,q4⟩
structure ajy where
 K:Row
 agg:Bool
 V:Row
 l:List (K.den×V.den)
def lj(s:ByteArray)(i:Int):Option Int:=(if 0<=i then s[i.toNat]? else ae).map λb=>(b.toNat:Int)
theorem EJ{e:Row}:{m:Nat}->{r:Row}->{x:r.den}->{l:List e.den}->{cs:List Value}->oW m r x e=aa l->dF F w r cs x->l.length=m/\cs.length=m*e.size/\∀i(h:i<l.length),dF F w e ((cs.drop (i*e.size)).take e.size) l[i]
 |0,r,x,l,cs,h,_=>by unfold oW at h;cases h
 |1,r,x,l,cs,h,ha=>by
  unfold oW at h;split at h
  case isFalse=>cases h
  rename_i hb;obtain rfl:=Row.eq_of_beq hb;obtain rfl:=aoB h;have hl:=ha.length;refine⟨rfl,by simp[hl],λi hi=>?_⟩
  obtain rfl:i=0:=by simp at hi;omega
  rw[Nat.zero_mul,List.drop_zero,<-hl,ao3];exact ha
 |m+2, .pair a b,x,l,cs,h,ha=>by
  unfold oW at h;split at h
  case isFalse=>cases h
  rename_i hb;obtain rfl:=Row.eq_of_beq hb;split at h
  case h_2=>cases h
  rename_i l' hl;obtain rfl:=aoB h;obtain⟨c1,c2,rfl,h1,h2⟩:=ha;have XA:=h1.length;obtain⟨g1,g2,g3⟩:=EJ hl h2;refine⟨by simp[g1],by grind,λi hi=>?_⟩
  cases i with
  |zero=>
   rw[Nat.zero_mul,List.drop_zero,List.take_append_of_le_length (by omega),<-XA,ao3];exact h1
  |succ i=>
   grind [List.drop_drop,List.drop_left]
 |m+2, .int _,_,_,_,h,_=>by unfold oW at h;cases h
 |m+2, .bool,_,_,_,h,_=>by unfold oW at h;cases h
 |m+2, .str,_,_,_,h,_=>by unfold oW at h;cases h
 |m+2, .slice _,_,_,_,h,_=>by unfold oW at h;cases h
 |m+2, .mI,_,_,_,h,_=>by unfold oW at h;cases h
 |m+2, .nul _,_,_,_,h,_=>by unfold oW at h;cases h
 |m+2, .map ..,_,_,_,h,_=>by unfold oW at h;cases h
def tR(T:bU P)(ob:Nat->Option (Nat×Th))(t:TypeId)(D:aM)(i:Int)(k:gw->Option R):Option R:=
 match find T.und t with
 |some .str=>match Et D with
  |some s=>(lj s i).bind λc=>k {dst:=pE .u8 c}
  |none=>ae
 |some (.array m e)=>match find T.row t with
  |some r=>match find T.row e with
   |some re=>match find T.und e with
    |some kk=>match D with
     | .val af tr=>match flat ob r tr with
       |some x=>match oW m r x re with
        |some l=>bif oV kk||aoL re.size 1 then(idx l i).bind λy=>k {dst:= .val (oV kk) (.leaf re y)}else ae
        |none=>ae
       |none=>ae
     |_=>ae
    |none=>ae
   |none=>ae
  |none=>ae
 |_=>ae
theorem HF(T:bU P){t:TypeId}{D:aM}{x y:Operand}{kd:IntKind}{i:Int}{k:gw->Option R}{q:R}(h:tR T ob t D i k=aa q)(hs:aS U H F w ob n)(hx:aN H F w D (ev ρ x))(hy:ev ρ y= .int kd i):
 ∃e,k e=aa q/\dZ P U H F w ρ ob n ⟨aa d, .index t x y,ty,pos,aft,ae⟩ e:=by
 unfold tR at h;split at h
 .rename_i hu;have hu:=T.und_ok _ _ hu;split at h
  case h_2=>cases h
  rename_i s hS;obtain⟨c,hc,hk⟩:=bind_some h;have hv:=yY hS hx;unfold lj at hc;obtain⟨b,hb,rfl⟩:=Option.map_eq_some_iff.1 hc;refine⟨_,hk,cP hs (v:= .int .u8 b.toNat) ?_ (bq.mu ..)⟩;have Vh:P.underlying t=aa .string:=hu;simp[execOp,Instr.index,asIntOf,run_underlying Vh,hv,hy,hb]
 .rename_i m e hu;have hu:P.underlying t=aa (.array m e):=T.und_ok _ _ hu;split at h
  case h_2=>cases h
  rename_i r hr;split at h
  case h_2=>cases h
  rename_i re hre;split at h
  case h_2=>cases h
  rename_i kk Yd;split at h
  case h_2=>cases h
  rename_i tr;split at h
  case h_2=>cases h
  rename_i z hz;split at h
  case h_2=>cases h
  rename_i l hl;obtain⟨hag,h'⟩:=bo h;clear h;obtain⟨a,ha,hk⟩:=bind_some h';obtain⟨cs,hh,hv,_⟩:=hx;rw[cond_true]at hv;obtain⟨g1,g2,g3⟩:=EJ hl (mM hs hz hh);obtain⟨j,hj,aJ,rfl⟩:=jv ha;obtain⟨ti,z0,h1,_,_,h4,_⟩:=T.row_ok _ _ hre;obtain⟨dd,ye,yT⟩:=(T.und_ok _ _ Yd).agg;have A0:=g3 j aJ
  have pS:(j+1)*re.size<=cs.length:=by rw[g2];exact aoZ _ (by omega)
  rw[apl]at pS;refine⟨_,hk,?_⟩
  cases OD:oV kk with
  |true=>
   refine cP hs (v:= .agg ((cs.drop (j*re.size)).take re.size).toArray) ?_ ⟨_,A0,rfl,by simp⟩;subst hj;simp[execOp,Instr.index,asIntOf,run_underlying hu,hv,hy,show j<m by omega,part,ao9,gW ye,yT,OD,sizeOf,typeInfo,h1,h4,List.extract_eq_take_drop]
  |false=>
   rw[OD,Bool.false_or]at hag;have pd:=beq_true hag;have hlen:=A0.length;rw[pd,Nat.mul_one]at A0 pS;rw[pd]at hlen
   obtain⟨v,AX⟩:∃v,(cs.drop j).take 1=[v]:=by
    match hq:(cs.drop j).take 1,EK:((cs.drop j).take 1).length with
    |[v],_=>exact⟨v,rfl⟩
    |[],_=>rw[Nat.mul_one,hq]at hlen;cases hlen
    |_::_::_,_=>rw[Nat.mul_one,hq]at hlen;cases hlen
   rw[AX]at A0
   have Lr:cs[j]? =aa v:=by
    have:(cs.drop j)[0]? =aa v:=by
     have h0:((cs.drop j).take 1)[0]? =aa v:=by rw[AX];rfl
     rwa [List.getElem?_take_of_lt (by omega)]at h0
    simpa using this
   refine cP hs (v:=v) ?_ (bq.p4 A0);subst hj;simp[execOp,Instr.index,asIntOf,run_underlying hu,hv,hy,show j<m by omega,part,ao9,gW ye,yT,OD,sizeOf,typeInfo,h1,h4,pd,Lr]
 .cases h
end
end
section
def LW(T:TypeId):(e:DR)->List e.row.den->Th
 | .leaf r,y=> .own T r y
 | .sl T' e,y=> .deep T (.sl T' e) y ae
 | .pair a b,y=> .deep T (.pair a b) y ae
section
variable {P:Program} {ρ:Nat->Value} {w w':World} {H H':aR} {F F':Nat->Prop} {U:Nat->Prop} {ob:Nat->Option (Nat×Th)} {n:Nat} {R:Type}
variable {op:Op} {ty:TypeId} {pos:String} {aft:Array Edge} {d:Nat}
theorem zj(T:TypeId)(e:DR)(y:List e.row.den):(LW T e y).base=LW T e y:=by cases e<;>rfl
theorem wW{T:TypeId}{e:DR}{u:Value}{y:List e.row.den}{A:Nat->Prop}(h:mL F w (.sl T e) u y A):lK H F w A u (LW T e y)/\(∀k,fp A u (LW T e y) k->A k)/\u.oneCell'=af:=by
 obtain⟨lh,Ss,h1,h2,h3,h4⟩:=h;have pd:=h1.one
 cases e with
 |leaf r=>
  have hl:lh=y:=List.ext_getElem h2 λi a b=>(h3 i a b).1
  subst hl;exact⟨h1,λk hk=>h4.cc k hk,pd⟩
 |sl T' e=>exact⟨⟨lh,Ss,h1,h2,h3,h4⟩,λk hk=>hk,pd⟩
 |pair a b=>exact⟨⟨lh,Ss,h1,h2,h3,h4⟩,λk hk=>hk,pd⟩
theorem zk{T:TypeId}{e:DR}{u:Value}{y:List e.row.den}{A:Nat->Prop}(h:lK H F w A u (LW T e y)):mL F w (.sl T e) u y (λk=>fp A u (LW T e y) k):=by
 cases e with
 |leaf r=>
  have h':nQ F w T r u y:=h;refine⟨y,λ_ _=>False,h',rfl,λi a b=>⟨rfl,λ_ h=>h⟩,⟨λk=>?_,λ_ _ _ _ _ _ h=>h.elim,λ_ _ _ h=>h.elim⟩⟩
  show cc u k↔_
  simp
 |sl T' e=>exact h
 |pair a b=>exact h
theorem yC{d:DR}{r:Row}(q:iM d (.leaf r)){x':d.low.den}{x:d.row.den}{S:Nat->Prop}(h:mL F w d x' x S):q.lo.get x'=q.hi.get x:=by
 obtain⟨A,B,h1,_⟩:=h.out q;exact h1.1
theorem zn:{d e:DR}->{T:TypeId}->{r:Row}->(p:iM d (.sl T e))->(q:iM d (.leaf r))->{x':d.low.den}->{x:d.row.den}->{S:Nat->Prop}->pe F w p x' x S->q.lo.get x'=q.hi.get x
 |_,_,_,_, .fst p, .fst q,_,_,_,h=>by obtain⟨A,B,h1,_⟩:=h;exact zn p q h1
 |_,_,_,_, .fst p, .snd q,_,_,_,h=>by obtain⟨A,B,_,h2,_⟩:=h;exact yC q h2
 |_,_,_,_, .snd p, .fst q,_,_,_,h=>by obtain⟨A,B,h1,_⟩:=h;exact yC q h1
 |_,_,_,_, .snd p, .snd q,_,_,_,h=>by obtain⟨A,B,_,h2,_⟩:=h;exact zn p q h2
theorem OE{d:DR}{h:Option yU}{i:Nat}{x':d.low.den}{x:d.row.den}{S:Nat->Prop}{r:Row}(q:iM d (.leaf r))(hr:rD H F w d h i x' x S):q.lo.get x'=q.hi.get x:=by
 cases h with
 |none=>exact yC q hr
 |some h=>
  by_cases hi:h.i=(i:Int)
  .obtain⟨T',e,p,_,h2,_⟩:=hr.2 hi;exact zn p q h2
  .exact yC q (hr.1 hi)
theorem vJ{d:DR}{r:Row}(q:iM d (.leaf r)){x':d.low.den}{x:d.row.den}{S:Nat->Prop}(y:r.den)(h:mL F w d x' x S):mL F w d (q.lo.set x' y) (q.hi.set x y) S:=by
 obtain⟨A,B,h1,h2,h3⟩:=h.out q;exact h2.put q (y':=y) (A:=A) ⟨rfl,h1.2⟩ h3
theorem wX:{d e:DR}->{T:TypeId}->{r:Row}->(p:iM d (.sl T e))->(q:iM d (.leaf r))->{x':d.low.den}->{x:d.row.den}->{S:Nat->Prop}->(y:r.den)->pe F w p x' x S->pe F w p (q.lo.set x' y) (q.hi.set x y) S/\p.lo.get (q.lo.set x' y)=p.lo.get x'
 |_,_,_,_, .fst p, .fst q,_,_,_,y,h=>by
  obtain⟨A,B,h1,h2,h3⟩:=h;obtain⟨g1,g2⟩:=wX p q y h1;exact⟨⟨A,B,g1,h2,h3⟩,g2⟩
 |_,_,_,_, .fst p, .snd q,_,_,_,y,h=>by
  obtain⟨A,B,h1,h2,h3⟩:=h;exact⟨⟨A,B,h1,vJ q y h2,h3⟩,rfl⟩
 |_,_,_,_, .snd p, .fst q,_,_,_,y,h=>by
  obtain⟨A,B,h1,h2,h3⟩:=h;exact⟨⟨A,B,vJ q y h1,h2,h3⟩,rfl⟩
 |_,_,_,_, .snd p, .snd q,_,_,_,y,h=>by
  obtain⟨A,B,h1,h2,h3⟩:=h;obtain⟨g1,g2⟩:=wX p q y h2;exact⟨⟨A,B,h1,g1,h3⟩,g2⟩
theorem LX{d:DR}{h:Option yU}{i:Nat}{x':d.low.den}{x:d.row.den}{S:Nat->Prop}{r:Row}(q:iM d (.leaf r))(y:r.den)(hr:rD H F w d h i x' x S):rD H F w d h i (q.lo.set x' y) (q.hi.set x y) S:=by
 cases h with
 |none=>exact vJ q y hr
 |some h=>
  refine⟨λhi=>vJ q y (hr.1 hi),λhi=>?_⟩;obtain⟨T',e,p,h1,h2,h3⟩:=hr.2 hi
  grind [wX]
theorem aS.low(hs:aS U H F w ob n){o s:Nat}{T:TypeId}{dr:DR}{l:List dr.row.den}{h:Option yU}(ho:ob o=aa (s, .deep T dr l h)){v:Value}(hv:H.val o=aa v):
 ∃(lh:List dr.low.den)(Ss:Nat->Nat->Prop),lV 0 F w T dr.low v lh/\lh.length=l.length/\(∀i(h1:i<lh.length)(h2:i<l.length),rD H F w dr h i lh[i] l[i] (Ss i))/\qL Ss l.length (cc v) (H.sub s):=by
 obtain⟨v',gQ,eK⟩:=hs.obj _ _ _ ho;rw[hv]at gQ;obtain rfl:=aoB gQ;obtain⟨lh,Ss,h1,h2,h3,h4⟩:=eK.ok;exact⟨lh,Ss,⟨λk hk=>eK.no k (h4.cc k hk),h1⟩,h2,h3,h4⟩
theorem Path.CR:{r s:Row}->(p:Path r s)->(x:r.den)->(y:s.den)->p.get (p.set x y)=y
 |_,_, .here,_,_=>rfl
 |_,_, .fst p,x,y=>Path.CR p x.1 y
 |_,_, .snd p,x,y=>Path.CR p x.2 y
theorem pe.OF:{d e:DR}->(p:iM d e)->{x':d.low.den}->{x:d.row.den}->{S:Nat->Prop}->(y':e.low.den)->pe F w p x' x S->pe F w p (p.lo.set x' y') x S
 |_,_, .here,_,_,_,_,h=>h
 |_,_, .fst p,_,_,_,y',h=>by
  obtain⟨A,B,h1,h2,h3⟩:=h;exact⟨A,B,h1.OF p y',h2,h3⟩
 |_,_, .snd p,_,_,_,y',h=>by
  obtain⟨A,B,h1,h2,h3⟩:=h;exact⟨A,B,h1,h2.OF p y',h3⟩
def uZ(m:Nat->Prop)(Ss:Nat->Nat->Prop)(c:Nat)(k:Nat):Prop:=m k\/∃i,i<c/\Ss i k
theorem qL.less{Ss:Nat->Nat->Prop}{c:Nat}{m S:Nat->Prop}(h:qL Ss c m S)(j:Nat){B:Nat->Prop}(hB:∀k,B k->Ss j k):qL (λi=>if i=j then B else Ss i) c m (uZ m (λi=>if i=j then B else Ss i) c):=by
 have sub:∀i k,(if i=j then B else Ss i) k->Ss i k:=by
  intro i k hk;by_cases e:i=j
  .grind
  .rwa [ai e]at hk
 exact⟨λk=>Iff.rfl,λi i' k h1 h2 dS h3 h4=>h.two i i' k h1 h2 dS (sub i k h3) (sub i' k h4),λi k h1 h2=>h.out i k h1 (sub i k h2)⟩
theorem qL.EL{Ss:Nat->Nat->Prop}{c:Nat}{m S:Nat->Prop}(h:qL Ss c m S)(j:Nat){B:Nat->Prop}(hB:∀k,B k->Ss j k):∀k,uZ m (λi=>if i=j then B else Ss i) c k->S k:=by
 rintro k (hk|⟨i,hi,hk⟩)
 .exact h.cc k hk
 .by_cases e:i=j
  .subst e;rw[aj rfl]at hk;exact h.part hi k (hB k hk)
  .rw[ai e]at hk;exact h.part hi k hk
theorem RW{α β:Type}{rel:Nat->α->β->(Nat->Prop)->Prop}{lh:List α}{l:List β}{Ss:Nat->Nat->Prop}{j:Nat}{x':α}{x:β}{B:Nat->Prop}(h:∀i(h1:i<lh.length)(h2:i<l.length),i≠j->rel i lh[i] l[i] (Ss i))(hj:rel j x' x B):
 ∀i(h1:i<(lh.set j x').length)(h2:i<(l.set j x).length),rel i (lh.set j x')[i] (l.set j x)[i] ((λi=>if i=j then B else Ss i) i):=by
 grind
theorem aR.CS{H:aR}{n:Nat}{S:Nat->Prop}{t:Th}(h:H.con n=ae):H.le ((H.kf n S).cL n t):=(aR.LI h).trans (aR.mw h)
theorem qB.OG(hs:aS U H F w ob n){o s:Nat}{t t':Th}{v0:Value}(ho:ob o=aa (s,t))(hv:H.val o=aa v0)(hb:t'.base=t'){eat:List Nat}(hoe:o∈eat)(S':Nat->Prop)(Rf:∀k,fp S' v0 t' k->dt H ob eat k){D:aM}{v:Value}
 (cG:Ext (dt H ob eat) w w')(sJ:lK ((H.kf n S').cL n t') F w' S' v0 t')(hd:aN ((H.kf n S').cL n t') F w' D v):o8 H F w ob n {dst:=D,eat:=eat,make:=[(o,(n,t'))]} v w':=by
 obtain⟨v1,yj,eK⟩:=hs.obj _ _ _ ho;rw[hv]at yj;obtain rfl:=aoB yj;have hf:=hs.fresh n (aoJ _) (by omega)
 have jY:((H.kf n S').cL n t').sub n=S':=by simp[aR.cL,aR.kf]
 refine⟨(H.kf n S').cL n t',F,⟨aR.CS hf.2,cG,λ_ h=>h,λ_ h=> .inl h,λb hb=>api (hs.lt b hb) cG.size⟩,λm hm=>?_,hd,⟨λo' s' q hq=>?_,λo1 o2 s1 s2 q1 q2 u1 u2 dS h1 h2=>?_⟩,λo' h=>?_⟩
 .refine⟨id,λh=>?_⟩;simp[aR.cL,aR.kf,show m≠n from by omega,h]
 .obtain⟨rfl,e⟩:=iQ hq;obtain⟨rfl,rfl⟩:=Prod.mk.inj e;refine⟨v0,hv,eK.one,by simp[aR.cL,hb],by rw[jY];exact sJ,λk hk=>?_⟩;rw[jY]at hk;have:=Rf k hk;exact⟨hs.jX k this,api (hs.yV k this) cG.size, .inr this⟩
 all_goals grind [iQ,apA]
def u7(T:bU P)(ob:Nat->Option (Nat×Th))(n:Nat)(t:TypeId)(D:aM)(k:gw->Option R):Option R:=
 match find T.und t with
 |none=>ae
 |some kk=>match D with
  | .dlm o d0 i p off=>match ob o with
    |some (_, .deep T0 dr l h)=>bif d0.beq dr then(match dr.path p with
     |some ⟨.leaf r,q⟩=>bif aoL q.lo.off off&&pG T t kk r.size then(idx l i).bind λx=>k {dst:= .val (oV kk) (.leaf r (q.hi.get x))}else ae
     |some ⟨.sl T' e',q⟩=>bif aoL q.lo.off off&&pG T t kk 1&& !oV kk then(match h with
       |none=>(idx l i).bind λx=>k {dst:= .val ag (.own n),eat:=[o],make:=[(o,(n, .deep T0 dr l (aa ⟨i,p,n,n+1⟩))),(n,(n+1,LW T' e' (q.hi.get x)))]}
       |some hh=>bif rE hh.p p then(if decide (hh.i=i)=af then(idx l i).bind λ_=>k {dst:= .val ag (.own hh.o)}else ae)else ae)else ae
     |_=>ae)else ae
    |_=>ae
  |_=>ae
theorem EM(hs:aS U H F w ob n){o s:Nat}{T0 T':TypeId}{dr e':DR}{l:List dr.row.den}{i:Int}{p:List Bool}{q:iM dr (.sl T' e')}(hq:dr.path p=aa ⟨_,q⟩)(fR:ob o=aa (s, .deep T0 dr l ae)){v:Value}(hv:H.val o=aa v)
 {j:Nat}(Yp:i=(j:Nat))(hj:j<l.length){lh:List dr.low.den}{Ss:Nat->Nat->Prop}(hm:nQ F w T0 dr.low v lh)(hlen:lh.length=l.length)(A3:∀i(h1:i<lh.length)(h2:i<l.length),rD H F w dr ae i lh[i] l[i] (Ss i))(fl:qL Ss l.length (cc v) (H.sub s)):
 o8 H F w ob n {dst:= .val ag (.own n),eat:=[o],make:=[(o,(n, .deep T0 dr l (aa ⟨i,p,n,n+1⟩))),(n,(n+1,LW T' e' (q.hi.get l[j])))]} (q.lo.get (lh[j]'(by omega))) w:=by
 have yk:j<lh.length:=by omega
 obtain⟨v1,yj,eK⟩:=hs.obj _ _ _ fR;rw[hv]at yj;obtain rfl:=aoB yj;obtain⟨A,B,hA,hB,h2⟩:=mL.out q (A3 j yk hj);obtain⟨_,m2,m3⟩:=wW (H:=H) hA;have hBs:∀k,B k->Ss j k:=h2.right;obtain⟨f1,f2⟩:=hs.fresh n (aoJ _) (by omega);obtain⟨f3,f4⟩:=hs.fresh (n+1) (by omega) (by omega)
 have By:o≠n:=λe=>by grind
 generalize ht1:Th.deep T0 dr l (aa ⟨i,p,n,n+1⟩)=t1;generalize JH:LW T' e' (q.hi.get l[j])=t2;generalize hu:q.lo.get lh[j]=u;generalize hSo:uZ (cc v) (λi=>if i=j then B else Ss i) l.length=So
 have aca:∀k,So k->H.sub s k:=by rw[<-hSo];exact fl.EL j hBs
 have hAS:∀k,A k->H.sub s k:=λk hk=>fl.part hj k (h2.left k hk)
 have hAo:∀k,So k->¬A k:=by
  rw[<-hSo]
  rintro k (hk|⟨i',gh,hk⟩) ha
  .exact fl.out j k hj (h2.left k ha) hk
  .by_cases e:i'=j
   .subst e;rw[aj rfl]at hk;exact h2.off k ha hk
   .rw[ai e]at hk;exact fl.two i' j k gh hj e hk (h2.left k ha)
 let H1:aR:=⟨λm=>if m=n then aa u else H.val m,λm=>if m=n then aa t1 else if m=n+1 then aa t2 else H.con m,λm=>if m=n then So else if m=n+1 then A else H.sub m⟩
 have hle:H.le H1:=by
  refine⟨λo v ho=>?_,λs t lm=>?_,λs t lm=>?_⟩
  .grind
  .grind
  .grind
 have hun:H1.val n=aa u:=by simp[H1]
 have pf:∀k,H.sub s k->dt H ob [o] k:=λk hk=>⟨o,by simp,s,_,v,fR,hv,hk⟩
 have pd:u.oneCell'=af:=by rw[<-hu];exact m3
 refine⟨H1,F,⟨hle,⟨rfl,rfl,rfl,aoJ _,λ_ _ _=>rfl⟩,λ_ h=>h,λ_ h=> .inl h,hs.lt⟩,λm hm=>?_,tP hun pd,⟨λo' s' t hf=>?_,λo1 o2 s1 s2 q1 q2 u1 u2 dS g1 g2 e1 e2 k hk dT=>?_⟩,λo' py=>?_⟩
 .grind
 .rw[bp]at hf;split at hf
  .rename_i e;subst e;simp only[aoW,Prod.mk.injEq]at hf;obtain⟨rfl,rfl⟩:=hf
   have Vi:H1.sub n=So:=by simp[H1]
   refine⟨v,hle.val _ _ hv,eK.one,?_,?_,λk hk=>?_⟩
   .rw[<-ht1];simp[H1,Th.base,ht1]
   .rw[Vi,<-ht1,<-hSo];refine⟨lh,_,hm,hlen,λi' a b=>?_,fl.less j hBs⟩;have hr:mL F w dr lh[i'] l[i'] (Ss i'):=A3 i' a b;refine⟨λhi=>?_,λhi=>?_⟩
    all_goals grind
   .rw[Vi,<-ht1]at hk;have hk:So k:=hk;have:=aca k hk;exact⟨eK.no k this,eK.lt k this, .inr (pf k this)⟩
  .obtain⟨e0,e⟩:=iQ hf;obtain⟨rfl,rfl⟩:=Prod.mk.inj e;rw[e0]
   have Vi:H1.sub (n+1)=A:=by simp[H1]
   obtain⟨m1,m2',_⟩:=wW (H:=H1) hA;rw[JH,hu]at m1 m2';refine⟨u,hun,pd,?_,by rw[Vi];exact m1,λk hk=>?_⟩
   .rw[<-JH,zj,JH];simp[H1]
   .rw[Vi]at hk;have:=hAS k (m2' k hk);exact⟨eK.no k this,eK.lt k this, .inr (pf k this)⟩
 all_goals grind [fp,find,bp]
theorem CU{α β:Type}{l:List α}{lh:List β}(h:lh.length=l.length){i:Int}{x:α}(hi:idx l i=aa x):∃j,i=(j:Nat)/\∃(h1:j<lh.length)(h2:j<l.length),x=l[j]/\idx lh i=aa lh[j]:=by
 grind [idx]
theorem LY(T:bU P){t:TypeId}{D:aM}{x:Operand}{k:gw->Option R}{q:R}(h:u7 T ob n t D k=aa q)(hs:aS U H F w ob n)(hx:aN H F w D (ev ρ x)):
 ∃e,k e=aa q/\dZ P U H F w ρ ob n ⟨aa d, .load t x,ty,pos,aft,ae⟩ e:=by
 unfold u7 at h;split at h
 .cases h
 rename_i kk hu;split at h
 case h_2=>cases h
 rename_i o d0 i p off;split at h
 case h_2=>cases h
 rename_i s T0 dr l hh fR;obtain⟨hd,h'⟩:=bo h;clear h;obtain rfl:=DR.eq_of_beq hd;obtain⟨g,o0,qq,m,cap,e1,e2,e5⟩:=hx;obtain⟨lh,Ss,gS,hlen,A3,fl⟩:=hs.low fR e1;split at h'
 .rename_i r BE CP;obtain⟨h1,h2⟩:=bo h';obtain⟨h1,h3⟩:=eG h1;obtain rfl:=beq_true h1;obtain⟨a,ha,hk⟩:=bind_some h2;obtain⟨j,hj,g1,g2,rfl,rC⟩:=CU hlen ha;have vD:=(gS.at rfl e2 rC).path BE.lo _ rfl;rw[OE BE (A3 j g1 g2)]at vD;obtain⟨es,hl,RO,hr⟩:=vD;exact⟨_,hk,qN T hu e5 hs (s:= .leaf r _) hr RO (mv T h3)⟩
 .rename_i T' e' BE CP;obtain⟨h1,h2⟩:=bo h';obtain⟨h1,h4⟩:=eG h1;obtain⟨h1,h3⟩:=eG h1;obtain rfl:=beq_true h1
  have OD:oV kk=ag:=by simpa using h4
  obtain⟨dd,ye,yT⟩:=(T.und_ok _ _ hu).agg
  have run:∀{j:Nat}(g1:j<lh.length),idx lh i=aa lh[j]->(execOp (ev ρ) ⟨aa d, .load t x,ty,pos,aft,ae⟩).run P w= .ok (.value (BE.lo.get lh[j])) w:=by
   intro j g1 rC;have vD:=(gS.at rfl e2 rC).path BE.lo _ rfl;obtain⟨es,hl,RO,hr,_⟩:=vD;rw[hr]at RO;exact Bx ye (yT.trans OD) e5 (RO 0 _ rfl)
  split at h2
  .obtain⟨a,ha,hk⟩:=bind_some h2;obtain⟨j,hj,g1,g2,rfl,rC⟩:=CU hlen ha;exact⟨_,hk,dL.val (run g1 rC) (EM hs CP fR e1 hj g2 gS.2 hlen A3 fl)⟩
  .rename_i hh;obtain⟨hp,h3⟩:=bo h2;have hp:=uY hp;split at h3
   case isFalse=>cases h3
   rename_i hi;have hi:hh.i=i:=ak hi;obtain⟨a,ha,hk⟩:=bind_some h3;obtain⟨j,hj,g1,g2,rfl,rC⟩:=CU hlen ha;obtain⟨T'',e'',q'',k1,_,k3⟩:=(A3 j g1 g2).2 (hi.trans hj);rw[hp,CP]at k1;cases k1;refine⟨_,hk,cP hs (run g1 rC) (tP k3 ?_)⟩;have vD:=(gS.at rfl e2 rC).path BE.lo _ rfl;obtain⟨es,_,_,_,A,m',c,Vh⟩:=vD;rw[Vh];rfl
 .cases h'
def Yq(T:TypeId):(e:DR)->Th->Option (List e.row.den)
 | .leaf r, .own T1 r1 y=>bif aoL T1 T then(if h:r1.beq r=af then aa (lg (r:= .slice r1) (s:= .slice r) (aw Row.slice (Row.eq_of_beq h)) y)else ae)else ae
 | .sl T2 e2, .deep T1 (.sl T3 e3) y ae=>bif aoL T1 T then(if h:(DR.sl T3 e3).beq (.sl T2 e2)=af then aa (DR.eq_of_beq h▸y)else ae)else ae
 | .pair a b, .deep T1 (.pair a1 b1) y ae=>bif aoL T1 T then(if h:(DR.pair a1 b1).beq (.pair a b)=af then aa (DR.eq_of_beq h▸y)else ae)else ae
 |_,_=>ae
theorem HG{T:TypeId}{e:DR}{t:Th}{y:List e.row.den}(h:Yq T e t=aa y):t=LW T e y:=by
 unfold Yq at h;split at h
 .obtain⟨h1,h2⟩:=bo h;split at h2
  .rename_i hb;obtain rfl:=Row.eq_of_beq hb;obtain rfl:=aoB h2;rw[beq_true h1];rfl
  .cases h2
 .obtain⟨h1,h2⟩:=bo h;split at h2
  .rename_i hb;cases DR.eq_of_beq hb;obtain rfl:=aoB h2;rw[beq_true h1];rfl
  .cases h2
 .obtain⟨h1,h2⟩:=bo h;split at h2
  .rename_i hb;cases DR.eq_of_beq hb;obtain rfl:=aoB h2;rw[beq_true h1];rfl
  .cases h2
 .cases h
def CV(h:Option yU)(i:Int)(p:List Bool):Bool:=
 match h with
 |none=>af
 |some h=>rE h.p p&&decide (h.i=i)
theorem EN{h:Option yU}{i:Int}{p:List Bool}(hh:CV h i p=af){dr e:DR}{T:TypeId}{q:iM dr (.sl T e)}(hq:dr.path p=aa ⟨_,q⟩){j:Nat}(hj:i=(j:Nat)){x':dr.low.den}{x:dr.row.den}{S:Nat->Prop}(hr:rD H F w dr h j x' x S):
 ∃B,(∀k,B k->S k)/\pe F w q x' x B:=by
 cases h with
 |none=>
  obtain⟨A,B,_,h2,h3⟩:=mL.out q (show mL F w dr x' x S from hr);exact⟨B,h3.right,h2⟩
 |some h=>
  have h':(rE h.p p&&decide (h.i=i))=af:=hh;obtain⟨h1,h2⟩:=eG h';obtain⟨T',e',q',k1,k2,_⟩:=hr.2 ((ak h2).trans hj)
  grind [uY]
theorem zo{h:Option yU}{i:Int}{p:List Bool}(hh:CV h i p=af){dr:DR}{j:Nat}(hj:i≠(j:Nat)){x':dr.low.den}{x:dr.row.den}{S:Nat->Prop}(hr:rD H F w dr h j x' x S):mL F w dr x' x S:=by
 cases h with
 |none=>exact hr
 |some h=>
  have h':(rE h.p p&&decide (h.i=i))=af:=hh;obtain⟨h1,h2⟩:=eG h';exact hr.1 (by grind)
end
end
end Go.Proofs.YtfjgcenlllgonaaGreatDoor
section
open _root_.Option renaming none->ae,some->aa
open _root_.Bool renaming true->af
open _root_.Int renaming toNat_natCast->aoF
open _root_.Nat renaming beq->aoL,le_refl->aoJ
open _root_.Option.some renaming inj->aoB
open _root_.Go.Value renaming ownBlock->apg
namespace Go.Proofs.YtfjgcenlllgonaaGreatDoor
open Go Go.RowKit
section
variable {P:Program} {ρ:Nat->Value} {w w':World} {H H':aR} {F F':Nat->Prop} {U:Nat->Prop} {ob:Nat->Option (Nat×Th)} {n:Nat} {R:Type}
variable {op:Op} {ty:TypeId} {pos:String} {aft:Array Edge} {d:Nat}
noncomputable def tS(T:bU P)(ob:Nat->Option (Nat×Th))(n:Nat)(t:TypeId)(D V:aM)(k:gw->Option R):Option R:=
 match find T.row t with
 |none=>ae
 |some rt=>match V with
  | .val _ u=>match D with
    | .dlm o d0 i p off=>match ob o with
      |some (_, .deep T0 dr l h)=>bif d0.beq dr then(match dr.path p with
       |some ⟨.leaf r,q⟩=>bif aoL q.lo.off off&&aoL rt.size r.size then(match flat ob r u with
        |some y=>(idx l i).bind λx=>k {dst:= .dead,eat:=[o],make:=[(o,(n, .deep T0 dr (be l i (q.hi.set x y)) h))]}
        |none=>ae)else ae
       |some ⟨.sl T' e',q⟩=>bif aoL q.lo.off off&&aoL rt.size 1 then(match u with
        | .own o1=>match ob o1 with
          |some (_,t1)=>match Yq T' e' t1 with
           |some _=>if CV h i p=af then(idx l i).bind λ_=>k {dst:= .dead,eat:=[o],make:=[(o,(n, .deep T0 dr l (aa ⟨i,p,o1,n⟩)))]}else ae
           |none=>ae
          |none=>ae
        | .nil=>if CV h i p=af then(idx l i).bind λx=>k {dst:= .dead,eat:=[o],make:=[(o,(n, .deep T0 dr (be l i (q.hi.set x ([]:List e'.row.den))) ae))]}else ae
        |_=>ae)else ae
       |_=>ae)else ae
      |_=>ae
    |_=>ae
  |_=>ae
theorem u9(T:bU P){t:TypeId}{rt:Row}(Ow:find T.row t=aa rt){x y:Operand}{o s:Nat}{T0:TypeId}{dr e:DR}{i:Int}{l l':List dr.row.den}{h h':Option yU}{q:iM dr e}{g o0 qq m cap j:Nat}{u:e.low.den}{cs:List Value}{x1:dr.row.den}
 (hs:aS U H F w ob n)(fR:ob o=aa (s, .deep T0 dr l h))(hv:H.val o=aa (.slice (aa ⟨g,o0,ae⟩) m cap))(hj:i=(j:Nat))(wY:j<l.length)(hx:ev ρ x= .pointer (aa ⟨g,o0+qq*dr.low.size+q.lo.off,ae⟩))(hqq:i=(qq:Nat))(hz:rt.size=e.low.size)
 (hr:dF F w e.low cs u)(AX:(ev ρ y).cells.toList=cs)(LZ:l'=l.set j x1)
 (A3:∀{w':World}{H1:aR},H.le H1->Step F w F w'->∀{x':dr.low.den}{S:Nat->Prop},(∀k,S k->w'.heap[k]? =w.heap[k]?)->rD H F w dr h j x' l[j] S->∃B,(∀k,B k->S k)/\rD H1 F w' dr h' j (q.lo.set x' u) x1 B)
 (acb:∀{H1:aR}{w':World}{i':Nat}{x':dr.low.den}{x:dr.row.den}{S:Nat->Prop},i'≠j->rD H1 F w' dr h i' x' x S->rD H1 F w' dr h' i' x' x S):
 dZ P U H F w ρ ob n ⟨ae, .store t x y,ty,pos,aft,ae⟩ {dst:= .dead,eat:=[o],make:=[(o,(n, .deep T0 dr l' h'))]}:=by
 obtain⟨ti,z0,h1,_,_,h4,_⟩:=T.row_ok _ _ Ow;obtain⟨lh,Ss,gS,hlen,Uj,fl⟩:=hs.low fR hv;obtain⟨v1,yj,eK⟩:=hs.obj _ _ _ fR;rw[hv]at yj;obtain rfl:=aoB yj
 have hjh:j<lh.length:=by omega
 obtain rfl:qq=j:=by omega
 obtain⟨cur,hh,hle,cG,lI⟩:=gS.put rfl hjh hs.lt q.lo hr;generalize hw':w.setRow g (cur.toList.take (o0+qq*dr.low.size+q.lo.off)++cs++cur.toList.drop (o0+qq*dr.low.size+q.lo.off+cs.length)).toArray=w' at cG lI;refine dL.unit (w':=w') (by rw[<-hw'];exact rA h1 (h4.trans (hz.trans hr.length.symm)) hx rfl AX hr.lU hh hle) ?_;have lm:Step F w F w':=Step.ext cG hs.lt gS.no
 have RX:∀i',i'<l.length->∀k,Ss i' k->w'.heap[k]? =w.heap[k]? :=λi' gh k hk=>cG.block k (eK.lt k (fl.part gh k hk)) (fl.out i' k gh hk)
 have hf:=hs.fresh n (aoJ _) (by omega)
 have pf:∀k,H.sub s k->dt H ob [o] k:=λk hk=>⟨o,by simp,s,_,_,fR,hv,hk⟩
 obtain⟨B0,Yr,_⟩:=A3 (w':=w') (H1:=H) (aR.le.refl H) lm (RX qq wY) (Uj qq hjh wY)
 have main:∀{H1:aR},H.le H1->∃B,(∀k,B k->Ss qq k)/\rD H1 F w' dr h' qq (q.lo.set lh[qq] u) x1 B:=(by grind)
 have Ys:∃B,(∀k,B k->Ss qq k)/\∀{H1:aR},H.le H1->rD H1 F w' dr h' qq (q.lo.set lh[qq] u) x1 B:=by
  obtain⟨B,b1,b2⟩:=main (aR.le.refl H);exact⟨B,b1,λRY=>b2.keep RY (Step.refl F w') λ_ _=>rfl⟩
 obtain⟨B,b1,b2⟩:=Ys;have hSs:∀k,uZ (cc (Value.slice (aa ⟨g,o0,ae⟩) m cap)) (λi=>if i=qq then B else Ss i) l.length k->H.sub s k:=fl.EL qq b1;refine qB.OG (t':= .deep T0 dr l' h') hs fR hv rfl (by simp) (uZ (cc (Value.slice (aa ⟨g,o0,ae⟩) m cap)) (λi=>if i=qq then B else Ss i) l.length) (λk hk=>pf k (hSs k hk)) ⟨cG.os,cG.tape,cG.output,cG.size,λk hk hn=>cG.block k hk λe=>hn (pf k (fl.cc k e))⟩ ?_ trivial;have RY:=aR.CS (H:=H) (S:=uZ (cc (Value.slice (aa ⟨g,o0,ae⟩) m cap)) (λi=>if i=qq then B else Ss i) l.length) (t:= .deep T0 dr l' h') hf.2
 have EK:l'.length=l.length:=by rw[LZ];simp
 refine⟨lh.set qq (q.lo.set lh[qq] u),(λi=>if i=qq then B else Ss i),lI.2,by grind,?_,?_⟩
 .intro i' a b
  have:=RW (rel:=rD ((H.kf n (uZ (cc (Value.slice (aa ⟨g,o0,ae⟩) m cap)) (λi=>if i=qq then B else Ss i) l.length)).cL n (.deep T0 dr l' h')) F w' dr h') (lh:=lh) (l:=l) (Ss:=Ss) (j:=qq) (x':=q.lo.set lh[qq] u) (x:=x1) (B:=B)
   (λi2 c1 c2 dS=>acb dS ((Uj i2 c1 c2).keep RY lm (RX i2 c2))) (b2 RY) i' a (by simpa[LZ]using b)
  grind
 .rw[EK];exact fl.less qq b1
theorem HH(T:bU P){t:TypeId}{D V:aM}{x y:Operand}{k:gw->Option R}{q:R}(h:tS T ob n t D V k=aa q)(hs:aS U H F w ob n)(hx:aN H F w D (ev ρ x))(hy:aN H F w V (ev ρ y)):
 ∃e,k e=aa q/\dZ P U H F w ρ ob n ⟨ae, .store t x y,ty,pos,aft,ae⟩ e:=by
 unfold tS at h;split at h
 .cases h
 rename_i rt Ow;split at h
 case h_2=>cases h
 rename_i agg u;split at h
 case h_2=>cases h
 rename_i o d0 i p off;split at h
 case h_2=>cases h
 rename_i s T0 dr l hh fR;obtain⟨hd,h'⟩:=bo h;clear h;obtain rfl:=DR.eq_of_beq hd;obtain⟨g,o0,qq,m,cap,e1,e2,e5⟩:=hx;obtain⟨cs,vA,AX⟩:=bq.cells hy;split at h'
 .rename_i r BE CP;obtain⟨h1,h2⟩:=bo h';obtain⟨h1,h3⟩:=eG h1;obtain rfl:=beq_true h1;split at h2
  case h_2=>cases h2
  rename_i z hz;obtain⟨a,ha,hk⟩:=bind_some h2;obtain⟨j,hj,wY,rfl⟩:=jv ha;refine⟨_,hk,u9 (l':=be l i (BE.hi.set l[j] z)) (x1:=BE.hi.set l[j] z) (u:=z) T Ow hs fR e1 hj wY e5 e2 (beq_true h3) (mM hs hz vA) AX ?_ ?_ ?_⟩
  .unfold be;rw[hj,aoF]
  .intro w' H1 hle lm x' S hb hr;exact⟨S,λ_ h=>h,LX BE z (hr.keep hle lm hb)⟩
  grind
 .rename_i T' e' BE CP;obtain⟨h1,h2⟩:=bo h';obtain⟨h1,h3⟩:=eG h1;obtain rfl:=beq_true h1;split at h2
  .rename_i o1;split at h2
   case h_2=>cases h2
   rename_i s1 t1 CW;split at h2
   case h_2=>cases h2
   rename_i y1 hD;split at h2
   case isFalse=>cases h2
   rename_i EO;obtain⟨a,ha,hk⟩:=bind_some h2;obtain⟨j,hj,wY,rfl⟩:=jv ha;obtain⟨u1,Hz,rF⟩:=hs.obj _ _ _ CW;obtain⟨v,hv,pd,rfl⟩:=vA;rw[Hz]at hv;obtain rfl:=aoB hv
   have ace:dF F w .mI [u1] u1:=by
    have:=rF.ok;rw[HG hD]at this;obtain⟨lh1,_,g1,_⟩:=zk this;obtain⟨xs,⟨_,hx⟩,_⟩:=g1
    rcases hx with⟨rfl,_⟩|⟨gg,o0,cp,cur,rfl,_⟩<;>exact⟨rfl,_,_,_,rfl⟩
   refine⟨_,hk,u9 (l':=l) (x1:=l[j]) (u:=u1) (e:= .sl T' e') T Ow hs fR e1 hj wY e5 e2 (beq_true h3) ace AX ?_ ?_ ?_⟩
   .simp_all
   .intro w' H1 hle lm x' S hb hr;obtain⟨B,b1,b2⟩:=EN EO CP hj hr;refine⟨B,b1,λdS=>absurd hj dS,λ_=>⟨T',e',BE,CP,(b2.keep lm λk hk=>hb k (b1 k hk)).OF BE u1,?_⟩⟩;rw[Path.CR];exact hle.val _ _ Hz
   .intro H1 w' i' x' x S dS hr
    have RZ:i≠(i':Int):=λe=>dS (by omega)
    exact⟨λ_=>zo EO RZ hr,λe=>absurd e RZ⟩
  .split at h2
   case isFalse=>cases h2
   rename_i EO;obtain⟨a,ha,hk⟩:=bind_some h2;obtain⟨j,hj,wY,rfl⟩:=jv ha;have acf:cs=_:=vA;subst acf;refine⟨_,hk,u9 (x1:=BE.hi.set l[j] ([]:List e'.row.den)) (u:=Value.slice ae 0 0) (e:= .sl T' e') T Ow hs fR e1 hj wY e5 e2 (beq_true h3) ⟨rfl,_,_,_,rfl⟩ AX ?_ ?_ ?_⟩
   .unfold be;rw[hj,aoF]
   .intro w' H1 hle lm x' S hb hr;obtain⟨B,b1,b2⟩:=EN EO CP hj hr;refine⟨B,b1,?_⟩;refine pe.put (e:= .sl T' e') BE (b2.keep lm λk hk=>hb k (b1 k hk)) (A:=λ_=>False) ?_ ⟨λk=>by simp,λ_ h=>h.elim⟩;exact⟨[],λ_ _=>False,nQ.nil F w' T' e'.low,rfl,λi h=>absurd h (by simp),⟨λk=>by simp[cc,apg],λ_ _ _ h=>absurd h (by simp),λ_ _ h=>absurd h (by simp)⟩⟩
   .intro H1 w' i' x' x S dS hr
    have RZ:i≠(i':Int):=λe=>dS (by omega)
    exact zo EO RZ hr
  .cases h2
 .cases h'
end
end Go.Proofs.YtfjgcenlllgonaaGreatDoor
namespace Go.Proofs.YtfjgcenlllgonaaGreatDoor
open Go Go.RowKit
def vK{α:Type}(l:List α)(i:Int)(f:α->α):List α:=if 0<=i then l.modify i.toNat f else l
theorem kg{α:Type}(l:List α)(i:Int)(f:α->α):(vK l i f).length=l.length:=by unfold vK;split<;>simp
theorem yD{α:Type}{l:List α}{i:Int}{f:α->α}{j:Nat}(h:j<(vK l i f).length)(h':j<l.length):(vK l i f)[j]=if i=(j:Int)then f l[j]else l[j]:=by
 grind [vK]
theorem Path.CX:{r s:Row}->(p:Path r s)->(x:r.den)->p.set x (p.get x)=x
 |_,_, .here,_=>rfl
 |_,_, .fst p,x=>by show(p.set x.1 (p.get x.1),x.2)=x;rw[Path.CX p]
 |_,_, .snd p,x=>by show(x.1,p.set x.2 (p.get x.2))=x;rw[Path.CX p]
section
variable {P:Program} {ρ:Nat->Value} {w w':World} {H H':aR} {F F':Nat->Prop} {U:Nat->Prop} {ob:Nat->Option (Nat×Th)} {n:Nat} {R:Type}
variable {op:Op} {ty:TypeId} {pos:String} {aft:Array Edge} {d:Nat}
def OH(ob:Nat->Option (Nat×Th))(n o:Nat):Option gw:=
 match ob o with
 |some (_, .deep T0 dr l (aa h))=>match dr.path h.p with
  |some ⟨.sl T' e',q⟩=>match ob h.o with
   |some (_,t1)=>bif aoL h.o o then ae else(match Yq T' e' t1 with
    |some y=>aa {dst:= .dead,eat:=[o,h.o],make:=[(o,(n, .deep T0 dr (vK l h.i λx=>q.hi.set x y) ae))]}
    |none=>ae)
   |none=>ae
  |_=>ae
 |_=>ae
theorem L0(hs:aS U H F w ob n){o:Nat}{e:gw}(h:OH ob n o=aa e):o8 H F w ob n e undef w:=by
 unfold OH at h;split at h
 case h_2=>cases h
 rename_i s T0 dr l hh fR;split at h
 case h_2=>cases h
 rename_i T' e' q hq;split at h
 case h_2=>cases h
 rename_i s1 t1 CW
 cases dS:aoL hh.o o with
 |true=>rw[dS]at h;cases h
 |false=>
  rw[dS,cond_false]at h
  have dS:o≠hh.o:=λe=>by simp_all
  split at h
  case h_2=>cases h
  rename_i y hD;obtain rfl:=aoB h;have hD:=HG hD;subst hD;obtain⟨v,hv,eK⟩:=hs.obj _ _ _ fR;obtain⟨u,hu,rF⟩:=hs.obj _ _ _ CW;obtain⟨lh,Ss,gS,hlen,A3,fl⟩:=hs.low fR hv;have hA:=zk rF.ok;generalize hAA:(λk=>fp (H.sub s1) u (LW T' e' y) k)=A at hA
  have hAd:∀k,A k->¬H.sub s k:=λk hk=>by
   rw[<-hAA]at hk
   exact λh2=>hs.apart _ _ _ _ _ _ _ _ dS fR CW hv hu k h2 hk
  have hf:=hs.fresh n (aoJ _) (by omega)
  let Yt:Nat->Nat->Prop:=λi k=>Ss i k\/(hh.i=(i:Int)/\A k)
  have pf:∀k,H.sub s k\/A k->dt H ob [o,hh.o] k:=by
   rintro k (hk|hk)
   .exact⟨o,by simp,s,_,v,fR,hv,hk⟩
   .rw[<-hAA]at hk;exact⟨hh.o,by simp,s1,_,u,CW,hu,hk⟩
  have hS:∀k,uZ (cc v) Yt l.length k->H.sub s k\/A k:=by
   rintro k (hk|⟨i,hi,hk|hk⟩)
   .exact .inl (fl.cc k hk)
   .exact .inl (fl.part hi k hk)
   .exact .inr hk.2
  refine qB.OG (t':= .deep T0 dr (vK l hh.i λx=>q.hi.set x y) ae) hs fR hv rfl (by simp) (uZ (cc v) Yt l.length) (λk hk=>pf k (hS k hk)) ⟨rfl,rfl,rfl,aoJ _,λ_ _ _=>rfl⟩ ?_ trivial;have EK:(vK l hh.i λx=>q.hi.set x y).length=l.length:=kg ..;refine⟨lh,Yt,gS.2,by rw[EK];exact hlen,λi a b=>?_,?_⟩
  .have b':i<l.length:=by omega
   rw[yD b b'];have hr:=A3 i a b'
   by_cases hi:hh.i=(i:Int)
   .rw[aj hi];obtain⟨T'',e'',q'',k1,k2,k3⟩:=hr.2 hi;rw[hq]at k1;cases k1;rw[hu]at k3;have k3:=aoB k3;have:mL F w dr (q.lo.set lh[i] u) (q.hi.set l[i] y) (Yt i):=k2.put q hA ⟨(by grind),λk hk h2=>hAd k hk (fl.part b' k h2)⟩;rw[k3,Path.CX]at this;exact this
   .rw[ai hi];have Uk:=hr.1 hi
    have:Yt i=Ss i:=by
     funext k;exact(by grind)
    rw[this];exact Uk
  .rw[EK];refine⟨λk=>Iff.rfl,λi j k h1 h2 Yp h3 h4=>?_,λi k h1 h3 h4=>?_⟩
   .rcases h3 with h3|h3<;>rcases h4 with h4|h4
    .exact fl.two i j k h1 h2 Yp h3 h4
    .exact hAd k h4.2 (fl.part h1 k h3)
    .exact hAd k h3.2 (fl.part h2 k h4)
    grind
   .rcases h3 with h3|h3
    .exact fl.out i k h1 h3 h4
    .exact hAd k h3.2 (fl.cc k h4)
end
end Go.Proofs.YtfjgcenlllgonaaGreatDoor
end
namespace Go.Proofs.YtfjgcenlllgonaaGreatDoor
open Go Go.RowKit
set_option maxRecDepth 100000
set_option linter.unusedSimpArgs false
set_option linter.unusedVariables false
set_option linter.defProp false
section
theorem DR.iK:(d:DR)->d.low.iK=d.row.iK
 | .leaf _=>rfl
 | .sl _ _=>rfl
 | .pair a b=>by show a.low.iK++b.low.iK=a.row.iK++b.row.iK;rw[a.iK,b.iK]
theorem TI.low{P:Program}{e:TypeId}{d:DR}(h:TI P e d.row):TI P e d.low:=by
 obtain⟨ti,z,h1,h2,h3,h4,h5⟩:=h;exact⟨ti,z,h1,h2,by rw[d.iK];exact h3,by rw[d.size];exact h4,h5⟩
def HI:List Nat->Bool
 |[]=>af
 |o::l=> !l.any (aoL o)&&HI l
theorem BI:{l:List Nat}->HI l=af->l.Nodup
 |[],_=>List.nodup_nil
 |o::l,h=>by
  obtain⟨h1,h2⟩:=eG h;refine List.nodup_cons.2 ⟨λhm=>?_,BI h2⟩;rw[any_beq.2 hm]at h1;cases h1
def DR.mk2:DR->DR->DR
 | .leaf a, .leaf b=> .leaf (.pair a b)
 |a,b=> .pair a b
def Vj(ob:Nat->Option (Nat×Th)):Row->Tree->DR
 | .slice e, .own o=>match ob o with
   |some (_, .own T r _)=> .sl T (.leaf r)
   |some (_, .deep T d _ ae)=> .sl T d
   |_=> .leaf (.slice e)
 | .pair a b,t=>match t.split with
   |some (x,y)=>DR.mk2 (Vj ob a x) (Vj ob b y)
   |none=> .leaf (.pair a b)
 |r,_=> .leaf r
def HJ(ob:Nat->Option (Nat×Th)):(d:DR)->Tree->Option (d.row.den×List Nat)
 | .leaf r,t=>match flat ob r t with
   |some x=>aa (x,[])
   |none=>ae
 | .sl T e, .own o=>match ob o with
   |some (_,t1)=>match Yq T e t1 with
    |some y=>aa (y,[o])
    |none=>ae
   |none=>ae
 | .sl _ _, .nil=>aa ([],[])
 | .sl _ _,_=>ae
 | .pair a b,t=>match t.split with
   |some (x,y)=>match HJ ob a x with
    |some (u,os)=>match HJ ob b y with
     |some (v,R1)=>aa ((u,v),os++R1)
     |none=>ae
    |none=>ae
   |none=>ae
def JI(ob:Nat->Option (Nat×Th))(d:DR):List aM->Option (List d.row.den×List Nat)
 |[]=>aa ([],[])
 | .val _ u::l=>match HJ ob d u with
   |some (x,os)=>match JI ob d l with
    |some (xs,R1)=>aa (x::xs,os++R1)
    |none=>ae
   |none=>ae
 |_::_=>ae
section
variable {P:Program} {ρ:Nat->Value} {w w':World} {H H':aR} {F F':Nat->Prop} {U:Nat->Prop} {ob:Nat->Option (Nat×Th)} {n:Nat} {R:Type}
variable {op:Op} {ty:TypeId} {pos:String} {aft:Array Edge} {d:Nat}
theorem xF(hs:aS U H F w ob n){os R1:List Nat}(hd:∀o,o∈os->o∉R1):∀k,dt H ob os k->¬dt H ob R1 k:=by
 rintro k ⟨o,ho,s,t,v,h1,h2,h3⟩ ⟨o',py,s',t',v',g1,g2,g3⟩
 exact hs.apart o o' s s' t t' v v' (λe=>hd o ho (e▸py)) h1 g1 h2 g2 k h3 g3
theorem tT{os R1:List Nat}(h:∀o,o∈os->o∈R1):∀k,dt H ob os k->dt H ob R1 k:=λ_ ⟨o,ho,rest⟩=>⟨o,h o ho,rest⟩
theorem CY(hs:aS U H F w ob n):{d:DR}->{t:Tree}->{x:d.row.den}->{os:List Nat}->{cs:List Value}->HJ ob d t=aa (x,os)->Holds H F w t cs->os.Nodup->∃x' S,dF F w d.low cs x'/\mL F w d x' x S/\∀k,S k->dt H ob os k
 | .leaf r,t,x,os,cs,h,hh,R2=>by
   unfold HJ at h
   split at h<;>cases h
   rename_i hf;exact⟨x,λ_=>False,mM hs hf hh,⟨rfl,λ_ h=>h⟩,λ_ h=>h.elim⟩
 | .sl T e, .own o,x,os,cs,h,hh,R2=>by
   unfold HJ at h;split at h
   case h_2=>cases h
   rename_i s1 t1 ho
   split at h<;>cases h
   rename_i hD;obtain⟨v,hv,_,rfl⟩:=hh;obtain⟨v',gQ,eK⟩:=hs.obj _ _ _ ho;rw[hv]at gQ;obtain rfl:=aoB gQ;have hD:=HG hD;subst hD;have hb:=zk eK.ok;refine⟨v,_,?_,hb,λk hk=>⟨o,by simp,s1,_,v,ho,hv,hk⟩⟩;obtain⟨lh1,_,⟨xs,⟨_,hx⟩,_⟩,_⟩:=hb
   rcases hx with⟨rfl,_⟩|⟨gg,o0,cp,cur,rfl,_⟩<;>exact⟨rfl,_,_,_,rfl⟩
 | .sl T e, .nil,x,os,cs,h,hh,_=>by
   cases h;have hh':cs=_:=hh;subst hh';exact⟨.slice ae 0 0,λ_=>False,⟨rfl,_,_,_,rfl⟩,⟨[],λ_ _=>False,nQ.nil F w T e.low,rfl,λi h=>absurd h (by simp),⟨λk=>by simp[cc,apg],λ_ _ _ h=>absurd h (by simp),λ_ _ h=>absurd h (by simp)⟩⟩,λ_ h=>h.elim⟩
 | .pair a b,t,x,os,cs,h,hh,hn=>by
   unfold HJ at h;split at h
   case h_2=>cases h
   rename_i t1 t2 BA;split at h
   case h_2=>cases h
   rename_i u os1 h1;split at h
   case h_2=>cases h
   rename_i v os2 h2;cases h;obtain⟨c1,c2,rfl,g1,g2,_⟩:=hh.split BA;obtain⟨n1,n2,n3⟩:=List.nodup_append.1 hn;obtain⟨x1,S1,r1,e1,s1⟩:=CY hs h1 g1 n1;obtain⟨x2,S2,r2,e2,s2⟩:=CY hs h2 g2 n2;refine⟨(x1,x2),λk=>S1 k\/S2 k,⟨c1,c2,rfl,r1,r2⟩,⟨S1,S2,e1,e2,λ_=>Iff.rfl,λk hk dT=>xF hs (λo ho py=>n3 o ho o py rfl) k (s1 k hk) (s2 k dT)⟩,λk hk=>hk.elim (λhk=>tT (λo ho=>by simp[ho]) k (s1 k hk)) λhk=>tT (λo ho=>by simp[ho]) k (s2 k hk)⟩
 | .sl _ _, .leaf _ _,_,_,_,h,_,_=>by cases h
 | .sl _ _, .pair _ _,_,_,_,h,_,_=>by cases h
 | .sl _ _, .view ..,_,_,_,h,_,_=>by cases h
theorem EP(hs:aS U H F w ob n){d:DR}:{ds:List aM}->{l:List d.row.den}->{os:List Nat}->{vs:List Value}->JI ob d ds=aa (l,os)->ic H F w ds vs->os.Nodup->
 ∃(lh:List d.low.den)(Ss:Nat->Nat->Prop),yS F w d.low vs lh/\lh.length=l.length/\(∀i(h1:i<lh.length)(h2:i<l.length),mL F w d lh[i] l[i] (Ss i))/\(∀i k,i<l.length->Ss i k->dt H ob os k)/\∀i j k,i<l.length->j<l.length->i≠j->Ss i k->¬Ss j k
 |[],l,os,vs,h,hd,_=>by
  cases h;rw[show vs=[]from hd];exact⟨[],λ_ _=>False, .nil,rfl,λi h=>absurd h (by simp),λ_ _ h=>absurd h (by simp),λ_ _ _ h=>absurd h (by simp)⟩
 | .val _ u::ds,l,os,vs,h,hd,hn=>by
   obtain⟨v,us,rfl,h1,h2⟩:=hd;unfold JI at h;split at h
   case h_2=>cases h
   rename_i x os1 hf;split at h
   case h_2=>cases h
   rename_i xs os2 hg;cases h;obtain⟨cs,vA,AX⟩:=bq.cells h1;obtain⟨n1,n2,n3⟩:=List.nodup_append.1 hn;obtain⟨x',S,r1,e1,s1⟩:=CY hs hf vA n1;obtain⟨lh,Ss,k1,k2,k3,k4,k5⟩:=EP hs hg h2 n2
   have ap:∀i k,i<xs.length->S k->¬Ss i k:=λi k hi hk dT=>xF hs (λo ho py=>n3 o ho o py rfl) k (s1 k hk) (k4 i k hi dT)
   refine⟨x'::lh,λi=>match i with|0=>S|i+1=>Ss i, .cons AX r1 k1,by simp[k2],λi a b=>?_,λi k hi hk=>?_,λi j k hi hj dS hk dT=>?_⟩
   .grind
   .cases i with
    |zero=>grind [tT]
    |succ i=>grind [tT]
   .cases i with
    |zero=>
     cases j<;>grind
    |succ i=>
     cases j<;>grind
 | .dead::_,_,_,_,h,_,_=>by cases h
 | .undef::_,_,_,_,h,_,_=>by cases h
 | .ptr .. ::_,_,_,_,h,_,_=>by cases h
 | .at .. ::_,_,_,_,h,_,_=>by cases h
 | .elem .. ::_,_,_,_,h,_,_=>by cases h
 | .tup _::_,_,_,_,h,_,_=>by cases h
 | .dlm .. ::_,_,_,_,h,_,_=>by cases h
 | .fn .. ::_,_,_,_,h,_,_=>by cases h
 | .ifc .. ::_,_,_,_,h,_,_=>by cases h
theorem qB.Vk(hs:aS U H F w ob n){eat:List Nat}{t:Th}{v0:Value}{S:Nat->Prop}(hb:t.base=t)(h1:v0.oneCell'=af){D:aM}{v:Value}
 (cG:Ext (dt H ob eat) w w')(sJ:lK (((H.kf n S).cL n t).fJ n v0) F w' S v0 t)(Rf:∀k,fp S v0 t k->¬F k/\k<w'.heap.size/\(w.heap.size<=k\/dt H ob eat k))
 (hd:aN (((H.kf n S).cL n t).fJ n v0) F w' D v):o8 H F w ob n {dst:=D,eat:=eat,make:=[(n,(n,t))]} v w':=by
 have hf:=hs.fresh n (aoJ _) (by omega)
 have jY:(((H.kf n S).cL n t).fJ n v0).sub n=S:=by simp[aR.fJ,aR.cL,aR.kf]
 refine⟨((H.kf n S).cL n t).fJ n v0,F,⟨(aR.CS hf.2).trans (aR.wQ (by simp[aR.cL,aR.kf,hf.1])),cG,λ_ h=>h,λ_ h=> .inl h,λb hb=>api (hs.lt b hb) cG.size⟩,λm hm=>?_,hd,⟨λo' s' q hq=>?_,λo1 o2 s1 s2 q1 q2 u1 u2 dS h1 h2=>?_⟩,λo' h=>?_⟩
 .simp[aR.cL,aR.fJ,aR.kf,show m≠n from by omega]
 .obtain⟨rfl,e⟩:=iQ hq;obtain⟨rfl,rfl⟩:=Prod.mk.inj e;exact⟨v0,by simp[aR.fJ],h1,by simp[aR.cL,aR.fJ,hb],by rw[jY];exact sJ,by grind⟩
 .grind [iQ]
 .right
  obtain⟨y,hy⟩:=apA.1 h
  grind [iQ]
def CZ(ob:Nat->Option (Nat×Th))(r:Row):List aM->DR
 | .val _ u::_=>Vj ob r u
 |_=> .leaf r
def sS(e:TypeId)(dr:DR)(ob:Nat->Option (Nat×Th))(n:Nat)(ds:List aM)(k:gw->Option R):Option R:=
 match JI ob dr ds with
 |some (l,os)=>bif HI os then k {dst:= .val ag (.own n),eat:=os,make:=[(n,(n,LW e dr l))]}else ae
 |none=>ae
def tU(T:bU P)(rd:Operand->Option aM)(ob:Nat->Option (Nat×Th))(n:Nat)(t:TypeId)(m:Nat)(parts:Array (Nat×Operand))(k:gw->Option R):Option R:=
 match find T.und t with
 |some (.slice e)=>match find T.row e with
  |some r=>bif JD 0 parts.toList&&aoL m parts.toList.length&&Nat.ble (m*r.size) 16777216 then
    (match vI rd (parts.toList.map (·.2))with
    |some ds=>bif (CZ ob r ds).row.beq r then sS e (CZ ob r ds) ob n ds k else ae
    |none=>ae)else ae
  |none=>ae
 |_=>ae
theorem HK(T:bU P){rd:Operand->Option aM}(jN:∀x d,rd x=aa d->aN H F w d (ev ρ x)){t:TypeId}{m:Nat}{parts:Array (Nat×Operand)}{k:gw->Option R}{q:R}(h:tU T rd ob n t m parts k=aa q)(hs:aS U H F w ob n):
 ∃e,k e=aa q/\dZ P U H F w ρ ob n ⟨aa d, .buildSlice t m parts,ty,pos,aft,ae⟩ e:=by
 unfold tU at h;split at h
 case h_2=>cases h
 rename_i e hu;split at h
 case h_2=>cases h
 rename_i r hr;obtain⟨c0,h8⟩:=bo h;clear h;obtain⟨c1,c3⟩:=eG c0;obtain⟨h1,c2⟩:=eG c1;have h2:=beq_true c2
 have h3:m*r.size<=16777216:=by simpa using c3
 clear c0 c1 c2 c3;split at h8
 case h_2=>cases h8
 rename_i ds AY;obtain⟨Yu,h⟩:=bo h8;clear h8;have mI:=Row.eq_of_beq Yu;clear Yu
 obtain⟨dr,XE⟩:∃dr,dr=CZ ob r ds:=⟨_,rfl⟩
 rw[<-XE]at h mI;clear XE;subst mI;unfold sS at h;split at h
 case h_2=>cases h
 rename_i l os hl;obtain⟨hn,hk⟩:=bo h;clear h;obtain⟨lh,Ss,k1,k2,k3,k4,k5⟩:=EP hs hl (qO jN AY) (BI hn)
 have hp:parts=(((parts.toList.map (·.2)).zipIdx).map λp=>(p.2,p.1)).toArray:=by
  rw[<-ze h1,apF]
 have hm:m=(parts.toList.map (·.2)).length:=by simpa using h2
 obtain⟨v,w',cD,cG,gS,Oy⟩:=zd (d:=d) (ty:=ty) (pos:=pos) (aft:=aft) (T.und_ok _ _ hu) (TI.low (T.row_ok _ _ hr)) hp (by rw[<-hm,DR.size];exact h3) k1 hs;rw[<-hm]at cD;refine⟨_,hk,dL.val cD ?_⟩
 have aJ:∀i k,i<l.length->Ss i k->k<w.heap.size:=λi k hi hk=>hs.yV k (k4 i k hi hk)
 have lm:Step F w F w':=λb hb=>⟨hb,(cG λ_=>False).block b (hs.lt b hb) λh=>h⟩
 have fl:qL Ss l.length (cc v) (uZ (cc v) Ss l.length):=⟨λ_=>Iff.rfl,k5,(by grind)⟩
 have wJ:mL F w' (.sl e dr) v l (uZ (cc v) Ss l.length):=⟨lh,Ss,gS.2,k2,λi a b=>(k3 i a b).keep lm λk hk=>(cG λ_=>False).block k (aJ i k b hk) λh=>h,fl⟩
 have Rf:∀k,uZ (cc v) Ss l.length k->¬F k/\k<w'.heap.size/\(w.heap.size<=k\/dt H ob os k):=by
  rintro k (hk|⟨i,hi,hk⟩)
  .exact⟨gS.1 k hk,gS.lt k hk, .inl (Oy k hk)⟩
  .have:=k4 i k hi hk;exact⟨hs.jX k this,api (hs.yV k this) (cG λ_=>False).size, .inr this⟩
 refine qB.Vk (S:=uZ (cc v) Ss l.length) (v0:=v) hs (zj ..) (tO gS) (cG _) (wW wJ).1 (λk hk=>Rf k ((wW (H:=H) wJ).2.1 k hk)) (tP (by simp[aR.fJ]) (tO gS))
def C0(T:bU P)(n:Nat)(t:TypeId)(same:Bool)(a b:Int)(k:gw->Option R):Option R:=
 match find T.und t with
 |some (.slice e)=>match find T.row e with
  |some (.slice r)=>match find T.und e with
   |some (.slice e')=>(bif same then pw a ([]:List r.den)else mkC a b ([]:List r.den)).bind λl=>k {dst:= .val ag (.own n),make:=[(n,(n, .deep e (.sl e' (.leaf r)) l ae))]}
   |_=>ae
  |_=>zc T n t same a b k
 |_=>ae
theorem BJ{e e' t:TypeId}{r:Row}{a b:Int}(ht:P.underlying t=aa (.slice e))(sB:TI P e (.slice r))(hs:aS U H F w ob n){ka kb:IntKind}{x y:Operand}(hx:ev ρ x= .int ka a)(hy:ev ρ y= .int kb b)(h0:0<=a)(h1:a<=b)(h2:b<=4294967296):
 dZ P U H F w ρ ob n ⟨aa d, .makeSlice t x y,ty,pos,aft,ae⟩ {dst:= .val ag (.own n),make:=[(n,(n, .deep e (.sl e' (.leaf r)) (aoE a.toNat ([]:List r.den)) ae))]}:=by
 obtain⟨v,w',cD,cG,gS,Oy⟩:=BG (d:=d) (ty:=ty) (pos:=pos) (aft:=aft) (r:= .mI) ht (TI.low (d:= .sl e' (.leaf r)) sB) hs hx hy h0 h1 h2
 have wJ:mL F w' (.sl e (.sl e' (.leaf r))) v (aoE a.toNat ([]:List r.den)) (cc v):=by
  refine⟨aoE a.toNat (Value.slice ae 0 0),λ_ _=>False,gS.2,by simp,λi h1 h2=>?_,⟨λk=>by simp,λ_ _ _ _ _ _ h=>h.elim,λ_ _ _ h=>h.elim⟩⟩;simp only[List.getElem_replicate];exact⟨[],λ_ _=>False,nQ.nil F w' e' r,rfl,λi h=>absurd h (by simp),⟨λk=>by simp[cc,apg],λ_ _ _ h=>absurd h (by simp),λ_ _ h=>absurd h (by simp)⟩⟩
 refine dL.val cD (qB.Vk (S:=cc v) (v0:=v) (eat:=[]) (t:=LW e (.sl e' (.leaf r)) (aoE a.toNat ([]:List r.den))) hs (zj ..) (tO gS) (cG _) (wW wJ).1 (λk hk=>?_) (tP (by simp[aR.fJ]) (tO gS)));have hk:=(wW (H:=H) wJ).2.1 k hk;exact⟨gS.1 k hk,gS.lt k hk, .inl (Oy k hk)⟩
theorem L1(T:bU P){t:TypeId}{a b:Int}{ka kb:IntKind}{x y:Operand}{k:gw->Option R}{q:R}(h:C0 T n t (sR x y) a b k=aa q)(hs:aS U H F w ob n)(hx:ev ρ x= .int ka a)(hy:ev ρ y= .int kb b):
 ∃e,k e=aa q/\dZ P U H F w ρ ob n ⟨aa d, .makeSlice t x y,ty,pos,aft,ae⟩ e:=by
 unfold C0 at h;split at h
 case h_2=>cases h
 rename_i e hu;split at h
 case h_2=>exact ED T h hs hx hy
 rename_i r hr;split at h
 case h_2=>cases h
 rename_i e' Vh;obtain⟨l,hl,hk⟩:=bind_some h;have sB:=T.row_ok _ _ hr;have ht:=T.und_ok _ _ hu
 cases oC:sR x y with
 |true=>
  rw[oC,cond_true]at hl;unfold pw at hl;split at hl
  case isFalse=>cases hl
  rename_i hc;obtain rfl:=aoB hl;obtain rfl:=BH oC hx hy;exact⟨_,hk,BJ ht sB hs hx hy hc.1 (apR _) hc.2⟩
 |false=>
  rw[oC,cond_false]at hl;unfold mkC at hl;split at hl
  case isFalse=>cases hl
  rename_i hc;obtain rfl:=aoB hl;exact⟨_,hk,BJ ht sB hs hx hy hc.1 hc.2.1 hc.2.2⟩
def zp(deep:Bool)(T:bU P)(n:Nat)(t:TypeId)(same:Bool)(a b:Int)(k:gw->Option R):Option R:=
 match deep with
 |true=>C0 T n t same a b k
 |false=>zc T n t same a b k
theorem L2(deep:Bool)(T:bU P){t:TypeId}{a b:Int}{ka kb:IntKind}{x y:Operand}{k:gw->Option R}{q:R}(h:zp deep T n t (sR x y) a b k=aa q)(hs:aS U H F w ob n)(hx:ev ρ x= .int ka a)(hy:ev ρ y= .int kb b):
 ∃e,k e=aa q/\dZ P U H F w ρ ob n ⟨aa d, .makeSlice t x y,ty,pos,aft,ae⟩ e:=by
 cases deep with
 |true=>exact L1 T h hs hx hy
 |false=>exact ED T h hs hx hy
def sT(T:bU P)(ob:Nat->Option (Nat×Th))(n:Nat)(t:TypeId)(D:aM)(k:gw->Option R):Option R:=
 match D with
 | .dlm .. =>u7 T ob n t D k
 |_=>BD T ob t D k
theorem L3(T:bU P){t:TypeId}{D:aM}{x:Operand}{k:gw->Option R}{q:R}(h:sT T ob n t D k=aa q)(hs:aS U H F w ob n)(hx:aN H F w D (ev ρ x)):
 ∃e,k e=aa q/\dZ P U H F w ρ ob n ⟨aa d, .load t x,ty,pos,aft,ae⟩ e:=by
 unfold sT at h;split at h
 .exact LY T h hs hx
 .exact Ov T h hs hx
noncomputable def tV(T:bU P)(ob:Nat->Option (Nat×Th))(n:Nat)(t:TypeId)(D V:aM)(k:gw->Option R):Option R:=
 match D with
 | .dlm .. =>tS T ob n t D V k
 |_=>wR T ob n t D V k
theorem HL(T:bU P){t:TypeId}{D V:aM}{x y:Operand}{k:gw->Option R}{q:R}(h:tV T ob n t D V k=aa q)(hs:aS U H F w ob n)(hx:aN H F w D (ev ρ x))(hy:aN H F w V (ev ρ y)):
 ∃e,k e=aa q/\dZ P U H F w ρ ob n ⟨ae, .store t x y,ty,pos,aft,ae⟩ e:=by
 unfold tV at h;split at h
 .exact HH T h hs hx hy
 .exact LJ T h hs hx hy
def yE(deep:Bool)(T:bU P)(rd:Operand->Option aM)(ob:Nat->Option (Nat×Th))(n:Nat)(t:TypeId)(m:Nat)(parts:Array (Nat×Operand))(k:gw->Option R):Option R:=
 match deep with
 |true=>tU T rd ob n t m parts k
 |false=>my T rd ob n t m parts k
theorem HM(deep:Bool)(T:bU P){rd:Operand->Option aM}(jN:∀x d,rd x=aa d->aN H F w d (ev ρ x)){t:TypeId}{m:Nat}{parts:Array (Nat×Operand)}{k:gw->Option R}{q:R}(h:yE deep T rd ob n t m parts k=aa q)(hs:aS U H F w ob n):
 ∃e,k e=aa q/\dZ P U H F w ρ ob n ⟨aa d, .buildSlice t m parts,ty,pos,aft,ae⟩ e:=by
 cases deep with
 |true=>exact HK T jN h hs
 |false=>exact zf T jN h hs
end
end
end Go.Proofs.YtfjgcenlllgonaaGreatDoor
