/- Joined texts: Path Effs2 Effs3 Effs4 Effs5 Effs6. -/
import Derived.Test.YtbladfbbhijpmaaGreatU1
import Derived.Carry
open _root_.Bool renaming false->acR,true->acQ,and_eq_true->abR
open _root_.Option renaming none->acP,isSome_iff_exists->abB
open _root_.List renaming append_assoc->abm,drop_append_of_le_length->abP,drop_of_length_le->ab2,length_append->aba,take_length->abg,length_take->abb,replicate->abn,getElem?_eq_getElem->aaW,mem_cons->aa7
open _root_.Nat renaming beq->aaY,eq_of_beq_eq_true->abK,zero_add->aby,add_mul->abG,le_refl->aaX,le_trans->abi,min_eq_left->ab5,mul_le_mul_right->abf,lt_of_lt_of_le->abt
open _root_.Option.some renaming inj->aaT,injEq->aa1
open _root_.Prod.mk renaming inj->acq,injEq->abU
open _root_.Array renaming toArray_toList->abE,getElem?_eq_some_iff->abx
open _root_.Go.Instr renaming fill->acC,findNow->abV,lookup->acJ,mapUpdate->acd
open _root_.Int renaming eq_ofNat_of_zero_le->aa8,toNat_natCast->aa3,tdiv->ab7,tmod->acu
open _root_.Go.Result renaming andThen_ok->abC,andThen->abc
open _root_.Go.Sem renaming run_bind->abp
open _root_.Go.Value renaming ownBlock->abu,int->abQ
open _root_.List.cons renaming injEq->ab9
open _root_.Go.Value.slice renaming injEq->aci
open _root_.Go.MapKept renaming run_checkKey->ace,run_findKey->acm,run_getObj_map->abL,run_setObj_map->acj
namespace Go.Proofs.YtbladfbbhijpmaaGreat
open Go Go.RowKit
set_option maxRecDepth 100000
set_option linter.unusedSimpArgs false
set_option linter.unusedVariables false
set_option linter.defProp false
section
def Tree.split:Tree->Option (Tree×Tree)
 | .leaf (.pair a b) x=>some (.leaf a x.1, .leaf b x.2)
 | .pair a b=>some (a,b)
 |_=>acP
def Tree.get:Tree->List Bool->Option (Tree×Nat)
 |t,[]=>some (t,0)
 |t,d::p=>match t.split with
  |none=>acP
  |some (a,b)=>match d with
   |false=>Tree.get a p
   |true=>match Tree.get b p with
    |none=>acP
    |some (s,off)=>some (s,a.size+off)
def Tree.put:Tree->List Bool->Tree->Option Tree
 |_,[],u=>some u
 |t,d::p,u=>match t.split with
  |none=>acP
  |some (a,b)=>match d with
   |false=>match Tree.put a p u with
    |none=>acP
    |some a'=>some (.pair a' b)
   |true=>match Tree.put b p u with
    |none=>acP
    |some b'=>some (.pair a b')
def pB:Nat->Nat->List Bool
 |0,_=>[]
 |1,_=>[]
 |_+2,0=>[acR]
 |m+2,f+1=>acQ::pB (m+1) f
section
variable {H:an} {F:Nat->Prop} {w:World}
theorem Holds.split{t a b:Tree}{cs:List Value}(hs:t.split=some (a,b))(h:Holds H F w t cs):∃c1 c2,cs=c1++c2/\Holds H F w a c1/\Holds H F w b c2/\t.size=a.size+b.size:=by
 unfold Tree.split at hs
 split at hs<;>cases hs
 .obtain⟨c1,c2,e,h1,h2⟩:=h;exact⟨c1,c2,e,h1,h2,rfl⟩
 .obtain⟨c1,c2,e,h1,h2⟩:=h;exact⟨c1,c2,e,h1,h2,rfl⟩
theorem Holds.get:{p:List Bool}->{t s:Tree}->{off:Nat}->{cs:List Value}->t.get p=some (s,off)->Holds H F w t cs->Holds H F w s ((cs.drop off).take s.size)/\off+s.size<=cs.length
 |[],t,s,off,cs,hg,h=>by
  obtain⟨rfl,rfl⟩:=acq (aaT hg);have hl:=h.length;refine⟨?_,by omega⟩;rw[List.drop_zero,<-hl,abg];exact h
 |d::p,t,s,off,cs,hg,h=>by
  unfold Tree.get at hg
  cases uu:t.split with
  |none=>rw[uu]at hg;cases hg
  |some ab=>
   obtain⟨a,b⟩:=ab;rw[uu]at hg;obtain⟨c1,c2,rfl,h1,h2,_⟩:=h.split uu;have FD:=h1.length
   cases d with
   |false=>
    obtain⟨g1,g2⟩:=Holds.get hg h1;refine⟨?_,by rw[aba];omega⟩;rw[abP (by omega),List.take_append_of_le_length (by rw[List.length_drop];omega)];exact g1
   |true=>
    cases hb:b.get p with
    |none=>simp only[hb]at hg;cases hg
    |some so=>
     obtain⟨s',cV⟩:=so;simp only[hb,aa1,abU]at hg;obtain⟨rfl,rfl⟩:=hg;obtain⟨g1,g2⟩:=Holds.get hb h2;refine⟨?_,by rw[aba];omega⟩;rw[<-FD,List.drop_append,ab2 (by omega),List.nil_append,show c1.length+cV-c1.length=cV from by omega];exact g1
theorem Holds.put{u:Tree}{vs:List Value}(hu:Holds H F w u vs):{p:List Bool}->{t s t':Tree}->{off:Nat}->{cs:List Value}->t.get p=some (s,off)->t.put p u=some t'->s.size=u.size->Holds H F w t cs->
 Holds H F w t' (cs.take off++vs++cs.drop (off+u.size))
 |[],t,s,t',off,cs,hg,hp,hz,h=>by
  obtain⟨rfl,rfl⟩:=acq (aaT hg);obtain rfl:=aaT hp;have hl:=h.length;rw[List.take_zero,List.nil_append,aby,ab2 (by omega),List.append_nil];exact hu
 |d::p,t,s,t',off,cs,hg,hp,hz,h=>by
  unfold Tree.get at hg;unfold Tree.put at hp
  cases uu:t.split with
  |none=>rw[uu]at hg;cases hg
  |some ab=>
   obtain⟨a,b⟩:=ab;rw[uu]at hg hp;obtain⟨c1,c2,rfl,h1,h2,_⟩:=h.split uu;have FD:=h1.length
   cases d with
   |false=>
    cases hq:a.put p u with
    |none=>simp only[hq]at hp;cases hp
    |some a'=>
     simp only[hq,aa1]at hp;subst hp;have h3:=Holds.put hu hg hq hz h1;have g2:=(Holds.get hg h1).2;refine⟨_,c2,?_,h3,h2⟩;rw[List.take_append_of_le_length (by omega),abP (by omega)];simp[abm]
   |true=>
    cases hb:b.get p with
    |none=>simp only[hb]at hg;cases hg
    |some so=>
     obtain⟨s',cV⟩:=so;simp only[hb,aa1,abU]at hg;obtain⟨rfl,rfl⟩:=hg
     cases hq:b.put p u with
     |none=>simp only[hq]at hp;cases hp
     |some b'=>
      simp only[hq,aa1]at hp;subst hp;have h3:=Holds.put hu hb hq hz h2;refine⟨c1,_,?_,h1,h3⟩
      rw[<-FD,List.take_append,List.take_of_length_le (by omega),List.drop_append,ab2 (by omega),show c1.length+cV-c1.length=cV from by omega,
       show c1.length+cV+u.size-c1.length=cV+u.size from by omega]
      simp[abm]
end
def FB.beq:FB->FB->Bool
 | .map, .map=>acQ
 | .ptr, .ptr=>acQ
 | .func, .func=>acQ
 |_,_=>acR
theorem FB.eq_of_beq{a b:FB}(h:a.beq b=acQ):a=b:=by cases a<;>cases b<;>first|rfl|cases h
def Row.beq:Row->Row->Bool
 | .int k, .int k'=>decide (k=k')
 | .bool, .bool=>acQ
 | .str, .str=>acQ
 | .jS, .jS=>acQ
 | .nul a, .nul b=>a.beq b
 | .map a x b, .map c y d=>a.beq c&&(bif x then y else !y)&&b.beq d
 | .slice a, .slice b=>a.beq b
 | .pair a b, .pair c d=>a.beq c&&b.beq d
 |_,_=>acR
theorem Row.eq_of_beq:{r s:Row}->r.beq s=acQ->r=s
 | .int k, .int k',h=>by rw[acV (show decide (k=k')=acQ from h)]
 | .bool, .bool,_=>rfl
 | .str, .str,_=>rfl
 | .jS, .jS,_=>rfl
 | .nul a, .nul b,h=>by rw[FB.eq_of_beq (show a.beq b=acQ from h)]
 | .map a x b, .map c y d,h=>by
   have h':(a.beq c&&(bif x then y else !y)&&b.beq d)=acQ:=h;rw[abR,abR]at h'
   have oP:x=y:=by cases x<;>cases y<;>simp_all
   rw[Row.eq_of_beq h'.1.1,Row.eq_of_beq h'.2,oP]
 | .slice a, .slice b,h=>by rw[Row.eq_of_beq (show a.beq b=acQ from h)]
 | .pair a b, .pair c d,h=>by
   have h':(a.beq c&&b.beq d)=acQ:=h;rw[abR]at h';rw[Row.eq_of_beq h'.1,Row.eq_of_beq h'.2]
def gG{r s:Row}(h:r=s)(x:r.den):s.den:=h▸x
theorem Row.beq_refl:(r:Row)->r.beq r=acQ
 | .int k=>by simp[Row.beq]
 | .bool=>rfl
 | .str=>rfl
 | .jS=>rfl
 | .nul a=>by cases a<;>rfl
 | .map a x b=>by
   show(a.beq a&&(bif x then x else !x)&&b.beq b)=acQ
   rw[Row.beq_refl a,Row.beq_refl b]
   cases x<;>rfl
 | .slice a=>Row.beq_refl a
 | .pair a b=>by
   show(a.beq a&&b.beq b)=acQ
   rw[Row.beq_refl a,Row.beq_refl b];rfl
def DR.beq:DR->DR->Bool
 | .leaf r, .leaf s=>r.beq s
 | .sl T d, .sl T' d'=>aaY T T'&&d.beq d'
 | .pair a b, .pair c d=>a.beq c&&b.beq d
 |_,_=>acR
theorem DR.eq_of_beq:{d e:DR}->d.beq e=acQ->d=e
 | .leaf r, .leaf s,h=>by rw[Row.eq_of_beq (show r.beq s=acQ from h)]
 | .sl T d, .sl T' d',h=>by
   obtain⟨h1,h2⟩:=(abR _ _▸(show(aaY T T'&&d.beq d')=acQ from h):aaY T T'=acQ/\d.beq d'=acQ)
   rw[abK h1,DR.eq_of_beq h2]
 | .pair a b, .pair c d,h=>by
   obtain⟨h1,h2⟩:=(abR _ _▸(show(a.beq c&&b.beq d)=acQ from h):a.beq c=acQ/\b.beq d=acQ)
   rw[DR.eq_of_beq h1,DR.eq_of_beq h2]
 | .leaf _, .sl ..,h=>by cases h
 | .leaf _, .pair ..,h=>by cases h
 | .sl .., .leaf _,h=>by cases h
 | .sl .., .pair ..,h=>by cases h
 | .pair .., .leaf _,h=>by cases h
 | .pair .., .sl ..,h=>by cases h
theorem DR.beq_refl:(d:DR)->d.beq d=acQ
 | .leaf r=>Row.beq_refl r
 | .sl T d=>by show(aaY T T&&d.beq d)=acQ;rw[DR.beq_refl d,Bool.and_true];exact Nat.beq_refl T
 | .pair a b=>by show(a.beq a&&b.beq b)=acQ;rw[DR.beq_refl a,DR.beq_refl b];rfl
def mj:List Bool->List Bool->Bool
 |[],[]=>acQ
 |a::p,b::q=>(bif a then b else !b)&&mj p q
 |_,_=>acR
theorem oS:{p q:List Bool}->mj p q=acQ->p=q
 |[],[],_=>rfl
 |a::p,b::q,h=>by
  have h':((bif a then b else !b)&&mj p q)=acQ:=h;rw[abR]at h';rw[oS h'.2];have:=h'.1
  cases a<;>cases b<;>simp_all
 |[],_::_,h=>by cases h
 |_::_,[],h=>by cases h
def flat(ob:Nat->Option (Nat×Th)):(r:Row)->Tree->Option r.den
 |r, .leaf s x=>if h:s.beq r=acQ then some (gG (Row.eq_of_beq h) x)else acP
 | .slice e, .own o=>match ob o with
   |some (_, .qk _ s l)=>if h:s.beq e=acQ then some (gG (r:= .slice s) (s:= .slice e) (ac0 Row.slice (Row.eq_of_beq h)) l)else acP
   |some (_, .fdeep _ d l)=>if h:d.row.beq e=acQ then some (gG (r:= .slice d.row) (s:= .slice e) (ac0 Row.slice (Row.eq_of_beq h)) l)else acP
   |_=>acP
 | .slice _, .nil=>some []
 | .map K agg V, .own o=>match ob o with
   |some (_, .fmap _ K' dq V' l)=>if h:(Row.map K' dq V').beq (.map K agg V)=acQ then some (gG (Row.eq_of_beq h) l)else acP
   |_=>acP
 | .slice e, .view o s r m=>match ob o with
   |some (s', .qk ..)=>bif aaY s' s then(if h:r.beq e=acQ then some (gG (r:= .slice r) (s:= .slice e) (ac0 Row.slice (Row.eq_of_beq h)) m)else acP)else acP
   |_=>acP
 | .pair a b, .pair t u=>match flat ob a t with
   |none=>acP
   |some x=>match flat ob b u with
    |none=>acP
    |some y=>some (x,y)
 |_,_=>acP
section
variable {U:Nat->Prop} {H:an} {F:Nat->Prop} {w:World} {ob:Nat->Option (Nat×Th)} {n:Nat}
theorem uX(hs:aq U H F w ob n){o s:Nat}{T:TypeId}{r0 r:Row}{l0:List r0.den}{m:List r.den}{v:Value}(ho:ob o=some (s, .qk T r0 l0))(h:jU H o s r m v):bT F w (.slice r) [v] m:=by
 obtain⟨A,cap,T',l,a,b,h1,h2,h3,h4,rfl,rfl⟩:=h;obtain⟨v',da,bP⟩:=hs.obj _ _ _ ho;rw[h1]at da;obtain rfl:=aaT da;have e:=bP.con;rw[h2]at e;simp only[Th.base,aa1,Th.own.injEq]at e;obtain⟨rfl,rfl,e⟩:=e;obtain rfl:=eq_of_heq e;exact bT.cut bP.ok h3 h4
theorem eT(hs:aq U H F w ob n):{r:Row}->{t:Tree}->{x:r.den}->{cs:List Value}->flat ob r t=some x->Holds H F w t cs->bT F w r cs x
 |r, .leaf s x0,x,cs,hf,h=>by
  unfold flat at hf;split at hf
  .rename_i e;obtain rfl:=Row.eq_of_beq e;obtain rfl:=aaT hf;exact h
  .cases hf
 | .slice e, .own o,x,cs,hf,h=>by
   unfold flat at hf;split at hf
   .rename_i s0 T s l rl;split at hf
    .rename_i e;obtain rfl:=Row.eq_of_beq e;obtain rfl:=aaT hf;obtain⟨v,hv,_,rfl⟩:=h;obtain⟨v',da,bP⟩:=hs.obj _ _ _ rl;rw[hv]at da;obtain rfl:=aaT da;exact bP.ok
    .cases hf
   .rename_i s0 T d l rl;split at hf
    .rename_i e;obtain rfl:=Row.eq_of_beq e;obtain rfl:=aaT hf;obtain⟨v,hv,_,rfl⟩:=h;obtain⟨v',da,bP⟩:=hs.obj _ _ _ rl;rw[hv]at da;obtain rfl:=aaT da;exact bP.ok
    .cases hf
   .cases hf
 | .map K agg V, .own o,x,cs,hf,h=>by
   unfold flat at hf;split at hf
   .rename_i s0 T K' dq V' l rl;split at hf
    .rename_i e;cases Row.eq_of_beq e;obtain rfl:=aaT hf;obtain⟨v,hv,_,rfl⟩:=h;obtain⟨v',da,bP⟩:=hs.obj _ _ _ rl;rw[hv]at da;obtain rfl:=aaT da;exact bP.ok
    .cases hf
   .cases hf
 | .slice e, .nil,x,cs,hf,h=>by
   unfold flat at hf;obtain rfl:=aaT hf;rw[show cs=_ from h];exact bT.nil F w e
 | .slice e, .view o s r m,x,cs,hf,h=>by
   unfold flat at hf;split at hf
   .rename_i s' T r' l' rl
    cases hb:aaY s' s with
    |false=>rw[hb]at hf;cases hf
    |true=>
     rw[hb,cond_true]at hf;obtain rfl:=abK hb;split at hf
     .rename_i e;obtain rfl:=Row.eq_of_beq e;obtain rfl:=aaT hf;obtain⟨v,rfl,h⟩:=h;exact uX hs rl h
     .cases hf
   .cases hf
 | .pair a b, .pair t u,x,cs,hf,h=>by
   obtain⟨c1,c2,rfl,h1,h2⟩:=h;unfold flat at hf
   cases ha:flat ob a t with
   |none=>simp only[ha]at hf;cases hf
   |some p=>
    cases hb:flat ob b u with
    |none=>simp only[ha,hb]at hf;cases hf
    |some q=>
     simp only[ha,hb,aa1]at hf;subst hf;exact⟨c1,c2,rfl,eT hs ha h1,eT hs hb h2⟩
 | .int _, .own _,_,_,hf,_=>by unfold flat at hf;cases hf
 | .bool, .own _,_,_,hf,_=>by unfold flat at hf;cases hf
 | .str, .own _,_,_,hf,_=>by unfold flat at hf;cases hf
 | .jS, .own _,_,_,hf,_=>by unfold flat at hf;cases hf
 | .nul _, .own _,_,_,hf,_=>by unfold flat at hf;cases hf
 | .pair _ _, .own _,_,_,hf,_=>by unfold flat at hf;cases hf
 | .int _, .nil,_,_,hf,_=>by unfold flat at hf;cases hf
 | .bool, .nil,_,_,hf,_=>by unfold flat at hf;cases hf
 | .str, .nil,_,_,hf,_=>by unfold flat at hf;cases hf
 | .jS, .nil,_,_,hf,_=>by unfold flat at hf;cases hf
 | .nul _, .nil,_,_,hf,_=>by unfold flat at hf;cases hf
 | .map .., .nil,_,_,hf,_=>by unfold flat at hf;cases hf
 | .pair _ _, .nil,_,_,hf,_=>by unfold flat at hf;cases hf
 | .int _, .view ..,_,_,hf,_=>by unfold flat at hf;cases hf
 | .bool, .view ..,_,_,hf,_=>by unfold flat at hf;cases hf
 | .str, .view ..,_,_,hf,_=>by unfold flat at hf;cases hf
 | .jS, .view ..,_,_,hf,_=>by unfold flat at hf;cases hf
 | .nul _, .view ..,_,_,hf,_=>by unfold flat at hf;cases hf
 | .map .., .view ..,_,_,hf,_=>by unfold flat at hf;cases hf
 | .pair _ _, .view ..,_,_,hf,_=>by unfold flat at hf;cases hf
 | .int _, .junk _,_,_,hf,_=>by unfold flat at hf;cases hf
 | .bool, .junk _,_,_,hf,_=>by unfold flat at hf;cases hf
 | .str, .junk _,_,_,hf,_=>by unfold flat at hf;cases hf
 | .slice _, .junk _,_,_,hf,_=>by unfold flat at hf;cases hf
 | .jS, .junk _,_,_,hf,_=>by unfold flat at hf;cases hf
 | .nul _, .junk _,_,_,hf,_=>by unfold flat at hf;cases hf
 | .map .., .junk _,_,_,hf,_=>by unfold flat at hf;cases hf
 | .pair _ _, .junk _,_,_,hf,_=>by unfold flat at hf;cases hf
 | .int _, .pair _ _,_,_,hf,_=>by unfold flat at hf;cases hf
 | .bool, .pair _ _,_,_,hf,_=>by unfold flat at hf;cases hf
 | .str, .pair _ _,_,_,hf,_=>by unfold flat at hf;cases hf
 | .jS, .pair _ _,_,_,hf,_=>by unfold flat at hf;cases hf
 | .nul _, .pair _ _,_,_,hf,_=>by unfold flat at hf;cases hf
 | .map .., .pair _ _,_,_,hf,_=>by unfold flat at hf;cases hf
 | .slice _, .pair _ _,_,_,hf,_=>by unfold flat at hf;cases hf
end
def Row.xV:Row->Tree
 | .slice _=> .nil
 | .pair a b=> .pair a.xV b.xV
 |r=> .leaf r r.zero
theorem Row.kZ(H:an)(F:Nat->Prop)(w:World):(r:Row)->Holds H F w r.xV r.dB
 | .int _=>rfl
 | .bool=>rfl
 | .str=>rfl
 | .slice _=>rfl
 | .jS=>⟨rfl,acP,0,0,rfl⟩
 | .nul _=>rfl
 | .map .. =>⟨_,rfl, .inl ⟨rfl,rfl⟩⟩
 | .pair a b=>⟨_,_,rfl,Row.kZ H F w a,Row.kZ H F w b⟩
end
end Go.Proofs.YtbladfbbhijpmaaGreat
section
open _root_.Bool renaming false->acR,true->acQ
open _root_.Option renaming none->acP,isSome_iff_exists->abB
open _root_.Go.Addr.mk renaming injEq->acp
open _root_.Array renaming toArray_toList->abE
open _root_.Int renaming toNat_natCast->aa3
open _root_.List renaming getElem?_drop->abe,getElem?_take->abl
open _root_.Nat renaming add_mul->abG,add_zero->ab3,beq->aaY,blt->abI,eq_of_beq_eq_true->abK,le_refl->aaX,lt_of_lt_of_le->abt
open _root_.Option.some renaming inj->aaT,injEq->aa1
open _root_.Prod.mk renaming inj->acq,injEq->abU
open _root_.Go.Value renaming oneCell'->ach
open _root_.Go.Value.pointer renaming injEq->acL
namespace Go.Proofs.YtbladfbbhijpmaaGreat
open Go Go.RowKit
section
variable {P:Program} {ρ:Nat->Value} {w w':World} {H H':an} {F F':Nat->Prop} {U:Nat->Prop} {ob:Nat->Option (Nat×Th)} {n:Nat} {R:Type}
variable {op:Op} {ty:TypeId} {pos:String} {aft:Array Edge} {d:Nat}
theorem aq.box(hs:aq U H F w ob n){o s:Nat}{T:TypeId}{t:Tree}(ho:ob o=some (s, .box T t)){b:Nat}(hb:H.val o=some (.pointer (some ⟨b,0,acP⟩))):
 ∃es,w.heap[b]? =some (.cells es.toArray T (0,0))/\Holds H F w t es:=by
 obtain⟨v,hv,hi⟩:=hs.obj _ _ _ ho;rw[hb]at hv;obtain rfl:=aaT hv;obtain⟨b',es,e,h1,h2⟩:=hi.ok;simp only[acL,aa1,acp,and_true]at e;subst e;exact⟨es,h1,h2⟩
theorem aq.own(hs:aq U H F w ob n){o s:Nat}{T:TypeId}{r:Row}{l:List r.den}(ho:ob o=some (s, .own T r l)){v:Value}(hv:H.val o=some v):gv 0 F w T r v l:=by
 obtain⟨v',da,hi⟩:=hs.obj _ _ _ ho;rw[hv]at da;obtain rfl:=aaT da;exact⟨hi.no,hi.ok⟩
theorem xW{fs:List (TypeId×Nat)}{arr:Array Field}(ha:arr.toList.map (λf=>(f.type,f.offset))=fs){f:Nat}{ft:TypeId}{off:Nat}(hf:fs[f]? =some (ft,off)):∃fd,arr[f]? =some fd/\fd.type=ft/\fd.offset=off:=by
 subst ha;rw[List.getElem?_map]at hf
 cases hq:arr.toList[f]? with
 |none=>rw[hq]at hf;cases hf
 |some fd=>
  rw[hq]at hf;simp only[Option.map_some,aa1,abU]at hf;exact⟨fd,by rw[<-Array.getElem?_toList];exact hq,hf.1,hf.2⟩
def sub(r:Row)(x:r.den)(p:List Bool):Option ((s:Row)×s.den×Nat):=
 match Tree.get (.leaf r x) p with
 |some (.leaf s y,off)=>some ⟨s,y,off⟩
 |_=>acP
theorem Az{r s:Row}{x:r.den}{y:s.den}{p:List Bool}{off b k:Nat}(h:sub r x p=some ⟨s,y,off⟩)(ha:At F w r b k x):At F w s b (k+off) y:=by
 unfold sub at h;split at h
 .rename_i s' y' cV hg;simp only[aa1,Sigma.mk.injEq]at h;obtain⟨rfl,h⟩:=h;obtain⟨rfl,rfl⟩:=acq (eq_of_heq h);obtain⟨es,hl,hc,hr⟩:=ha;obtain⟨g1,g2⟩:=Holds.get (H:=⟨λ_=>acP,λ_=>acP,λ_ _=>False⟩) (F:=F) (w:=w) (cs:=es) hg hr;have NQ:bT F w s' ((es.drop cV).take s'.size) y':=g1;refine⟨_,NQ.length,λj u hu=>?_,NQ⟩;rw[abl]at hu;split at hu
  .rw[abe]at hu;rw[Nat.add_assoc];exact hc _ u hu
  .cases hu
 .cases h
def AA(T:aM P)(t:TypeId)(f:Nat)(D:aj):Option aj:=
 match find T.und t with
 |some (.struct fs)=>match fs[f]? with
  |some (ft,off)=>match find T.row ft with
   |some _=>match D with
    | .ptr o p k=>some (.ptr o (p++pB fs.length f) (k+off))
    | .at r x=>match sub r x (pB fs.length f)with
      |some ⟨s,y,cV⟩=>bif aaY cV off then some (.at s y)else acP
      |none=>acP
    | .elem o s r i x p k=>some (.elem o s r i x (p++pB fs.length f) (k+off))
    | .dlm o d i p k=>some (.dlm o d i (p++pB fs.length f) (k+off))
    |_=>acP
   |none=>acP
  |none=>acP
 |_=>acP
theorem beq_true{m k:Nat}(h:aaY m k=acQ):m=k:=abK h
theorem pC{α:Type}{b:Bool}{x:α}{y:α}(h:(bif b then some x else acP)=some y):b=acQ/\x=y:=by
 cases b with
 |true=>exact⟨rfl,aaT h⟩
 |false=>cases h
theorem DS(T:aM P){t:TypeId}{f:Nat}{D D':aj}{x:Operand}(h:AA T t f D=some D')(hs:aq U H F w ob n)(hx:ah H F w D (ev ρ x)):
 bO P U H F w ρ ob n ⟨some d, .fieldAddr t x f,ty,pos,aft,acP⟩ {dst:=D'}:=by
 unfold AA at h;split at h
 case h_2=>cases h
 rename_i fs hu;obtain⟨arr,FE,Jo⟩:=T.und_ok _ _ hu;split at h
 case h_2=>cases h
 rename_i ft off hf;obtain⟨fd,Nf,rfl,rfl⟩:=xW Jo hf;split at h
 case h_2=>cases h
 rename_i r' Cf;have uY:=T.row_ok _ _ Cf;split at h
 .obtain rfl:=aaT h;obtain⟨b,h1,h2⟩:=hx;exact aF hs (kX (r:=r') fd.offset FE Nf uY rfl h2) ⟨b,h1,rfl⟩
 .split at h
  .rename_i s y cV eL;obtain⟨h1,rfl⟩:=pC h;obtain rfl:=beq_true h1;obtain⟨b,k,h2,h3,h4⟩:=hx;exact aF hs (kX (r:=r') fd.offset FE Nf uY rfl h2) ⟨b,_,rfl,h3,Az eL h4⟩
  .cases h
 .obtain rfl:=aaT h;obtain⟨g,o0,q,T',m,cap,l,h1,h2,h3,h4,h5⟩:=hx;exact aF hs (kX (r:=r') fd.offset FE Nf uY rfl h5) ⟨g,o0,q,T',m,cap,l,h1,h2,h3,h4,by rw[Nat.add_assoc]⟩
 .obtain rfl:=aaT h;obtain⟨g,o0,q,m,cap,h1,h2,h5⟩:=hx;exact aF hs (kX (r:=r') fd.offset FE Nf uY rfl h5) ⟨g,o0,q,m,cap,h1,h2,by rw[Nat.add_assoc]⟩
 .cases h
theorem bT.elemAt{r:Row}{v:Value}{l:List r.den}(h:bT F w (.slice r) [v] l){i:Int}{y:r.den}(hi:idx l i=some y):
 ∃b off cap k,v= .slice (some ⟨b,off,acP⟩) l.length cap/\i=(k:Nat)/\k<l.length/\F b/\At F w r b (off+k*r.size) y:=by
 obtain⟨A,cap,hv,_,_,h4⟩:=h;obtain⟨k,hk,ag,rfl⟩:=ei hi;obtain⟨b,off,es,rfl,hF,rK,hc,hr⟩:=h4 k ag;exact⟨b,off,cap,k,by simpa using hv,hk,ag,hF,es,rK,hc,hr⟩
inductive Gw where
 |read (r:Row) (l:List r.den)
 |own (o s:Nat) (T:TypeId) (r:Row) (l:List r.den)
 |nil
 |view (o s:Nat) (r:Row) (l:List r.den)
 |deep (o s:Nat) (T:TypeId) (d:DR) (l:List d.row.den) (h:Option sF)
def rQ(ob:Nat->Option (Nat×Th)):aj->Option Gw
 | .val acR (.leaf (.slice r) l)=>some (.read r l)
 | .val acR .nil=>some .nil
 | .val acR (.own o)=>match ob o with
   |some (s, .own T r l)=>some (.own o s T r l)
   |some (_, .qk _ r l)=>some (.read r l)
   |some (_, .fdeep _ d l)=>some (.read d.row l)
   |some (s, .deep T d l h)=>some (.deep o s T d l h)
   |_=>acP
 | .val acR (.view o s r m)=>match ob o with
   |some (s', .qk ..)=>bif aaY s' s then some (.read r m)else some (.view o s r m)
   |_=>some (.view o s r m)
 |_=>acP
def Jp(U:Nat->Prop)(H:an)(F:Nat->Prop)(w:World)(ob:Nat->Option (Nat×Th))(v:Value):Gw->Prop
 | .read r l=>bT F w (.slice r) [v] l
 | .own o s T r l=>H.val o=some v/\ob o=some (s, .own T r l)/\gv 0 F w T r v l
 | .nil=>v= .slice acP 0 0
 | .view o s r m=>jU H o s r m v
 | .deep o s T d l h=>H.val o=some v/\ob o=some (s, .deep T d l h)/\DM U H F w v s (.deep T d l h)
theorem fU(hs:aq U H F w ob n){D:aj}{k:Gw}{v:Value}(h:rQ ob D=some k)(hd:ah H F w D v):Jp U H F w ob v k:=by
 unfold rQ at h;split at h
 .cases h;exact az.inv hd
 .cases h;obtain⟨cs,h1,_,h3⟩:=hd;have sI:cs=_:=h1;rw[h3 rfl]at sI;simpa[Jp]using sI
 .rename_i o;obtain⟨cs,⟨u,hu,FE,e⟩,_,h3⟩:=hd;rw[h3 rfl]at e
  obtain rfl:v=u:=by simpa using e
  split at h
  .rename_i s T r l rl;cases h;exact⟨hu,rl,hs.own rl hu⟩
  .rename_i s T r l rl;cases h;obtain⟨v',da,hi⟩:=hs.obj _ _ _ rl;rw[hu]at da;obtain rfl:=aaT da;exact hi.ok
  .rename_i s T d l rl;cases h;obtain⟨v',da,hi⟩:=hs.obj _ _ _ rl;rw[hu]at da;obtain rfl:=aaT da;exact hi.ok
  .rename_i s T d l h' rl;cases h;obtain⟨v',da,hi⟩:=hs.obj _ _ _ rl;rw[hu]at da;obtain rfl:=aaT da;exact⟨hu,rl,hi⟩
  .cases h
 .rename_i o s r m;obtain⟨cs,⟨u,e,hu⟩,_,h3⟩:=hd;rw[h3 rfl]at e
  obtain rfl:v=u:=by simpa using e
  split at h
  .rename_i s' T r' l' rl
   cases hb:aaY s' s with
   |false=>rw[hb]at h;cases h;exact hu
   |true=>
    rw[hb]at h;obtain rfl:=abK hb;cases h;exact uX hs rl hu
  .cases h;exact hu
 .cases h
def jW:Nat->(r:Row)->r.den->(e:Row)->Option (List e.den)
 |1,r,x,e=>if h:r.beq e=acQ then some [gG (Row.eq_of_beq h) x]else acP
 |m+2, .pair a b,x,e=>if h:a.beq e=acQ then(match jW (m+1) b x.2 e with
  |some l=>some (gG (Row.eq_of_beq h) x.1::l)
  |none=>acP)else acP
 |_,_,_,_=>acP
theorem Cg{e:Row}{b:Nat}:{m:Nat}->{r:Row}->{x:r.den}->{l:List e.den}->{off:Nat}->jW m r x e=some l->At F w r b off x->l.length=m/\∀i(h:i<l.length),At F w e b (off+i*e.size) l[i]
 |0,r,x,l,off,h,_=>by unfold jW at h;cases h
 |1,r,x,l,off,h,ha=>by
  unfold jW at h;split at h
  case isFalse=>cases h
  rename_i hb;obtain rfl:=Row.eq_of_beq hb;obtain rfl:=aaT h;refine⟨rfl,λi hi=>?_⟩
  obtain rfl:i=0:=by simp at hi;omega
  rw[Nat.zero_mul,ab3];exact ha
 |m+2, .pair a b',x,l,off,h,ha=>by
  unfold jW at h;split at h
  case isFalse=>cases h
  rename_i hb;obtain rfl:=Row.eq_of_beq hb;split at h
  case h_2=>cases h
  rename_i l' hl;obtain rfl:=aaT h;obtain⟨g1,g2⟩:=Cg hl (ha.snd _ rfl);refine⟨by simp[g1],λi hi=>?_⟩
  cases i with
  |zero=>
   rw[Nat.zero_mul,ab3];exact ha.fst
  |succ i=>
   have:=g2 i (by simpa using hi);rw[show off+(i+1)*a.size=off+a.size+i*a.size from by rw[abG];omega];exact this
 |m+2, .int _,_,_,_,h,_=>by unfold jW at h;cases h
 |m+2, .bool,_,_,_,h,_=>by unfold jW at h;cases h
 |m+2, .str,_,_,_,h,_=>by unfold jW at h;cases h
 |m+2, .slice _,_,_,_,h,_=>by unfold jW at h;cases h
 |m+2, .jS,_,_,_,h,_=>by unfold jW at h;cases h
 |m+2, .nul _,_,_,_,h,_=>by unfold jW at h;cases h
 |m+2, .map ..,_,_,_,h,_=>by unfold jW at h;cases h
theorem oB{t e:TypeId}{x y:Operand}{kd:IntKind}{a:Int}{ti:TypeInfo}{m lA off i:Nat}(size:Nat)(ht:P.underlying t=some (.array m e))(hi:P.info? e=some ti)(jc:ti.size=size)
 (hx:ev ρ x= .pointer (some ⟨lA,off,acP⟩))(hy:ev ρ y= .int kd a)(ha:a=(i:Int))(ag:i<m):
 Pure P ρ ⟨some d, .indexAddr t x y,ty,pos,aft,acP⟩ (.pointer (some ⟨lA,off+i*size,acP⟩)):=λw=>by
 subst jc;subst ha;simp[execOp,Instr.indexAt,Instr.sureAddr,asIntOf,run_underlying ht,sizeOf,typeInfo,hi,hx,hy,ag,bZ]
theorem Ch{α:Type}{b:Bool}{x:Option α}{y:α}(h:(bif b then x else acP)=some y):b=acQ/\x=some y:=by
 cases b with
 |true=>exact⟨rfl,h⟩
 |false=>cases h
def nP(T:aM P)(m:Nat)(e:TypeId)(D:aj)(i:Int)(k:c9->Option R):Option R:=
 match find T.row e with
 |some re=>match D with
  | .at r x=>match jW m r x re with
    |some l=>(idx l i).bind λy=>k {dst:= .at re y}
    |none=>acP
  | .ptr o p off=>match i with
    | .ofNat j=>bif abI j m then k {dst:= .ptr o (p++pB m j) (off+j*re.size)}else acP
    | .negSucc _=>acP
  |_=>acP
 |none=>acP
theorem AB(T:aM P){t:TypeId}{m:Nat}{e:TypeId}(hu:P.underlying t=some (.array m e)){D:aj}{x y:Operand}{kd:IntKind}{i:Int}{k:c9->Option R}{q:R}(h:nP T m e D i k=some q)(hs:aq U H F w ob n)(hx:ah H F w D (ev ρ x))(hy:ev ρ y= .int kd i):
 ∃e,k e=some q/\bO P U H F w ρ ob n ⟨some d, .indexAddr t x y,ty,pos,aft,acP⟩ e:=by
 unfold nP at h;split at h
 case h_2=>cases h
 rename_i re hr;obtain⟨ti,z,h1,_,_,h4,_⟩:=T.row_ok _ _ hr;split at h
 case h_3=>cases h
 case h_2=>
  split at h
  case h_2=>cases h
  rename_i o p off _ j;obtain⟨ag,hk⟩:=Ch h
  have ag:j<m:=by simpa using ag
  obtain⟨b,hb,hv⟩:=hx;exact⟨_,hk,aF hs (oB re.size hu h1 h4 hv hy rfl ag) ⟨b,hb,rfl⟩⟩
 rename_i r v;split at h
 case h_2=>cases h
 rename_i l hl;obtain⟨a,ha,hk⟩:=bind_some h;obtain⟨b,off,hv,hF,qg⟩:=hx;obtain⟨g1,g2⟩:=Cg hl qg;obtain⟨j,hj,ag,rfl⟩:=ei ha;exact⟨_,hk,aF hs (oB re.size hu h1 h4 hv hy hj (by omega)) ⟨b,_,rfl,hF,g2 j ag⟩⟩
def qm(T:aM P)(ob:Nat->Option (Nat×Th))(t:TypeId)(D:aj)(i:Int)(k:c9->Option R):Option R:=
 match find T.und t with
 |some (.slice e)=>match find T.row e with
  |some re=>match rQ ob D with
   |some (.read r l)=>bif aaY r.size re.size then(idx l i).bind λx=>k {dst:= .at r x}else acP
   |some (.own o s _ r l)=>bif aaY r.size re.size then(idx l i).bind λx=>k {dst:= .elem o s r i x [] 0}else acP
   |some (.deep o _ _ d l _)=>bif aaY d.low.size re.size then(idx l i).bind λ_=>k {dst:= .dlm o d i [] 0}else acP
   |_=>acP
  |none=>acP
 |some (.array m e)=>nP T m e D i k
 |_=>acP
theorem DT(T:aM P){t:TypeId}{D:aj}{x y:Operand}{kd:IntKind}{i:Int}{k:c9->Option R}{q:R}(h:qm T ob t D i k=some q)(hs:aq U H F w ob n)(hx:ah H F w D (ev ρ x))(hy:ev ρ y= .int kd i):
 ∃e,k e=some q/\bO P U H F w ρ ob n ⟨some d, .indexAddr t x y,ty,pos,aft,acP⟩ e:=by
 unfold qm at h;split at h
 case h_3=>cases h
 case h_2=>rename_i m e hu;exact AB T (T.und_ok _ _ hu) h hs hx hy
 rename_i e hu;have hu:=T.und_ok _ _ hu;split at h
 case h_2=>cases h
 rename_i re hr;obtain⟨ti,z,h1,_,_,h4,_⟩:=T.row_ok _ _ hr;split at h
 .rename_i r l fq
  cases hz:aaY r.size re.size with
  |false=>rw[hz]at h;cases h
  |true=>
   rw[hz,cond_true]at h;have hz:=beq_true hz;obtain⟨a,ha,hk⟩:=bind_some h;have fq:=fU hs fq hx;obtain⟨b,off,cap,j,hv,hj,ag,hF,qg⟩:=bT.elemAt fq ha;refine⟨_,hk,aF hs (kD r.size hu h1 (h4.trans hz.symm) hv hy hj ag) ⟨b,_,rfl,hF,qg⟩⟩
 .rename_i o s T' r l fq
  cases hz:aaY r.size re.size with
  |false=>rw[hz]at h;cases h
  |true=>
   rw[hz,cond_true]at h;have hz:=beq_true hz;obtain⟨a,ha,hk⟩:=bind_some h;obtain⟨hv,bW,dm⟩:=fU hs fq hx;obtain⟨v',da,bP⟩:=hs.obj _ _ _ bW;obtain⟨j,hj,ag,Wt⟩:=ei ha;obtain⟨_,xs,Af,_⟩:=dm
   rcases Af.2 with⟨DU,h0⟩|⟨g,o0,cap,cur,wm,_,_,_⟩
   .omega
   .have hp:=kD (P:=P) (d:=some d) (ty:=ty) (pos:=pos) (aft:=aft) r.size hu h1 (h4.trans hz.symm) wm hy hj ag;refine⟨_,hk,aF hs hp ⟨g,o0,j,T',l.length,cap,l,?_,hj,bP.con,ha,rfl⟩⟩;rw[<-wm];exact hv
 .rename_i o s T' d' l hh fq;obtain⟨hz,h⟩:=Ch h;have hz:=beq_true hz;obtain⟨a,ha,hk⟩:=bind_some h;obtain⟨hv,bW,bP⟩:=fU hs fq hx;obtain⟨j,hj,ag,Wt⟩:=ei ha;obtain⟨lh,_,⟨xs,Af,_⟩,Nd,_⟩:=bP.ok
  rcases Af.2 with⟨DU,h0⟩|⟨g,o0,cap,cur,wm,_,_,_⟩
  .omega
  .have hp:=kD (P:=P) (d:=some d) (ty:=ty) (pos:=pos) (aft:=aft) d'.low.size hu h1 (h4.trans hz.symm) wm hy hj (by omega);refine⟨_,hk,aF hs hp ⟨g,o0,j,lh.length,cap,?_,hj,rfl⟩⟩;rw[<-wm];exact hv
 .cases h
theorem sL{b:Nat}{T:TypeId}{es:List Value}(hh:w.heap[b]? =some (.cells es.toArray T (0,0)))(j:Nat):w.cell? ⟨b,j,acP⟩=es[j]? :=by
 rw[cell_of_row w b j _ T (0,0) hh];simp
theorem lE(T:aM P){t:TypeId}{kk:FC}(hu:find T.und t=some kk){x:Operand}{b off:Nat}{s:Tree}{cs:List Value}(hx:ev ρ x= .pointer (some ⟨b,off,acP⟩))(hs:aq U H F w ob n)
 (hh:Holds H F w s cs)(hc:∀j u,cs[j]? =some u->w.cell? ⟨b,off+j,acP⟩=some u)
 (hz:if ir kk=acQ then∃r,find T.row t=some r/\r.size=s.size else s.size=1):
 bO P U H F w ρ ob n ⟨some d, .load t x,ty,pos,aft,acP⟩ {dst:= .val (ir kk) s}:=by
 obtain⟨dd,ur,ul⟩:=(T.und_ok _ _ hu).agg;have hl:=hh.length
 cases ha:ir kk with
 |true=>
  rw[acU ha]at hz;obtain⟨r,hr,I3⟩:=hz;obtain⟨ti,z,h1,_,_,h4,_⟩:=T.row_ok _ _ hr;exact bm hs (Dz ur (ul.trans ha) h1 (by omega) hx hc) ⟨cs,hh,rfl,by simp⟩
 |false=>
  rw[acT (by simp[ha])]at hz
  obtain⟨v,rfl⟩:∃v,cs=[v]:=by
   match cs,hl.trans hz with
   |[v],_=>exact⟨v,rfl⟩
  exact bm hs (uS ur (ul.trans ha) hx (hc 0 v rfl)) ⟨[v],hh,rfl,λ_=>rfl⟩
def kH(T:aM P)(t:TypeId)(kk:FC)(m:Nat):Bool:=
 bif ir kk then(match find T.row t with|some r=>aaY r.size m|none=>acR)else aaY m 1
theorem hZ(T:aM P){t:TypeId}{kk:FC}{m:Nat}(h:kH T t kk m=acQ):if ir kk=acQ then∃r,find T.row t=some r/\r.size=m else m=1:=by
 unfold kH at h
 cases ha:ir kk with
 |true=>
  rw[ha,cond_true]at h;rw[acU rfl];split at h
  .rename_i r hr;exact⟨r,hr,beq_true h⟩
  .cases h
 |false=>
  rw[ha,cond_false]at h;rw[acT (by simp)];exact beq_true h
def uZ(T:aM P)(ob:Nat->Option (Nat×Th))(t:TypeId)(D:aj)(k:c9->Option R):Option R:=
 match find T.und t with
 |none=>acP
 |some kk=>match D with
  | .at r x=>bif kH T t kk r.size then k {dst:= .val (ir kk) (.leaf r x)}else acP
  | .ptr o p off=>match ob o with
    |some (_, .box _ tr)=>match tr.get p with
     |some (s,cV)=>bif aaY cV off&&kH T t kk s.size then k {dst:= .val (ir kk) s}else acP
     |none=>acP
    |_=>acP
  | .elem o s r i x p off=>match ob o with
    |some (s', .own _ r' l)=>bif aaY s' s then
      (match sub r x p with
      |some ⟨q,y,cV⟩=>bif aaY cV off&&kH T t kk q.size then k {dst:= .val (ir kk) (.leaf q y)}else acP
      |none=>acP)
     else(idx l i).bind λx'=>match sub r' x' p with
      |some ⟨q,y,cV⟩=>bif aaY cV off&&kH T t kk q.size&&aaY r'.size r.size then k {dst:= .val (ir kk) (.leaf q y)}else acP
      |none=>acP
    |_=>acP
  |_=>acP
theorem aB{α:Type}{b:Bool}{x:Option α}{y:α}(h:(bif b then x else acP)=some y):b=acQ/\x=some y:=by
 cases b with
 |true=>exact⟨rfl,h⟩
 |false=>cases h
theorem bU{a b:Bool}(h:(a&&b)=acQ):a=acQ/\b=acQ:=by simpa using h
theorem Ci(hs:aq U H F w ob n){o s':Nat}{T':TypeId}{r':Row}{i:Int}{x':r'.den}{l:List r'.den}{g o0 q m cap:Nat}(bW:ob o=some (s', .own T' r' l))(hv:H.val o=some (.slice (some ⟨g,o0,acP⟩) m cap))(hq:i=(q:Nat))(hi:idx l i=some x'):
 At F w r' g (o0+q*r'.size) x':=(hs.own bW hv).at rfl hq hi
theorem Gx(T:aM P){t:TypeId}{D:aj}{x:Operand}{k:c9->Option R}{q:R}(h:uZ T ob t D k=some q)(hs:aq U H F w ob n)(hx:ah H F w D (ev ρ x)):
 ∃e,k e=some q/\bO P U H F w ρ ob n ⟨some d, .load t x,ty,pos,aft,acP⟩ e:=by
 unfold uZ at h;split at h
 .cases h
 rename_i kk hu;split at h
 .rename_i r y;obtain⟨h1,h2⟩:=aB h;obtain⟨b,off,e,hF,es,hl,hc,hr⟩:=hx;exact⟨_,h2,lE T hu e hs (s:= .leaf r y) hr hc (hZ T h1)⟩
 .rename_i o p off;split at h
  .rename_i Wu T0 tr bW;split at h
   .rename_i s cV hg;obtain⟨h1,h2⟩:=aB h;obtain⟨h1,h3⟩:=bU h1;obtain rfl:=beq_true h1;obtain⟨b,hb,e⟩:=hx;obtain⟨es,hh,KX⟩:=hs.box bW hb;obtain⟨g1,g2⟩:=KX.get hg;refine⟨_,h2,lE T hu e hs g1 (λj u hj=>?_) (hZ T h3)⟩;rw[sL hh];rw[abl]at hj;split at hj
    .rwa [abe]at hj
    .cases hj
   .cases h
  .cases h
 .rename_i o s r i y p off;split at h
  .rename_i s' T0 r' l bW;obtain⟨g,o0,qq,T',m,cap,l0,e1,e2,e3,e4,e5⟩:=hx
   cases qn:aaY s' s with
   |true=>
    rw[qn,cond_true]at h;obtain rfl:=beq_true qn;obtain⟨v,hv,bP⟩:=hs.obj _ _ _ bW;have hc:=bP.con;rw[e3]at hc
    obtain⟨rfl,xP⟩:T'=T0/\(⟨r,l0⟩:(r:Row)×List r.den)=⟨r',l⟩:=by
     have:=aaT hc;simp only[Th.base,Th.own.injEq]at this;obtain⟨a,b,c⟩:=this;subst b;exact⟨a,by rw[eq_of_heq c]⟩
    cases xP;split at h
    .rename_i q' y' cV eL;obtain⟨h1,h2⟩:=aB h;obtain⟨h1,h3⟩:=bU h1;obtain rfl:=beq_true h1;obtain⟨es,hl,Jq,hr⟩:=Az eL (Ci hs bW e1 e2 e4);exact⟨_,h2,lE T hu e5 hs (s:= .leaf q' y') hr Jq (hZ T h3)⟩
    .cases h
   |false=>
    rw[qn,cond_false]at h;obtain⟨x',I2,h⟩:=bind_some h;split at h
    .rename_i q' y' cV eL;obtain⟨h1,h2⟩:=aB h;obtain⟨h1,h4⟩:=bU h1;obtain⟨h1,h3⟩:=bU h1;obtain rfl:=beq_true h1;have h4:=beq_true h4;obtain⟨es,hl,Jq,hr⟩:=Az eL (Ci hs bW e1 e2 I2);rw[h4]at Jq;exact⟨_,h2,lE T hu e5 hs (s:= .leaf q' y') hr Jq (hZ T h3)⟩
    .cases h
  .cases h
 .cases h
end
end Go.Proofs.YtbladfbbhijpmaaGreat
namespace Go.Proofs.YtbladfbbhijpmaaGreat
open Go Go.RowKit
def AD:(r:Row)->List Bool->Option ((s:Row)×Path r s)
 |r,[]=>some ⟨r, .here⟩
 | .pair a b,d::p=>match d with
   |false=>match AD a p with
    |some ⟨s,q⟩=>some ⟨s, .fst q⟩
    |none=>acP
   |true=>match AD b p with
    |some ⟨s,q⟩=>some ⟨s, .snd q⟩
    |none=>acP
 |_,_::_=>acP
section
variable {P:Program} {ρ:Nat->Value} {w w':World} {H H':an} {F F':Nat->Prop} {U:Nat->Prop} {ob:Nat->Option (Nat×Th)} {n:Nat} {R:Type}
variable {op:Op} {ty:TypeId} {pos:String} {aft:Array Edge} {d:Nat}
def an.ba(H:an)(s:Nat)(t:Th):an:=⟨H.val,λm=>if m=s then some t else H.con m,H.sub⟩
def an.bX(H:an)(o:Nat)(v:Value):an:=⟨λm=>if m=o then some v else H.val m,H.con,H.sub⟩
def an.dn(H:an)(s:Nat)(S:Nat->Prop):an:=⟨H.val,H.con,λm=>if m=s then S else H.sub m⟩
theorem an.ew{H:an}{s:Nat}{t:Th}(h:H.con s=acP):H.le (H.ba s t):=⟨λ_ _ h=>h,λm q hq=>by
 by_cases e:m=s
 .subst e;rw[h]at hq;cases hq
 .simp[an.ba,e,hq],λ_ _ _=>rfl⟩
theorem an.DV{H:an}{s:Nat}{S:Nat->Prop}(h:H.con s=acP):H.le (H.dn s S):=⟨λ_ _ h=>h,λ_ _ h=>h,λm t hm=>by
 have:m≠s:=λe=>by rw[e,h]at hm;cases hm
 simp[an.dn,this]⟩
theorem an.nQ{H:an}{s:Nat}{t:Value}(h:H.val s=acP):H.le (H.bX s t):=⟨λm q hq=>by
 by_cases e:m=s
 .subst e;rw[h]at hq;cases hq
 .simp[an.bX,e,hq],λ_ _ h=>h,λ_ _ _=>rfl⟩
theorem bG{α:Type}{o o':Nat}{x y:α}(h:find [(o,x)] o'=some y):o'=o/\y=x:=by
 rw[aA]at h;split at h
 .rename_i e;exact⟨e.symm,(aaT h).symm⟩
 .cases h
theorem jV.r9(hs:aq U H F w ob n){o s:Nat}{t t':Th}{v0:Value}(ho:ob o=some (s,t))(hv:H.val o=some v0)(hb:t'.base=t')(Gy:∀k,fp (H.sub n) v0 t' k->fp (H.sub s) v0 t k){D:aj}{v:Value}
 (bo:Ext (fp (H.sub s) v0 t) w w')(kz:fB (H.ba n t') F w' (H.sub n) v0 t')(hd:ah (H.ba n t') F w' D v):kg H F w ob n {dst:=D,eat:=[o],make:=[(o,(n,t'))]} v w':=by
 obtain⟨v1,sa,bP⟩:=hs.obj _ _ _ ho;rw[hv]at sa;obtain rfl:=aaT sa
 have e7:∀k,fp (H.sub s) v0 t k->bJ H ob [o] k:=λk hk=>⟨o,by simp,s,t,v0,ho,hv,hk⟩
 refine⟨H.ba n t',F,⟨an.ew (hs.fresh n (aaX _) (by omega)).2,⟨bo.os,bo.tape,bo.output,bo.size,λk hk hn=>bo.block k hk λe=>hn (e7 k e)⟩,λ_ h=>h,λ_ h=> .inl h,λb hb=>abt (hs.lt b hb) bo.size⟩,λm hm=>?_,hd,⟨λo' s' q hq=>?_,λo1 o2 s1 s2 q1 q2 u1 u2 cA h1 h2=>?_⟩,λo' h=>?_⟩
 .refine⟨id,λh=>?_⟩;simp[an.ba,show m≠n from by omega,h]
 .obtain⟨rfl,e⟩:=bG hq;obtain⟨rfl,rfl⟩:=acq e;refine⟨v0,hv,bP.one,by simp[an.ba,hb],kz,λk hk=>⟨bP.no k (Gy k hk),abt (bP.lt k (Gy k hk)) bo.size, .inr (e7 k (Gy k hk))⟩⟩
 .exact absurd ((bG h1).1.trans (bG h2).1.symm) cA
 .left
  obtain⟨y,hy⟩:=abB.1 h;rw[(bG hy).1];simp
theorem jV.new(hs:aq U H F w ob n){eat:List Nat}{t:Th}{v0:Value}(hb:t.base=t)(h1:v0.oneCell'=acQ){D:aj}{v:Value}
 (bo:Ext (bJ H ob eat) w w')(kz:fB ((H.ba n t).bX n v0) F w' (H.sub n) v0 t)(Gy:∀k,fp (H.sub n) v0 t k->¬F k/\k<w'.heap.size/\(w.heap.size<=k\/bJ H ob eat k))
 (hd:ah ((H.ba n t).bX n v0) F w' D v):kg H F w ob n {dst:=D,eat:=eat,make:=[(n,(n,t))]} v w':=by
 have hf:=hs.fresh n (aaX _) (by omega);refine⟨(H.ba n t).bX n v0,F,⟨(an.ew hf.2).trans (an.nQ (by simp[an.ba,hf.1])),bo,λ_ h=>h,λ_ h=> .inl h,λb hb=>abt (hs.lt b hb) bo.size⟩,λm hm=>?_,hd,⟨λo' s' q hq=>?_,λo1 o2 s1 s2 q1 q2 u1 u2 cA h1 h2=>?_⟩,λo' h=>?_⟩
 .simp[an.ba,an.bX,show m≠n from by omega]
 .obtain⟨rfl,e⟩:=bG hq;obtain⟨rfl,rfl⟩:=acq e;exact⟨v0,by simp[an.bX],h1,by simp[an.ba,an.bX,hb],kz,Gy⟩
 .exact absurd ((bG h1).1.trans (bG h2).1.symm) cA
 .right
  obtain⟨y,hy⟩:=abB.1 h;rw[(bG hy).1];exact aaX _
def qp(T:aM P)(ob:Nat->Option (Nat×Th))(n:Nat)(t:TypeId)(D V:aj)(k:c9->Option R):Option R:=
 match find T.row t with
 |none=>acP
 |some rt=>match V with
  | .val _ u=>match D with
    | .ptr o p off=>match ob o with
      |some (_, .box T0 tr)=>match tr.get p with
       |some (s,cV)=>bif aaY cV off&&aaY rt.size s.size&&aaY u.size s.size then
         (match tr.put p u with
         |some Qg=>k {dst:= .dead,eat:=[o],make:=[(o,(n, .box T0 Qg))]}
         |none=>acP)else acP
       |none=>acP
      |_=>acP
    | .elem o s r i x p off=>match ob o with
      |some (s', .own T0 r' l)=>match AD r' p with
       |some ⟨q,u0⟩=>bif aaY u0.off off&&aaY rt.size q.size&&aaY r'.size r.size then
         (match flat ob q u with
         |some y=>bif aaY s' s then
           (if h:r.beq r'=acQ then k {dst:= .dead,eat:=[o],make:=[(o,(n, .own T0 r' (bF l i (u0.set (gG (Row.eq_of_beq h) x) y))))]}else acP)
          else(idx l i).bind λx'=>k {dst:= .dead,eat:=[o],make:=[(o,(n, .own T0 r' (bF l i (u0.set x' y))))]}
         |none=>acP)else acP
       |none=>acP
      |_=>acP
    |_=>acP
  |_=>acP
theorem az.cells{agg:Bool}{t:Tree}{v:Value}(h:az H F w agg t v):∃cs,Holds H F w t cs/\v.cells.toList=cs:=by
 obtain⟨cs,h1,h2,h3⟩:=h;refine⟨cs,h1,?_⟩
 cases agg with
 |true=>rw[h2];rfl
 |false=>
  have e:=h3 rfl;have Wv:=h1.gO v (by rw[e];simp);rw[e]
  cases v<;>first|rfl|simp[ach]at Wv
theorem sM(T:aM P){t:TypeId}{rt:Row}(Gz:find T.row t=some rt){x y:Operand}{o s':Nat}{T0:TypeId}{r q:Row}{i:Int}{x':r.den}{z:q.den}{l:List r.den}{p:Path r q}{off g o0 j m cap:Nat}{agg:Bool}{u:Tree}
 (hs:aq U H F w ob n)(bW:ob o=some (s', .own T0 r l))(hv:H.val o=some (.slice (some ⟨g,o0,acP⟩) m cap))(hj:i=(j:Nat))(hi:idx l i=some x')(hx:ev ρ x= .pointer (some ⟨g,o0+j*r.size+off,acP⟩))(GA:p.off=off)(hz:rt.size=q.size)
 (hf:flat ob q u=some z)(hV:az H F w agg u (ev ρ y)):
 bO P U H F w ρ ob n ⟨acP, .store t x y,ty,pos,aft,acP⟩ {dst:= .dead,eat:=[o],make:=[(o,(n, .own T0 r (bF l i (p.set x' z))))]}:=by
 obtain⟨ti,z0,h1,_,_,h4,_⟩:=T.row_ok _ _ Gz;obtain⟨cs,oN,u7⟩:=hV.cells;have hr:=eT hs hf oN;have dm:=hs.own bW hv;obtain⟨k',hk,ag,rfl⟩:=ei hi
 obtain rfl:k'=j:=by omega
 obtain⟨cur,hh,hle,bo,eZ⟩:=dm.put rfl ag hs.lt p hr;subst GA;refine bH.unit (mc h1 (h4.trans (hz.trans hr.length.symm)) hx rfl u7 hr.gO hh hle) ?_;refine jV.r9 (t':= .own T0 r (bF l i (p.set l[k'] z))) (D:= .dead) hs bW hv rfl (λ_ h=>h) bo ?_ trivial;have:fB (H.ba n (.own T0 r (bF l i (p.set l[k'] z)))) F (w.setRow g (cur.toList.take (o0+k'*r.size+p.off)++cs++cur.toList.drop (o0+k'*r.size+p.off+cs.length)).toArray) (H.sub n) (.slice (some ⟨g,o0,acP⟩) m cap) (.own T0 r (l.set k' (p.set l[k'] z))):=eZ.2;unfold bF;rw[hk,aa3];exact this
theorem DW(T:aM P){t:TypeId}{D V:aj}{x y:Operand}{k:c9->Option R}{q:R}(h:qp T ob n t D V k=some q)(hs:aq U H F w ob n)(hx:ah H F w D (ev ρ x))(hy:ah H F w V (ev ρ y)):
 ∃e,k e=some q/\bO P U H F w ρ ob n ⟨acP, .store t x y,ty,pos,aft,acP⟩ e:=by
 unfold qp at h;split at h
 .cases h
 rename_i rt Gz;split at h
 case h_2=>cases h
 rename_i agg u;split at h
 .rename_i o p off;split at h
  case h_2=>cases h
  rename_i s0 T0 tr bW;split at h
  case h_2=>cases h
  rename_i s cV hg;obtain⟨h1,h2⟩:=aB h;obtain⟨h1,Ag⟩:=bU h1;obtain⟨h1,Ah⟩:=bU h1;obtain rfl:=beq_true h1;have Ah:=beq_true Ah;have Ag:=beq_true Ag;split at h2
  case h_2=>cases h2
  rename_i Qg hp;obtain⟨b,hb,e⟩:=hx;obtain⟨es,hh,KX⟩:=hs.box bW hb;obtain⟨cs,oN,u7⟩:=az.cells hy;have hl:=oN.length;have hle:=(KX.get hg).2;have oR:=Holds.put oN hg hp Ag.symm KX;obtain⟨ti,z0,g1,_,_,g4,_⟩:=T.row_ok _ _ Gz;refine⟨_,h2,bH.unit (mc g1 (by omega) e rfl u7 oN.gO hh (by simp;omega)) ?_⟩
  have KY:¬F b:=by
   obtain⟨v1,sa,bP⟩:=hs.obj _ _ _ bW;rw[hb]at sa;obtain rfl:=aaT sa;exact bP.no b rfl
  have bo:Ext (fp (H.sub s0) (.pointer (some ⟨b,0,acP⟩)) (.box T0 tr)) w (w.setRow b (es.toArray.toList.take cV++cs++es.toArray.toList.drop (cV+cs.length)).toArray):=
   ⟨rfl,⟨rfl,aaX _⟩,rfl,by simp,λk _ hk=>setRow_other w b k _ λe=>hk (by simp[fp,e])⟩
  refine jV.r9 (t':= .box T0 Qg) (D:= .dead) hs bW hb rfl (λk hk=>hk) bo ⟨b,_,rfl,setRow_heap w b _ _ T0 (0,0) hh,?_⟩ trivial
  have hk:=oR.keep (H':=H.ba n (.box T0 Qg)) (an.ew (hs.fresh n (aaX _) (by omega)).2) (Step.ext bo hs.lt λk hk=>by
   simp only[fp,acL,aa1,acp,and_true]at hk
   exact hk▸KY)
  rw[<-hl]at hk;simpa using hk
 .rename_i o s r i x0 p off;split at h
  case h_2=>cases h
  rename_i s' T0 r' l bW;split at h
  case h_2=>cases h
  rename_i q' u0 wo;obtain⟨h1,h2⟩:=aB h;obtain⟨h1,Ag⟩:=bU h1;obtain⟨h1,Ah⟩:=bU h1;have h1:=beq_true h1;have Ah:=beq_true Ah;have Ag:=beq_true Ag;split at h2
  case h_2=>cases h2
  rename_i z hf;obtain⟨g,o0,qq,T',m,cap,l0,e1,e2,e3,e4,e5⟩:=hx;rw[<-Ag]at e5
  cases qn:aaY s' s with
  |true=>
   rw[qn,cond_true]at h2;obtain rfl:=beq_true qn;split at h2
   case isFalse=>cases h2
   rename_i xX;obtain⟨v,hv,bP⟩:=hs.obj _ _ _ bW;have hc:=bP.con;rw[e3]at hc
   obtain⟨rfl,xP⟩:T'=T0/\(⟨r,l0⟩:(r:Row)×List r.den)=⟨r',l⟩:=by
    have:=aaT hc;simp only[Th.base,Th.own.injEq]at this;obtain⟨a,b,c⟩:=this;subst b;exact⟨a,by rw[eq_of_heq c]⟩
   cases xP;exact⟨_,h2,sM T Gz hs bW e1 e2 e4 e5 h1 Ah hf hy⟩
  |false=>
   rw[qn,cond_false]at h2;obtain⟨x',I2,h2⟩:=bind_some h2;exact⟨_,h2,sM T Gz hs bW e1 e2 I2 e5 h1 Ah hf hy⟩
 .cases h
theorem GB(hs:aq U H F w ob n){t:TypeId}{tr:Tree}{cs:List Value}(hh:Holds H F w tr cs):
 kg H F w ob n {dst:= .ptr n [] 0,make:=[(n,(n, .box t tr))]} (.pointer (some ⟨w.heap.size,0,acP⟩)) (w.alloc (.cells cs.toArray t)):=by
 have bo:Ext (bJ H ob []) w (w.alloc (.cells cs.toArray t)):=⟨rfl,⟨rfl,aaX _⟩,rfl,by simp,λk hk _=>Below.heap_alloc w _ k hk⟩
 have hf:=hs.fresh n (aaX _) (by omega);refine jV.new (v0:= .pointer (some ⟨w.heap.size,0,acP⟩)) hs rfl rfl bo ⟨_,cs,rfl,heap_alloc_new w _,?_⟩ (λk hk=>?_) ⟨w.heap.size,by simp[an.bX],rfl⟩
 .exact hh.keep ((an.ew hf.2).trans (an.nQ (by simp[an.ba,hf.1]))) (Step.alloc hs.lt _)
 .simp only[fp,acL,aa1,acp,and_true]at hk;subst hk;exact⟨λe=>by have:=hs.lt _ e;omega,by simp, .inl (aaX _)⟩
def qs(T:aM P)(n:Nat)(t:TypeId)(k:c9->Option R):Option R:=
 match find T.row t with
 |some r=>k {dst:= .ptr n [] 0,make:=[(n,(n, .box t r.xV))]}
 |none=>acP
theorem DX(T:aM P){t:TypeId}{k:c9->Option R}{q:R}(h:qs T n t k=some q)(hs:aq U H F w ob n):
 ∃e,k e=some q/\bO P U H F w ρ ob n ⟨some d, .alloc t,ty,pos,aft,acP⟩ e:=by
 unfold qs at h;split at h
 case h_2=>cases h
 rename_i r hr;obtain⟨ti,z,h1,h2,h3,_,_⟩:=T.row_ok _ _ hr;refine⟨_,h,bH.val (DE h1 h2) ?_⟩;have:=GB (t:=t) hs (Row.kZ H F w r);rw[<-h3,abE]at this;exact this
def DY(n:Nat)(t:TypeId)(V:aj)(k:c9->Option R):Option R:=
 match V with
 | .val _ u=>k {dst:= .ptr n [] 0,make:=[(n,(n, .box t u))]}
 |_=>acP
theorem Jr{t:TypeId}{V:aj}{x:Operand}{k:c9->Option R}{q:R}(h:DY n t V k=some q)(hs:aq U H F w ob n)(hx:ah H F w V (ev ρ x)):
 ∃e,k e=some q/\bO P U H F w ρ ob n ⟨some d, .box t x,ty,pos,aft,acP⟩ e:=by
 unfold DY at h;split at h
 case h_2=>cases h
 rename_i agg u;obtain⟨cs,oN,u7⟩:=az.cells hx;refine⟨_,h,bH.val (Ji rfl) ?_⟩;have:=GB (t:=t) hs oN;rw[<-u7,abE]at this;exact this
end
end Go.Proofs.YtbladfbbhijpmaaGreat
end
namespace Go.Proofs.YtbladfbbhijpmaaGreat
open Go Go.RowKit
set_option maxRecDepth 100000
set_option linter.unusedSimpArgs false
set_option linter.unusedVariables false
set_option linter.defProp false
section
section
variable {P:Program} {ρ:Nat->Value} {w w':World} {H H':an} {F F':Nat->Prop} {U:Nat->Prop} {ob:Nat->Option (Nat×Th)} {n:Nat} {R:Type}
variable {op:Op} {ty:TypeId} {pos:String} {aft:Array Edge} {d:Nat}
theorem nR{base:Nat}{T:TypeId}{r:Row}{v:Value}{l:List r.den}(h:gv base F w T r v l):v.oneCell'=acQ:=by
 obtain⟨A,cap,rfl,_⟩:=h.reads;rfl
theorem k0{H:an}{o:Nat}{v:Value}(h:H.val o=some v)(h1:v.oneCell'=acQ):ah H F w (.val acR (.own o)) v:=⟨[v],⟨v,h,h1,rfl⟩,rfl,λ_=>rfl⟩
theorem qt(hs:aq U H F w ob n){e:TypeId}{r:Row}{v:Value}{l:List r.den}{eat:List Nat}(bo:Ext (bJ H ob eat) w w')(ho:gv 0 F w' e r v l)(hn:∀k,bh v k->bJ H ob eat k\/w.heap.size<=k):
 kg H F w ob n {dst:= .val acR (.own n),eat:=eat,make:=[(n,(n, .own e r l))]} v w':=
 jV.new (v0:=v) hs rfl (nR ho) bo ho.2 (λk hk=>⟨ho.1 k hk,ho.lt k hk,(hn k hk).symm⟩) (k0 (by simp[an.bX]) (nR ho))
theorem lF{g:Nat->Prop}(o:Obj):Ext g w (w.alloc o):=⟨rfl,⟨rfl,aaX _⟩,rfl,by simp,λk hk _=>Below.heap_alloc w _ k hk⟩
def Qh{α:Type}(a b:Int)(z:α):Option (List α):=if 0<=a/\a<=b/\b<=4294967296 then some (abn a.toNat z)else acP
def mY:Operand->Operand->Bool
 | .tmp a, .tmp b=>aaY a b
 | .const (.int _ a), .const (.int _ b)=>decide (a=b)
 |_,_=>acR
theorem u9{e t:TypeId}{r:Row}{a b:Int}(ht:P.underlying t=some (.slice e))(uY:TI P e r)(hs:aq U H F w ob n){ka kb:IntKind}{x y:Operand}(hx:ev ρ x= .int ka a)(hy:ev ρ y= .int kb b)(h0:0<=a)(h1:a<=b)(h2:b<=4294967296):
 ∃v w',(execOp (ev ρ) ⟨some d, .makeSlice t x y,ty,pos,aft,acP⟩).run P w= .ok (.value v) w'/\(∀g,Ext g w w')/\gv 0 F w' e r v (abn a.toNat r.zero)/\∀k,bh v k->w.heap.size<=k:=by
 obtain⟨ti,z,hi,hz,NE,jc,Nb⟩:=uY;obtain⟨ca,rfl⟩:=aa8 h0;obtain⟨cb,rfl⟩:=aa8 (Int.le_trans h0 h1)
 have hc:cb<=4294967296:=by omega
 have v7:ti.bytes*cb<=281474976710656:=abi (Nat.mul_le_mul Nb hc) (by omega)
 have r4:(ti.bytes:Int)*(cb:Int)<=281474976710656:=by
  have h:((ti.bytes*cb:Nat):Int)<=281474976710656:=by omega
  rwa [Int.natCast_mul]at h
 have bq:=run_make (P:=P) w t e ti z ht hi hz ka kb ca cb (by omega) (by omega) r4 (by omega)
 have Ww:z.cells=r.dB.toArray:=by rw[<-NE,abE]
 have Wx:r.dB.length=r.size:=(bT.zero F w r).length;have mV:=r.size_pos;simp only[aa3]at bq;refine⟨.slice (some ⟨w.heap.size,0,acP⟩) ca cb,w.alloc (.cells (madeCells z.cells (cb*ti.size)) e),by simp[execOp,hx,hy,bq],λ_=>lF _,⟨λq hq=>?_,(madeCells z.cells (cb*ti.size)).toList.take (ca*r.size),?_,?_⟩,λq hq=>?_⟩
 .simp only[bh,abu,aa1]at hq;intro e;have:=hs.lt _ e;omega
 .have hle:ca*r.size<=cb*r.size:=abf _ (by omega);have NR:=size_madeCells z.cells (cb*ti.size);refine kW.of ⟨by rw[abb,Array.length_toList,NR,jc,ab5 hle];simp, .inr ⟨w.heap.size,cb,madeCells z.cells (cb*ti.size),by simp,Nat.zero_le _,heap_alloc_new w _,by simp;omega,by simp[maxLen];omega,by rw[NR,jc],by simp⟩⟩
 .intro i ag;simp only[aa3,List.length_replicate]at ag;have hle:(i+1)*r.size<=ca*r.size:=abf _ ag;rw[abG]at hle;rw[List.drop_take,List.take_take,ab5 (by omega)];rw[jc,Ww,<-Wx,Gc _ _ _ (by omega) (by omega)];simpa using bT.zero F _ r
 .simp only[bh,abu,aa1]at hq;omega
theorem xY{e t:TypeId}{r:Row}{a b:Int}(ht:P.underlying t=some (.slice e))(uY:TI P e r)(hs:aq U H F w ob n){ka kb:IntKind}{x y:Operand}(hx:ev ρ x= .int ka a)(hy:ev ρ y= .int kb b)(h0:0<=a)(h1:a<=b)(h2:b<=4294967296):
 bO P U H F w ρ ob n ⟨some d, .makeSlice t x y,ty,pos,aft,acP⟩ {dst:= .val acR (.own n),make:=[(n,(n, .own e r (abn a.toNat r.zero)))]}:=by
 obtain⟨v,w',bq,bo,dm,sN⟩:=u9 (d:=d) (ty:=ty) (pos:=pos) (aft:=aft) ht uY hs hx hy h0 h1 h2;exact bH.val bq (qt hs (bo _) dm λq hq=> .inr (sN q hq))
def sO(T:aM P)(n:Nat)(t:TypeId)(same:Bool)(a b:Int)(k:c9->Option R):Option R:=
 match find T.und t with
 |some (.slice e)=>match find T.row e with
  |some r=>(bif same then uU a r.zero else Qh a b r.zero).bind λl=>k {dst:= .val acR (.own n),make:=[(n,(n, .own e r l))]}
  |none=>acP
 |_=>acP
theorem va{x y:Operand}(h:mY x y=acQ){a b:Int}{ka kb:IntKind}(hx:ev ρ x= .int ka a)(hy:ev ρ y= .int kb b):a=b:=by
 unfold mY at h;split at h
 .obtain rfl:=beq_true h;rw[hx]at hy;cases hy;rfl
 .simp only[ev,Value.int.injEq]at hx hy;have:=acV h;omega
 .cases h
theorem xZ(T:aM P){t:TypeId}{a b:Int}{ka kb:IntKind}{x y:Operand}{k:c9->Option R}{q:R}(h:sO T n t (mY x y) a b k=some q)(hs:aq U H F w ob n)(hx:ev ρ x= .int ka a)(hy:ev ρ y= .int kb b):
 ∃e,k e=some q/\bO P U H F w ρ ob n ⟨some d, .makeSlice t x y,ty,pos,aft,acP⟩ e:=by
 unfold sO at h;split at h
 case h_2=>cases h
 rename_i e hu;split at h
 case h_2=>cases h
 rename_i r hr;obtain⟨l,hl,hk⟩:=bind_some h;have uY:=T.row_ok _ _ hr;have ht:=T.und_ok _ _ hu
 cases mS:mY x y with
 |true=>
  rw[mS,cond_true]at hl;unfold uU at hl;split at hl
  case isFalse=>cases hl
  rename_i hc;obtain rfl:=aaT hl;obtain rfl:=va mS hx hy;exact⟨_,hk,xY ht uY hs hx hy hc.1 (Int.le_refl _) hc.2⟩
 |false=>
  rw[mS,cond_false]at hl;unfold Qh at hl;split at hl
  case isFalse=>cases hl
  rename_i hc;obtain rfl:=aaT hl;exact⟨_,hk,xY ht uY hs hx hy hc.1 hc.2.1 hc.2.2⟩
def QY(ob:Nat->Option (Nat×Th))(r:Row)(D:aj):Option (List r.den):=
 match rQ ob D with
 |some (.read s l)=>if h:s.beq r=acQ then some (gG (r:= .slice s) (s:= .slice r) (ac0 Row.slice (Row.eq_of_beq h)) l)else acP
 |some (.own _ _ _ s l)=>if h:s.beq r=acQ then some (gG (r:= .slice s) (s:= .slice r) (ac0 Row.slice (Row.eq_of_beq h)) l)else acP
 |some .nil=>some []
 |some (.view ..)=>acP
 |some (.deep ..)=>acP
 |none=>acP
theorem LC(hs:aq U H F w ob n){r:Row}{D:aj}{l:List r.den}{v:Value}(h:QY ob r D=some l)(hd:ah H F w D v):Reads F w r v l:=by
 unfold QY at h;split at h
 .rename_i s m fq;split at h
  case isFalse=>cases h
  rename_i hb;obtain rfl:=Row.eq_of_beq hb;obtain rfl:=aaT h;exact bT.reads (fU hs fq hd)
 .rename_i o s0 T s m fq;split at h
  case isFalse=>cases h
  rename_i hb;obtain rfl:=Row.eq_of_beq hb;obtain rfl:=aaT h;exact(fU hs fq hd).2.2.reads
 .rename_i fq;obtain rfl:=aaT h;have:v=_:=fU hs fq hd;subst this;exact(bT.nil F w r).reads
 .cases h
 .cases h
 .cases h
def pD:Gw->Int
 | .read _ l=>(l.length:Int)
 | .own _ _ _ _ l=>(l.length:Int)
 | .nil=>0
 | .view _ _ _ l=>(l.length:Int)
 | .deep _ _ _ _ l _=>(l.length:Int)
theorem GC{v:Value}{k:Gw}(h:Jp U H F w ob v k):∃A m cap,v= .slice A m cap/\pD k=(m:Int):=by
 cases k with
 |read r l=>
  obtain⟨A,cap,e,_⟩:=bT.Ao h;exact⟨A,_,cap,e,rfl⟩
 |own o s T r l=>
  obtain⟨A,cap,e,_⟩:=h.2.2.reads;exact⟨A,_,cap,e,rfl⟩
 |nil=>exact⟨acP,0,0,h,rfl⟩
 |view o s r m=>
  obtain⟨A,cap,T,l,a,b,_,_,h3,h4,rfl,rfl⟩:=h;refine⟨_,_,_,rfl,?_⟩;simp only[pD,List.length_drop,abb,ab5 h4]
 |deep o s T d l hh=>
  obtain⟨lh,_,⟨xs,Af,_⟩,Nd,_⟩:=h.2.2.ok
  rcases Af.2 with⟨DU,h0⟩|⟨g,o0,cap,cur,wm,_,_,_⟩
  .exact⟨acP,0,0,DU,by simp only[pD];omega⟩
  .exact⟨_,_,_,wm,by simp only[pD];omega⟩
def DZ(T:aM P)(ob:Nat->Option (Nat×Th))(t:TypeId)(D:aj):Option aj:=
 match find T.und t with
 |some (.slice _)=>match rQ ob D with
  |some k=>some (kG .i64 (pD k))
  |none=>acP
 |some .str=>match xR D with
  |some s=>some (kG .i64 (s.size:Int))
  |none=>acP
 |_=>acP
theorem Cj(T:aM P){t:TypeId}{D D':aj}{x:Operand}(h:DZ T ob t D=some D')(hs:aq U H F w ob n)(hx:ah H F w D (ev ρ x)):
 bO P U H F w ρ ob n ⟨some d, .call {callee:= .builtin .len,args:= #[x],argTypes:= #[t]},ty,pos,aft,acP⟩ {dst:=D'}:=by
 unfold DZ at h;split at h
 .rename_i e hu;split at h
  case h_2=>cases h
  rename_i k hk;obtain rfl:=aaT h;obtain⟨A,m,cap,e1,e2⟩:=GC (fU hs hk hx);rw[e2];exact aF hs (Ga rfl (T.und_ok _ _ hu) e1) (az.hU ..)
 .rename_i hu;split at h
  case h_2=>cases h
  rename_i s hk;obtain rfl:=aaT h;exact aF hs (Dw (T.und_ok _ _ hu) (sK hk hx)) (az.hU ..)
 .cases h
def nS(T:aM P)(ob:Nat->Option (Nat×Th))(n:Nat)(t:TypeId)(X Y:aj)(k:c9->Option R):Option R:=
 match find T.und t with
 |some (.slice e)=>match find T.row e with
  |some r=>match QY ob r Y with
   |some m=>match rQ ob X with
    |some .nil=>(bK ([]:List r.den) m).bind λl=>k {dst:= .val acR (.own n),make:=[(n,(n, .own e r l))]}
    |some (.own o _ T0 s l0)=>bif aaY T0 e then
      (if h:s.beq r=acQ then(bK (gG (r:= .slice s) (s:= .slice r) (ac0 Row.slice (Row.eq_of_beq h)) l0) m).bind λl=>k {dst:= .val acR (.own n),eat:=[o],make:=[(n,(n, .own e r l))]}else acP)else acP
    |_=>acP
   |none=>acP
  |none=>acP
 |_=>acP
theorem AE(T:aM P){t:TypeId}{X Y:aj}{x y:Operand}{k:c9->Option R}{q:R}(h:nS T ob n t X Y k=some q)(hs:aq U H F w ob n)(hx:ah H F w X (ev ρ x))(hy:ah H F w Y (ev ρ y)):
 ∃e,k e=some q/\bO P U H F w ρ ob n ⟨some d, .call {callee:= .builtin .append,args:= #[x,y],argTypes:= #[t,t]},ty,pos,aft,acP⟩ e:=by
 unfold nS at h;split at h
 case h_2=>cases h
 rename_i e hu;split at h
 case h_2=>cases h
 rename_i r hr;obtain⟨ti,z,h1,h2,h3,h4,h5⟩:=T.row_ok _ _ hr;have ht:=T.und_ok _ _ hu;split at h
 case h_2=>cases h
 rename_i m hm;have dG:=LC hs hm hy
 have key:∀{l out:List r.den},gv 0 F w e r (ev ρ x) l->bK l m=some out->∃v' w',(execOp (ev ρ) ⟨some d, .call {callee:= .builtin .append,args:= #[x,y],argTypes:= #[t,t]},ty,pos,aft,acP⟩).run P w= .ok (.value v') w'/\Ext (bh (ev ρ x)) w w'/\gv 0 F w' e r v' out/\(∀k,bh v' k->bh (ev ρ x) k\/w.heap.size<=k):=by
  intro l out ho ha;obtain⟨v',w',bq,he,iY,QV⟩:=sD ty ht h1 h2 h3 h4 h5 ho dG ha hs.lt (Nat.zero_le _);refine⟨v',w',by simp[execOp,resolve,invoke,builtin,bq],he,iY,λk hk=>?_⟩
  rcases QV with g|g
  .exact .inl (g▸hk)
  .rw[g]at hk;exact .inr (by omega)
 split at h
 .rename_i fq;obtain⟨l,hl,hk⟩:=bind_some h;have hv:ev ρ x=_:=fU hs fq hx;obtain⟨v',w',bq,he,iY,hn⟩:=key (by rw[hv];exact gv.nil 0 F w e r) hl
  have no:∀k,¬bh (ev ρ x) k:=λk hk=>by rw[hv]at hk;simp[bh,abu]at hk
  exact⟨_,hk,bH.val bq (qt hs ⟨he.os,he.tape,he.output,he.size,λk hk _=>he.block k hk (no k)⟩ iY λk hk=>(hn k hk).imp (λh=>absurd h (no k)) id)⟩
 .rename_i o s0 T0 s l0 fq;obtain⟨hb,h⟩:=aB h;obtain rfl:=beq_true hb;split at h
  case isFalse=>cases h
  rename_i xX;obtain rfl:=Row.eq_of_beq xX;obtain⟨l,hl,hk⟩:=bind_some h;obtain⟨hv,bW,dm⟩:=fU hs fq hx;obtain⟨v',w',bq,he,iY,hn⟩:=key dm hl
  have e7:∀k,bh (ev ρ x) k->bJ H ob [o] k:=λk hk=>⟨o,by simp,_,_,_,bW,hv,hk⟩
  exact⟨_,hk,bH.val bq (qt hs ⟨he.os,he.tape,he.output,he.size,λk hk wg=>he.block k hk λhm=>wg (e7 k hm)⟩ iY λk hk=>(hn k hk).imp (e7 k) id)⟩
 .cases h
def ya(ob:Nat->Option (Nat×Th))(r:Row):List aj->Option (List r.den)
 |[]=>some []
 | .val _ u::l=>match flat ob r u with
   |some x=>match ya ob r l with
    |some xs=>some (x::xs)
    |none=>acP
   |none=>acP
 |_::_=>acP
def pE(rd:Operand->Option aj):List Operand->Option (List aj)
 |[]=>some []
 |x::xs=>match rd x with
  |some d=>match pE rd xs with
   |some ds=>some (d::ds)
   |none=>acP
  |none=>acP
def dP(H:an)(F:Nat->Prop)(w:World):List aj->List Value->Prop
 |[],vs=>vs=[]
 |d::ds,vs=>∃v us,vs=v::us/\ah H F w d v/\dP H F w ds us
theorem lG{rd:Operand->Option aj}(h:∀x d,rd x=some d->ah H F w d (ev ρ x)):{xs:List Operand}->{ds:List aj}->pE rd xs=some ds->dP H F w ds (xs.map (ev ρ))
 |[],ds,e=>by obtain rfl:=aaT e;rfl
 |x::xs,ds,e=>by
  unfold pE at e
  cases h1:rd x with
  |none=>rw[h1]at e;cases e
  |some d=>
   cases h2:pE rd xs with
   |none=>simp only[h1,h2]at e;cases e
   |some Qi=>
    simp only[h1,h2,aa1]at e;subst e;exact⟨_,_,rfl,h _ _ h1,lG h h2⟩
theorem yb(hs:aq U H F w ob n){r:Row}:{ds:List aj}->{l:List r.den}->{vs:List Value}->ya ob r ds=some l->dP H F w ds vs->sE F w r vs l
 |[],l,vs,e,h=>by
  obtain rfl:=aaT e;rw[show vs=[]from h];exact .nil
 | .val _ u::ds,l,vs,e,h=>by
   obtain⟨v,us,rfl,h1,h2⟩:=h;unfold ya at e
   cases hf:flat ob r u with
   |none=>rw[hf]at e;cases e
   |some x=>
    cases hg:ya ob r ds with
    |none=>simp only[hf,hg]at e;cases e
    |some xs=>
     simp only[hf,hg,aa1]at e;subst e;obtain⟨cs,oN,u7⟩:=az.cells h1;exact .cons u7 (eT hs hf oN) (yb hs hg h2)
 | .dead::_,_,_,e,_=>by cases e
 | .undef::_,_,_,e,_=>by cases e
 | .ptr .. ::_,_,_,e,_=>by cases e
 | .at .. ::_,_,_,e,_=>by cases e
 | .elem .. ::_,_,_,e,_=>by cases e
 | .tup _::_,_,_,e,_=>by cases e
 | .dlm .. ::_,_,_,e,_=>by cases e
theorem sP{e t:TypeId}{r:Row}{xs:List Operand}{l:List r.den}{parts:Array (Nat×Operand)}(ht:P.underlying t=some (.slice e))(uY:TI P e r)(cS:parts=((xs.zipIdx).map λp=>(p.2,p.1)).toArray)(mS:xs.length*r.size<=16777216)
 (hl:sE F w r (xs.map (ev ρ)) l)(hs:aq U H F w ob n):
 ∃v w',(execOp (ev ρ) ⟨some d, .buildSlice t xs.length parts,ty,pos,aft,acP⟩).run P w= .ok (.value v) w'/\(∀g,Ext g w w')/\gv 0 F w' e r v l/\∀k,bh v k->w.heap.size<=k:=by
 obtain⟨ti,z,h1,h2,h3,h4,h5⟩:=uY
 have Wy:(xs.map (ev ρ)).length=xs.length:=by simp
 have Nd:=hl.length;have mV:=r.size_pos
 have ND:z.cells.size=r.size:=by rw[<-(bT.zero F w r).length,<-h3];simp
 have pF:(parts.map λ(i,q)=>(i,ev ρ q)).toList=((xs.map (ev ρ)).zipIdx).map λp=>(p.2,p.1):=by
  subst cS;simp[List.zipIdx_map,Function.comp_def]
 generalize hm:xs.length=m at*;generalize xs.map (ev ρ)=vs at*
 have key:∀zz:Array Value,zz.size=m*r.size->∃Ai:List Value,acC (λi=>some (i*r.size,r.size)) zz ((vs.zipIdx).map λp=>(p.2,p.1))=some Ai.toArray/\Ai.length=l.length*r.size/\∀i(hi:i<l.length),bT F w r ((Ai.drop (i*r.size)).take r.size) l[i]:=by
  intro zz NS;obtain⟨Ai,a1,a2,a3⟩:=hl.fill 0 [] zz.toList (by simp) (by rw[Array.length_toList,NS,Wy]);exact⟨Ai,by simpa using a1,a2,a3⟩
 have bq:∃Ai:List Value,(execOp (ev ρ) ⟨some d, .buildSlice t m parts,ty,pos,aft,acP⟩).run P w= .ok (.value (.slice (some ⟨w.heap.size,0,acP⟩) m m)) (w.alloc (.cells Ai.toArray e))/\Ai.length=l.length*r.size/\∀i(hi:i<l.length),bT F w r ((Ai.drop (i*r.size)).take r.size) l[i]:=by
  by_cases h0:m*r.size=0
  .obtain⟨Ai,a1,a2,a3⟩:=key #[] (by simp[h0]);refine⟨Ai,?_,a2,a3⟩;simp only[execOp,Instr.buildSlice,abp,run_underlying ht,abC];rw[pF]
   have QZ:Array.range 0=(#[]:Array Nat):=by rfl
   simp[sizeOf,typeInfo,h1,h4,h0,newRow,QZ,a1]
  .obtain⟨Ai,a1,a2,a3⟩:=key ((Array.range (m*r.size)).map (z.cells[· %z.cells.size]!)) (by simp);refine⟨Ai,?_,a2,a3⟩;simp only[execOp,Instr.buildSlice,abp,run_underlying ht,abC];rw[pF];simp[sizeOf,typeInfo,h1,h4,h0,zeroValue,h2,newRow,a1,show¬(16777216<m*r.size)from by omega]
 obtain⟨Ai,bq,a2,a3⟩:=bq
 have I4:m=l.length:=by omega
 have Wz:m<=16777216:=abi (Nat.le_mul_of_pos_right m mV) mS;refine⟨_,_,bq,λg=>lF _,⟨λk hk=>?_,Ai,?_,λi hi=>(a3 i hi).step (Step.alloc hs.lt _)⟩,λk hk=>?_⟩
 .simp only[bh,abu,aa1]at hk;intro e;have:=hs.lt _ e;omega
 .have:=World.ownsRow_lit (base:=0) (e:=e) (size:=r.size) w Ai.toArray m (Nat.zero_le _) (by simp[maxLen];omega) (by simp[a2,I4]);rw[I4]at this⊢;simpa using kW.of this
 .simp only[bh,abu,aa1]at hk;omega
theorem run_build{e t:TypeId}{r:Row}{xs:List Operand}{l:List r.den}{parts:Array (Nat×Operand)}(ht:P.underlying t=some (.slice e))(uY:TI P e r)(cS:parts=((xs.zipIdx).map λp=>(p.2,p.1)).toArray)(mS:xs.length*r.size<=16777216)
 (hl:sE F w r (xs.map (ev ρ)) l)(hs:aq U H F w ob n):
 bO P U H F w ρ ob n ⟨some d, .buildSlice t xs.length parts,ty,pos,aft,acP⟩ {dst:= .val acR (.own n),make:=[(n,(n, .own e r l))]}:=by
 obtain⟨v,w',h1,h2,h3,h4⟩:=sP (d:=d) (ty:=ty) (pos:=pos) (aft:=aft) ht uY cS mS hl hs;exact bH.val h1 (qt hs (h2 _) h3 λk hk=> .inr (h4 k hk))
def Ck:Nat->List (Nat×Operand)->Bool
 |_,[]=>acQ
 |k,p::l=>aaY p.1 k&&Ck (k+1) l
theorem sQ:{k:Nat}->{l:List (Nat×Operand)}->Ck k l=acQ->l=((l.map (·.2)).zipIdx k).map λp=>(p.2,p.1)
 |_,[],_=>rfl
 |k,p::l,h=>by
  obtain⟨h1,h2⟩:=bU h;have h1:=beq_true h1;have ih:=sQ h2;obtain⟨a,b⟩:=p;subst h1;rw[List.map_cons,List.zipIdx_cons,List.map_cons,<-ih]
def ic(T:aM P)(rd:Operand->Option aj)(ob:Nat->Option (Nat×Th))(n:Nat)(t:TypeId)(m:Nat)(parts:Array (Nat×Operand))(k:c9->Option R):Option R:=
 match find T.und t with
 |some (.slice e)=>match find T.row e with
  |some r=>bif Ck 0 parts.toList&&aaY m parts.toList.length&&Nat.ble (m*r.size) 16777216 then
    (match pE rd (parts.toList.map (·.2))with
    |some ds=>match ya ob r ds with
     |some l=>k {dst:= .val acR (.own n),make:=[(n,(n, .own e r l))]}
     |none=>acP
    |none=>acP)else acP
  |none=>acP
 |_=>acP
theorem sR(T:aM P){rd:Operand->Option aj}(dG:∀x d,rd x=some d->ah H F w d (ev ρ x)){t:TypeId}{m:Nat}{parts:Array (Nat×Operand)}{k:c9->Option R}{q:R}(h:ic T rd ob n t m parts k=some q)(hs:aq U H F w ob n):
 ∃e,k e=some q/\bO P U H F w ρ ob n ⟨some d, .buildSlice t m parts,ty,pos,aft,acP⟩ e:=by
 unfold ic at h;split at h
 case h_2=>cases h
 rename_i e hu;split at h
 case h_2=>cases h
 rename_i r hr;obtain⟨h1,h⟩:=aB h;obtain⟨h1,h3⟩:=bU h1;obtain⟨h1,h2⟩:=bU h1;have h2:=beq_true h2
 have h3:m*r.size<=16777216:=by simpa using h3
 split at h
 case h_2=>cases h
 rename_i ds sd;split at h
 case h_2=>cases h
 rename_i l hl;have NT:=yb hs hl (lG dG sd)
 have hp:parts=(((parts.toList.map (·.2)).zipIdx).map λp=>(p.2,p.1)).toArray:=by
  rw[<-sQ h1,abE]
 have hm:m=(parts.toList.map (·.2)).length:=by simpa using h2
 refine⟨_,h,?_⟩;have:=run_build (d:=d) (ty:=ty) (pos:=pos) (aft:=aft) (T.und_ok _ _ hu) (T.row_ok _ _ hr) hp (by rw[<-hm];exact h3) NT hs;rw[<-hm]at this;exact this
def Cm{P:Program}(T:aM P)(fs:List (TypeId×Nat)):Tree->List (Nat×aj)->Option Tree
 |t,[]=>some t
 |t,(f, .val _ u)::l=>match t.get (pB fs.length f)with
  |some (s,off)=>match fs[f]? with
   |some (ft,cV)=>bif aaY off cV&&aaY u.size s.size&&(match find T.row ft with|some r=>aaY r.size u.size|none=>acR)then
     (match t.put (pB fs.length f) u with
     |some t'=>Cm T fs t' l
     |none=>acP)else acP
   |none=>acP
  |none=>acP
 |_,_::_=>acP
def se(T:aM P):List (TypeId×Nat)->Bool
 |[]=>acQ
 |p::fs=>(match find T.row p.1 with|some _=>acQ|none=>acR)&&se T fs
def place(T:aM P)(fs:List (TypeId×Nat))(i:Nat):Option (Nat×Nat):=
 match fs[i]? with
 |some (ft,off)=>match find T.row ft with
  |some r=>some (off,r.size)
  |none=>acP
 |none=>acP
theorem sS(T:aM P):{l:List Field}->{fs:List (TypeId×Nat)}->l.map (λf=>(f.type,f.offset))=fs->se T fs=acQ->
 ∃pl:List (Nat×Nat),(l.mapM λ(f:Field)=>(do pure (f.offset,<-sizeOf f.type):Sem (Nat×Nat))).run P w= .ok pl w/\∀i,pl[i]? =place T fs i
 |[],fs,h,_=>by
  subst h;exact⟨[],by simp,λi=>by simp[place]⟩
 |f::l,fs,h,hz=>by
  subst h;obtain⟨h1,h2⟩:=bU hz;obtain⟨pl,NU,I5⟩:=sS T (l:=l) rfl h2
  cases hr:find T.row f.type with
  |none=>rw[hr]at h1;cases h1
  |some r=>
   obtain⟨ti,z,g1,_,_,g4,_⟩:=T.row_ok _ _ hr;refine⟨(f.offset,r.size)::pl,?_,λi=>?_⟩
   .have Ah:(sizeOf f.type).run P w= .ok r.size w:=by simp[sizeOf,typeInfo,g1,g4]
    rw[List.mapM_cons];simp only[abp,Ah,Sem.run_pure,abC,NU]
   .cases i with
    |zero=>simp[place,hr]
    |succ i=>simpa[place]using I5 i
end
end
section
section
variable {P:Program} {ρ:Nat->Value} {w w':World} {H H':an} {F F':Nat->Prop} {U:Nat->Prop} {ob:Nat->Option (Nat×Th)} {n:Nat} {R:Type}
variable {op:Op} {ty:TypeId} {pos:String} {aft:Array Edge} {d:Nat}
theorem yc(T:aM P){fs:List (TypeId×Nat)}{pl:List (Nat×Nat)}(hz:se T fs=acQ)(I6:∀i,pl[i]? =place T fs i)(jc:∀ft off r,(ft,off)∈fs->find T.row ft=some r->True):
 {parts:List (Nat×aj)}->{t t':Tree}->{cs:List Value}->{vs:List (Nat×Value)}->Cm T fs t parts=some t'->Holds H F w t cs->parts.map (·.1)=vs.map (·.1)->dP H F w (parts.map (·.2)) (vs.map (·.2))->
 ∃oO,acC (pl[·]?) cs.toArray vs=some oO.toArray/\Holds H F w t' oO
 |[],t,t',cs,vs,h,hh,h1,h2=>by
  obtain rfl:=aaT h
  have:vs=[]:=by simpa using h1.symm
  subst this;exact⟨cs,by simp[acC],hh⟩
 |(f, .val agg u)::parts,t,t',cs,vs,h,hh,h1,h2=>by
  obtain⟨v,us,e,hv,h3⟩:=h2
  cases vs with
  |nil=>simp at e
  |cons fv vs=>
   obtain⟨f',v'⟩:=fv;simp only[List.map_cons,ab9]at h1 e;obtain⟨rfl,h1⟩:=h1;obtain⟨rfl,rfl⟩:=e;unfold Cm at h;split at h
   case h_2=>cases h
   rename_i s off hg;split at h
   case h_2=>cases h
   rename_i ft cV hf;obtain⟨hb,h'⟩:=aB h;clear h;obtain⟨hb,NV⟩:=bU hb;obtain⟨FF,Ng⟩:=bU hb;have FF:=beq_true FF;subst FF;have Ng:=beq_true Ng;split at h'
   case h_2=>cases h'
   rename_i tp hp;obtain⟨c1,uq,u7⟩:=az.cells hv;have hl:=uq.length;have hle:=(hh.get hg).2
   cases hr:find T.row ft with
   |none=>simp only[hr]at NV;cases NV
   |some r=>
    simp only[hr]at NV;have NV:=beq_true NV
    have LD:pl[f]? =some (off,r.size):=by rw[I6];simp[place,hf,hr]
    rw[qi LD u7 (by omega) (by omega)];have oR:=Holds.put uq hg hp Ng.symm hh;rw[show u.size=r.size from by omega]at oR;exact yc T hz I6 jc h' oR h1 h3
 |(_, .dead)::_,_,_,_,_,h,_,_,_=>by cases h
 |(_, .undef)::_,_,_,_,_,h,_,_,_=>by cases h
 |(_, .ptr ..)::_,_,_,_,_,h,_,_,_=>by cases h
 |(_, .at ..)::_,_,_,_,_,h,_,_,_=>by cases h
 |(_, .elem ..)::_,_,_,_,_,h,_,_,_=>by cases h
 |(_, .tup _)::_,_,_,_,_,h,_,_,_=>by cases h
 |(_, .dlm ..)::_,_,_,_,_,h,_,_,_=>by cases h
def qv(T:aM P)(rd:Operand->Option aj)(t:TypeId)(parts:Array (Nat×Operand))(k:c9->Option R):Option R:=
 match find T.und t with
 |some (.struct fs)=>match find T.row t with
  |some r=>bif se T fs then
    (match pE rd (parts.toList.map (·.2))with
    |some ds=>match Cm T fs r.xV ((parts.toList.map (·.1)).zip ds)with
     |some tr=>k {dst:= .val acQ tr}
     |none=>acP
    |none=>acP)else acP
  |none=>acP
 |_=>acP
theorem iw:{ds:List aj}->{vs:List Value}->dP H F w ds vs->ds.length=vs.length
 |[],_,h=>by rw[show _=[]from h];rfl
 |_::_,_,h=>by obtain⟨v,us,rfl,_,h2⟩:=h;simp[iw h2]
theorem D1(T:aM P){rd:Operand->Option aj}(dG:∀x d,rd x=some d->ah H F w d (ev ρ x)){t:TypeId}{parts:Array (Nat×Operand)}{k:c9->Option R}{q:R}(h:qv T rd t parts k=some q)(hs:aq U H F w ob n):
 ∃e,k e=some q/\bO P U H F w ρ ob n ⟨some d, .build t parts,ty,pos,aft,acP⟩ e:=by
 unfold qv at h;split at h
 case h_2=>cases h
 rename_i fs hu;obtain⟨arr,FE,Jo⟩:=T.und_ok _ _ hu;split at h
 case h_2=>cases h
 rename_i r hr;obtain⟨ti,z,h1,h2,h3,h4,h5⟩:=T.row_ok _ _ hr;obtain⟨hz,h⟩:=aB h;split at h
 case h_2=>cases h
 rename_i ds sd;split at h
 case h_2=>cases h
 rename_i tr NW;have hd:=lG (w:=w) (H:=H) (F:=F) (ρ:=ρ) dG sd;have hlen:=iw hd;obtain⟨pl,NU,I5⟩:=sS (w:=w) T Jo hz
 have hn:∀(a:List Nat)(b:List aj),a.length=b.length->(a.zip b).map (·.1)=a/\(a.zip b).map (·.2)=b:=λa b Q0=>⟨List.map_fst_zip (by omega),List.map_snd_zip (by omega)⟩
 have NX:=hn (parts.toList.map (·.1)) ds (by simp at hlen⊢;omega);obtain⟨oO,hf,hh⟩:=yc (w:=w) (H:=H) (F:=F) T hz I5 (λ_ _ _ _ _=>trivial) (vs:=parts.toList.map λ(i,q)=>(i,ev ρ q)) NW (Row.kZ H F w r) (by rw[NX.1];simp[Function.comp_def]) (by rw[NX.2];simpa[Function.comp_def]using hd);refine⟨_,h,bm hs (v:= .agg oO.toArray) ?_ ⟨oO,hh,rfl,by simp⟩⟩
 have WA:z.cells=r.dB.toArray:=by rw[<-h3,abE]
 have D2:(arr.mapM λ(f:Field)=>(do pure (f.offset,<-sizeOf f.type):Sem (Nat×Nat))).run P w= .ok pl.toArray w:=by
  rw[<-abE (xs:=arr),List.mapM_toArray];simp only[Sem.run_map,NU];rfl
 have WB:(parts.map λ(i,q)=>(i,ev ρ q)).toList=parts.toList.map λ(i,q)=>(i,ev ρ q):=by simp
 have Q1:(λ(x:Nat)=>pl.toArray[x]?)=λx=>pl[x]? :=by funext x;simp
 simp only[execOp,Instr.build,abp,zeroValue,typeInfo,h1,h2,run_program,Sem.run_pure,abC,run_underlying FE,WA,WB,D2,Q1,hf]
def Js(rd:Operand->Option aj):Option Operand->Option (Option Int)
 |none=>some acP
 |some x=>match rd x with
  |some d=>match asInt d with
   |some (_,i)=>some (some i)
   |none=>acP
  |none=>acP
theorem Cn{rd:Operand->Option aj}(dG:∀x d,rd x=some d->ah H F w d (ev ρ x)){lo:Option Operand}{a:Option Int}(h:Js rd lo=some a):LB ρ lo a:=by
 unfold Js at h;split at h
 .obtain rfl:=aaT h;exact .none
 .split at h
  .split at h
   .obtain rfl:=aaT h;rename_i hD _ _ _ hi;exact .some (fG hi (dG _ _ hD))
   .cases h
  .cases h
def qw(dr:Bool)(T:aM P)(rd:Operand->Option aj)(ob:Nat->Option (Nat×Th))(n:Nat)(t:TypeId)(D:aj)(lo hi:Option Operand)(k:c9->Option R):Option R:=
 match find T.und t with
 |some (.slice e)=>match find T.row e with
  |some re=>match Js rd lo with
   |some a=>match Js rd hi with
    |some b=>match rQ ob D with
     |some (.read r l)=>bif aaY r.size re.size then(dX l (a.getD 0) (b.getD (l.length:Int))).bind λm=>k {dst:= .val acR (.leaf (.slice r) m)}else acP
     |some .nil=>(dX ([]:List re.den) (a.getD 0) (b.getD 0)).bind λ_=>k {dst:= .val acR .nil}
     |some (.own o s T0 r l)=>bif aaY r.size re.size&&aaY T0 e&&(lo.isNone||dr)then(dX l (a.getD 0) (b.getD (l.length:Int))).bind λm=>k {dst:= .val acR (.own n),eat:=[o],make:=[(n,(n, .own T0 r m))]}
       else bif aaY r.size re.size then(dX l (a.getD 0) (b.getD (l.length:Int))).bind λm=>k {dst:= .val acR (.view o s r m)}else acP
     |_=>acP
    |none=>acP
   |none=>acP
  |none=>acP
 |_=>acP
theorem D3{e T0:TypeId}{ti:TypeInfo}{r:Row}{t:TypeId}{x:Operand}{lo hi:Option Operand}{a b:Option Int}{l m:List r.den}{o s:Nat}{v:Value}(ht:P.underlying t=some (.slice e))(h1:P.info? e=some ti)(h4:ti.size=r.size)(hx:ev ρ x=v)
 (hs:aq U H F w ob n)(bW:ob o=some (s, .own T0 r l))(NY:H.val o=some v)(ha:LB ρ lo a)(hb:LB ρ hi b)(hm:dX l (a.getD 0) (b.getD l.length)=some m):
 bO P U H F w ρ ob n ⟨some d, .slice t x lo hi acP,ty,pos,aft,acP⟩ {dst:= .val acR (.own n),eat:=[o],make:=[(n,(n, .own T0 r m))]}:=by
 have hv:=hs.own bW NY;obtain⟨p,q,ep,eq,KZ,hq,rfl⟩:=qj hm;obtain⟨A,cap,rfl,hlen,Jk,_⟩:=hv.reads;have bq:=r7 (P:=P) (w:=w) (d:=d) (ty:=ty) (pos:=pos) (aft:=aft) ht h1 hx ha hb (by omega) (by omega) (by omega) hlen;rw[ep,eq,aa3,aa3,h4]at bq;obtain⟨wg,xs,⟨wh,Q2⟩,hr⟩:=hv
 have Q3:((l.take q).drop p).length=q-p:=by simp;omega
 have hmul:q*r.size<=l.length*r.size:=abf _ hq;have Vb:p*r.size<=q*r.size:=abf _ KZ;have Vc:(q-p)*r.size=q*r.size-p*r.size:=Nat.sub_mul ..
 have bo:Ext (bJ H ob [o]) w w:=⟨rfl,⟨rfl,aaX _⟩,rfl,aaX _,λ_ _ _=>rfl⟩
 rcases Q2 with⟨DU,h0⟩|⟨g,o0,Gd,cur,fq,r4,hh,hn1,hn2,oN,D4⟩
 .simp only[aci]at DU;obtain⟨rfl,_,rfl⟩:=DU
  have NZ:q=0:=by omega
  subst NZ
  obtain rfl:p=0:=by omega
  refine bH.val bq (qt hs bo ?_ ?_)
  .simpa[sliced]using gv.nil 0 F w T0 r
  .intro k hk;simp[sliced,bh,abu]at hk
 .simp only[aci,true_and]at fq;obtain⟨rfl,rfl⟩:=fq
  obtain⟨o1,mZ,WC,N0⟩:∃o1,sliced (some ⟨g,o0,acP⟩) p q cap r.size= .slice (some ⟨g,o1,acP⟩) (q-p) (cap-p)/\o1+(cap-p)*r.size<=cur.size/\(cur.toList.drop o1).take ((q-p)*r.size)=(xs.drop (p*r.size)).take ((q-p)*r.size):=by
   have hcp:p*r.size<=cap*r.size:=abf _ (by omega);have WD:(cap-p)*r.size=cap*r.size-p*r.size:=Nat.sub_mul ..;unfold sliced;by_cases hc:cap=p
   .refine⟨o0,by rw[acU hc],by omega,?_⟩
    have:q=p:=by omega
    subst this;simp
   .refine⟨o0+p*r.size,by rw[acT hc,Option.map_some,bZ],by omega,?_⟩;rw[<-D4,List.drop_take,List.take_take,List.drop_drop]
    congr 1
    omega
  rw[mZ]at bq
  have Vd:∀k,bh (.slice (some ⟨g,o1,acP⟩) (q-p) (cap-p)) k->bh (.slice (some ⟨g,o0,acP⟩) l.length cap) k:=λk hk=>by simpa[bh,abu]using hk
  refine bH.val bq (qt hs bo ⟨λk hk=>wg k (Vd k hk),(xs.drop (p*r.size)).take ((q-p)*r.size),⟨by rw[Q3];simp;omega, .inr ⟨g,o1,cap-p,cur,by rw[Q3],r4,hh,by omega,by omega,WC,?_⟩⟩,λi hi=>?_⟩ λk hk=> .inl ⟨o,by simp,_,_,_,bW,NY,Vd k hk⟩)
  .rw[Q3];exact N0
  .have WE:i<q-p:=by omega
   have hle:(i+1)*r.size<=(q-p)*r.size:=abf _ WE;rw[abG]at hle;have:=hr (p+i) (by omega)
   have hg:((l.take q).drop p)[i]=l[p+i]'(by omega):=by simp
   rw[hg,List.drop_take,List.take_take,ab5 (by omega),List.drop_drop,show p*r.size+i*r.size=(p+i)*r.size from(abG ..).symm];exact this
theorem D5(dr:Bool)(T:aM P){rd:Operand->Option aj}(dG:∀x d,rd x=some d->ah H F w d (ev ρ x)){t:TypeId}{D:aj}{x:Operand}{lo hi:Option Operand}{k:c9->Option R}{q:R}(h:qw dr T rd ob n t D lo hi k=some q)(hs:aq U H F w ob n)(hx:ah H F w D (ev ρ x)):
 ∃e,k e=some q/\bO P U H F w ρ ob n ⟨some d, .slice t x lo hi acP,ty,pos,aft,acP⟩ e:=by
 unfold qw at h;split at h
 case h_2=>cases h
 rename_i e hu;have ht:=T.und_ok _ _ hu;split at h
 case h_2=>cases h
 rename_i re Q4;obtain⟨ti,z,h1,_,_,h4,_⟩:=T.row_ok _ _ Q4;split at h
 case h_2=>cases h
 rename_i a ha;split at h
 case h_2=>cases h
 rename_i b hb;have Qj:=Cn (w:=w) (H:=H) (F:=F) (ρ:=ρ) dG ha;have r4:=Cn (w:=w) (H:=H) (F:=F) (ρ:=ρ) dG hb
 have LF:∀{r:Row}{l m:List r.den},bT F w (.slice r) [ev ρ x] l->r.size=re.size->dX l (a.getD 0) (b.getD (l.length:Int))=some m->bO P U H F w ρ ob n ⟨some d, .slice t x lo hi acP,ty,pos,aft,acP⟩ {dst:= .val acR (.leaf (.slice r) m)}:=by
  intro r l m hv hz hm;obtain⟨p,q',ep,eq,KZ,hq,rfl⟩:=qj hm;have da:=hv;obtain⟨A,cap,he,hc,GD,_⟩:=hv;simp only[ab9,and_true]at he;have bq:=r7 (P:=P) (w:=w) (d:=d) (ty:=ty) (pos:=pos) (aft:=aft) ht h1 he Qj r4 (by omega) (by omega) (by omega) hc;rw[ep,eq,aa3,aa3,h4,<-hz]at bq;rw[he]at da;exact bm hs bq (az.lC (da.cut KZ hq))
 split at h
 .rename_i r l fq;obtain⟨hz,h⟩:=aB h;obtain⟨m,hm,hk⟩:=bind_some h;exact⟨_,hk,LF (fU hs fq hx) (beq_true hz) hm⟩
 .rename_i fq;obtain⟨m,hm,hk⟩:=bind_some h;have hv:ev ρ x=_:=fU hs fq hx;unfold dX at hm;split at hm
  case isFalse=>cases hm
  rename_i hc
  have ea:a.getD 0=0:=by have:=hc.2.1;have:=hc.2.2;simp at this;omega
  have eb:b.getD ((0:Nat):Int)=0:=by have:=hc.2.1;have:=hc.2.2;simp at this⊢;omega
  have bq:=r7 (P:=P) (w:=w) (d:=d) (ty:=ty) (pos:=pos) (aft:=aft) ht h1 hv Qj r4 (by omega) (by omega) (by omega) (aaX _);rw[ea,eb]at bq;exact⟨_,hk,bm hs bq ⟨_,rfl,rfl,λ_=>rfl⟩⟩
 .rename_i o s T0 r l fq;obtain⟨hv,bW,dm⟩:=fU hs fq hx
  cases Q5:(aaY r.size re.size&&aaY T0 e&&(lo.isNone||dr))with
  |true=>
   rw[Q5,cond_true]at h;obtain⟨Ah,hlo⟩:=bU Q5;obtain⟨Ag,hT⟩:=bU Ah;have NS:=beq_true Ag;obtain⟨m,hm,hk⟩:=bind_some h;exact⟨_,hk,D3 ht h1 (h4.trans NS.symm) rfl hs bW hv Qj r4 hm⟩
  |false=>
   rw[Q5,cond_false]at h;obtain⟨Ag,h'⟩:=aB h;clear h;have NS:=beq_true Ag;obtain⟨m,hm,hk⟩:=bind_some h';obtain⟨p,q',ep,eq,KZ,hq,rfl⟩:=qj hm;obtain⟨A,cap,he,hc,GD,_⟩:=dm.reads;have bq:=r7 (P:=P) (w:=w) (d:=d) (ty:=ty) (pos:=pos) (aft:=aft) ht h1 he Qj r4 (by omega) (by omega) (by omega) hc;rw[ep,eq,aa3,aa3,h4,<-NS]at bq;obtain⟨v',da,bP⟩:=hs.obj _ _ _ bW;refine⟨_,hk,bm hs bq ⟨_,⟨_,rfl,A,cap,T0,l,p,q',by rw[hv,he],bP.con,KZ,hq,rfl,rfl⟩,rfl,λ_=>rfl⟩⟩
 .cases h
noncomputable def LG(T:aM P)(ob:Nat->Option (Nat×Th))(o:BinOp)(t:TypeId)(X Y:aj):Option aj:=
 match X,Y with
 | .val acR (.leaf .bool a), .val acR (.leaf .bool b)=>match find T.und t with
   |some .bool=>match o with
    | .eql=>some (cZ (decide (a=b)))
    | .neq=>some (cZ (!decide (a=b)))
    |_=>acP
   |_=>acP
 | .val acR (.leaf .str a), .val acR (.leaf .str b)=>match o with
   | .eql=>some (cZ (decide (a=b)))
   | .neq=>some (cZ (!decide (a=b)))
   |_=>acP
 | .val acQ u, .val acQ v=>match find T.eqs t with
   |some r=>match flat ob r u with
    |some x=>match flat ob r v with
     |some y=>match o with
      | .eql=>some (cZ (lz r x y))
      | .neq=>some (cZ (!(lz r x y)))
      |_=>acP
     |none=>acP
    |none=>acP
   |none=>acP
 |_,_=>acP
theorem Jt(T:aM P){o:BinOp}{t u:TypeId}{X Y D:aj}{x y:Operand}(h:LG T ob o t X Y=some D)(hs:aq U H F w ob n)(hx:ah H F w X (ev ρ x))(hy:ah H F w Y (ev ρ y)):
 bO P U H F w ρ ob n ⟨some d, .binOp o t x y u,ty,pos,aft,acP⟩ {dst:=D}:=by
 unfold LG at h;split at h
 .rename_i a b;split at h
  case h_2=>cases h
  rename_i hu;have hu:=T.und_ok _ _ hu;have ha:ev ρ x= .bool a:=az.bool hx;have hb:ev ρ y= .bool b:=az.bool hy
  split at h<;>cases h
  .exact aF hs (Dr hu ha hb) (az.dY ..)
  .exact aF hs (Ds hu ha hb) (az.dY ..)
 .rename_i a b;have ha:ev ρ x= .string a:=az.str hx;have hb:ev ρ y= .string b:=az.str hy
  split at h<;>cases h
  .exact aF hs (Dt ha hb) (az.dY ..)
  .exact aF hs (Du ha hb) (az.dY ..)
 .rename_i u v;split at h
  case h_2=>cases h
  rename_i r hr;obtain⟨K,dd,hE,hd,hg,hD⟩:=T.eqs_ok _ _ hr;split at h
  case h_2=>cases h
  rename_i a ha;split at h
  case h_2=>cases h
  rename_i b hb;obtain⟨c1,g1,e1,_⟩:=hx;obtain⟨c2,g2,e2,_⟩:=hy;have r1:=eT hs ha g1;have r2:=eT hs hb g2
  split at h<;>cases h
  .exact aF hs (DH hE hd hg hD e1 e2 r1 r2) (az.dY ..)
  .exact aF hs (DJ hE hd hg hD e1 e2 r1 r2) (az.dY ..)
 .cases h
def LH(a b:ByteArray):Option ByteArray:=if a.size+b.size<=9223372036854775807 then some (a++b)else acP
def AF(o:BinOp)(X Y:aj):Option (ByteArray×ByteArray):=
 match o,X,Y with
 | .add, .val acR (.leaf .str a), .val acR (.leaf .str b)=>some (a,b)
 |_,_,_=>acP
theorem LI{t u:TypeId}{o:BinOp}{X Y:aj}{x y:Operand}{a b c:ByteArray}(h:AF o X Y=some (a,b))(hc:LH a b=some c)(hs:aq U H F w ob n)(hx:ah H F w X (ev ρ x))(hy:ah H F w Y (ev ρ y)):
 bO P U H F w ρ ob n ⟨some d, .binOp o t x y u,ty,pos,aft,acP⟩ {dst:= .val acR (.leaf .str c)}:=by
 unfold AF at h
 split at h<;>cases h
 unfold LH at hc;split at hc
 case isFalse=>cases hc
 rename_i hle;obtain rfl:=aaT hc;have ha:ev ρ x= .string a:=az.str hx;have hb:ev ρ y= .string b:=az.str hy;refine bm hs (v:= .string (a++b)) ?_ (az.lC rfl)
 have:¬(9223372036854775807:Int)<(a.size:Int)+(b.size:Int):=by omega
 simp[execOp,eqGuard,binOp,Op.stringOp,ha,hb,IntKind.max,IntKind.signed,IntKind.bits,this]
noncomputable def D6(T:aM P)(ob:Nat->Option (Nat×Th))(o:BinOp)(t:TypeId)(lit:Bool)(X Y:aj)(k:c9->Option R):Option R:=
 match asInt X with
 |some (kx,a)=>match asInt Y with
  |some (ky,b)=>match o with
   | .shl=>bif lit then(bif !decide (b<0)then k {dst:=kG kx (Gr kx a b)}else acP)else(rP kx a b).bind λc=>k {dst:=kG kx c}
   | .shr=>bif lit then(bif !decide (b<0)then k {dst:=kG kx (cd kx a b)}else acP)else(DQ kx a b).bind λc=>k {dst:=kG kx c}
   |o=>bif decide (kx=ky)then
    (match o with
    | .quo=>bif lit then(bif decide (b≠0)then k {dst:=kG kx (kx.wrap (ab7 a b))}else acP)else(NN a b).bind λc=>k {dst:=kG kx (kx.wrap c)}
    | .rem=>bif lit then(bif decide (b≠0)then k {dst:=kG kx (acu a b)}else acP)else(NO a b).bind λc=>k {dst:=kG kx c}
    |_=>match arith o kx a b with
     |some D=>k {dst:=D}
     |none=>acP)else acP
  |none=>acP
 |none=>match AF o X Y with
  |some (a,b)=>(LH a b).bind λc=>k {dst:= .val acR (.leaf .str c)}
  |none=>match LG T ob o t X Y with
   |some D=>k {dst:=D}
   |none=>acP
theorem Ju(T:aM P){o:BinOp}{t u:TypeId}{lit:Bool}{X Y:aj}{x y:Operand}{k:c9->Option R}{q:R}(h:D6 T ob o t lit X Y k=some q)(hs:aq U H F w ob n)(hx:ah H F w X (ev ρ x))(hy:ah H F w Y (ev ρ y)):
 ∃e,k e=some q/\bO P U H F w ρ ob n ⟨some d, .binOp o t x y u,ty,pos,aft,acP⟩ e:=by
 unfold D6 at h;split at h
 .rename_i kx a hX;split at h
  case h_2=>cases h
  rename_i ky b hY;have ha:=fG hX hx;have hb:=fG hY hy;split at h
  .cases lit with
   |true=>
    rw[cond_true]at h;obtain⟨cA,h⟩:=aB h;exact⟨_,h,aF hs (xT ha hb (by simpa using cA)) (az.hU ..)⟩
   |false=>
    rw[cond_false]at h;obtain⟨c,hc,h⟩:=bind_some h;unfold rP at hc;split at hc
    .cases hc
    .rename_i cA;obtain rfl:=aaT hc;exact⟨_,h,aF hs (xT ha hb cA) (az.hU ..)⟩
  .cases lit with
   |true=>
    rw[cond_true]at h;obtain⟨cA,h⟩:=aB h;exact⟨_,h,aF hs (xU ha hb (by simpa using cA)) (az.hU ..)⟩
   |false=>
    rw[cond_false]at h;obtain⟨c,hc,h⟩:=bind_some h;unfold DQ at hc;split at hc
    .cases hc
    .rename_i cA;obtain rfl:=aaT hc;exact⟨_,h,aF hs (xU ha hb cA) (az.hU ..)⟩
  obtain⟨hk,h'⟩:=aB h;clear h;have hk:=acV hk;subst hk;revert h';intro h;split at h
  .cases lit with
   |true=>
    rw[cond_true]at h;obtain⟨cA,h⟩:=aB h;exact⟨_,h,Gu (acV cA) hs ha hb⟩
   |false=>
    rw[cond_false]at h;obtain⟨c,hc,h⟩:=bind_some h;unfold NN at hc;split at hc
    .cases hc
    .rename_i cA;obtain rfl:=aaT hc;exact⟨_,h,Gu cA hs ha hb⟩
  .cases lit with
   |true=>
    rw[cond_true]at h;obtain⟨cA,h⟩:=aB h;exact⟨_,h,Gv (acV cA) hs ha hb⟩
   |false=>
    rw[cond_false]at h;obtain⟨c,hc,h⟩:=bind_some h;unfold NO at hc;split at hc
    .cases hc
    .rename_i cA;obtain rfl:=aaT hc;exact⟨_,h,Gv cA hs ha hb⟩
  .split at h
   case h_2=>cases h
   rename_i D hD;exact⟨_,h,Gt hD hs ha hb⟩
 .split at h
  .rename_i a b Q0;obtain⟨c,hc,h⟩:=bind_some h;exact⟨_,h,LI Q0 hc hs hx hy⟩
  .split at h
   case h_2=>cases h
   rename_i D hD;exact⟨_,h,Jt T hD hs hx hy⟩
def Q6(o:UnOp)(X:aj):Option aj:=
 match o with
 | .not=>match asBool X with
   |some b=>some (cZ (!b))
   |none=>acP
 | .neg=>match asInt X with
   |some (k,a)=>some (kG k (k.wrap (0-a)))
   |none=>acP
 |_=>acP
theorem LJ{o:UnOp}{t:TypeId}{X D:aj}{x:Operand}(h:Q6 o X=some D)(hs:aq U H F w ob n)(hx:ah H F w X (ev ρ x)):
 bO P U H F w ρ ob n ⟨some d, .unOp o t x,ty,pos,aft,acP⟩ {dst:=D}:=by
 unfold Q6 at h;split at h
 .split at h<;>cases h
  rename_i b hb;exact aF hs (F8 (lD hb hx)) (az.dY ..)
 .split at h<;>cases h
  rename_i k a ha;exact aF hs (F9 (fG ha hx)) (az.hU ..)
 .cases h
def GF(T:aM P)(s t:TypeId)(X:aj):Option aj:=
 match find T.und s with
 |some _=>match find T.und t with
  |some (.int k)=>match asInt X with
   |some (_,a)=>some (kG k (k.wrap a))
   |none=>acP
  |some .str=>match xR X with
   |some a=>some (QX a)
   |none=>acP
  |_=>acP
 |none=>acP
theorem GG(T:aM P){s t:TypeId}{X D:aj}{x:Operand}(h:GF T s t X=some D)(hs:aq U H F w ob n)(hx:ah H F w X (ev ρ x)):
 bO P U H F w ρ ob n ⟨some d, .convert s t x,ty,pos,aft,acP⟩ {dst:=D}:=by
 unfold GF at h;split at h
 case h_2=>cases h
 rename_i ks WG;obtain⟨dd,ur,_⟩:=(T.und_ok _ _ WG).agg;split at h
 .rename_i k Q7
  split at h<;>cases h
  rename_i k' a ha;exact aF hs (Dv ur (T.und_ok _ _ Q7) (fG ha hx)) (az.hU ..)
 .rename_i Q7
  split at h<;>cases h
  rename_i a ha;have hv:=sK ha hx;have Q8:P.underlying t=some .string:=T.und_ok _ _ Q7;refine bm hs (v:= .string a) ?_ (az.mkStr ..);simp[execOp,convert,run_underlying ur,run_underlying Q8,hv]
 .cases h
def sT(D:aj)(i:Nat):Option aj:=
 match D with
 | .tup ds=>match ds[i]? with
   |some (a,t)=>some (.val a t)
   |none=>acP
 |_=>acP
theorem pA.get:{ds:List (Bool×Tree)}->{vs:List Value}->{i:Nat}->{a:Bool}->{t:Tree}->pA H F w ds vs->ds[i]? =some (a,t)->∃v,vs[i]? =some v/\az H F w a t v
 |[],_,_,_,_,_,h=>by cases h
 |d::ds,_,0,a,t,hh,h=>by
  obtain⟨v,us,rfl,h1,h2⟩:=hh
  obtain rfl:d=(a,t):=by simpa using h
  exact⟨v,rfl,h1⟩
 |d::ds,_,i+1,a,t,hh,h=>by
  obtain⟨v,us,rfl,h1,h2⟩:=hh;obtain⟨v',e,hv⟩:=pA.get h2 (by simpa using h);exact⟨v',by simpa using e,hv⟩
theorem yd{D D':aj}{i:Nat}{x:Operand}(h:sT D i=some D')(hs:aq U H F w ob n)(hx:ah H F w D (ev ρ x)):
 bO P U H F w ρ ob n ⟨some d, .extract x i,ty,pos,aft,acP⟩ {dst:=D'}:=by
 unfold sT at h;split at h
 case h_2=>cases h
 split at h<;>cases h
 rename_i ds a t hd;obtain⟨vs,e,ht⟩:=hx;obtain⟨v,hv,kz⟩:=ht.get hd;exact aF hs (wc e (by simpa using hv)) kz
def sf(mx:Bool)(X Y:aj):Option aj:=
 match asInt X,asInt Y with
 |some (k,a),some (k',b)=>bif decide (k=k')then some (kG k (bif mx then(if a<b then b else a)else(if b<a then b else a)))else acP
 |_,_=>acP
theorem sU{mx:Bool}{t t':TypeId}{X Y D:aj}{x y:Operand}(h:sf mx X Y=some D)(hs:aq U H F w ob n)(hx:ah H F w X (ev ρ x))(hy:ah H F w Y (ev ρ y)):
 bO P U H F w ρ ob n ⟨some d, .call {callee:= .builtin (bif mx then .max else .min),args:= #[x,y],argTypes:= #[t,t']},ty,pos,aft,acP⟩ {dst:=D}:=by
 unfold sf at h;split at h
 case h_2=>cases h
 rename_i k a k' b ha hb;obtain⟨hk,h'⟩:=aB h;clear h;have hk:=acV hk;subst hk;obtain rfl:=aaT h';have ha:=fG ha hx;have hb:=fG hb hy
 cases mx with
 |true=>exact aF hs (Dx ha hb) (az.hU ..)
 |false=>exact aF hs (Dy ha hb) (az.hU ..)
theorem D7{D:aj}{x:Operand}(hs:aq U H F w ob n)(hx:ah H F w D (ev ρ x)):bO P U H F w ρ ob n ⟨some d, .move x,ty,pos,aft,acP⟩ {dst:=D}:=aF hs (Dq rfl) hx
theorem ye{D:aj}{x:Operand}(hs:aq U H F w ob n)(hx:ah H F w D (ev ρ x)):bO P U H F w ρ ob n ⟨some d, .assign x,ty,pos,aft,acP⟩ {dst:=D}:=aF hs (xN rfl) hx
def wq(T:aM P)(t:TypeId)(f:Nat)(X:aj):Option aj:=
 match find T.und t with
 |some (.struct fs)=>match fs[f]? with
  |some (ft,off)=>match find T.und ft with
   |some kk=>match X with
    | .val acQ u=>match u.get (pB fs.length f)with
      |some (s,cV)=>bif aaY cV off&&kH T ft kk s.size then some (.val (ir kk) s)else acP
      |none=>acP
    |_=>acP
   |none=>acP
  |none=>acP
 |_=>acP
theorem AG(T:aM P){t:TypeId}{f:Nat}{X D:aj}{x:Operand}(h:wq T t f X=some D)(hs:aq U H F w ob n)(hx:ah H F w X (ev ρ x)):
 bO P U H F w ρ ob n ⟨some d, .field t x f,ty,pos,aft,acP⟩ {dst:=D}:=by
 unfold wq at h;split at h
 case h_2=>cases h
 rename_i fs hu;obtain⟨arr,FE,Jo⟩:=T.und_ok _ _ hu;split at h
 case h_2=>cases h
 rename_i ft off hf;obtain⟨fd,Nf,rfl,rfl⟩:=xW Jo hf;split at h
 case h_2=>cases h
 rename_i kk WH;obtain⟨dd,ur,ul⟩:=(T.und_ok _ _ WH).agg;split at h
 case h_2=>cases h
 rename_i u;split at h
 case h_2=>cases h
 rename_i s cV hg;obtain⟨hb,rfl⟩:=pC h;obtain⟨FF,Ng⟩:=bU hb;obtain rfl:=beq_true FF;have hz:=hZ T Ng;obtain⟨cs,oN,e,_⟩:=hx;obtain⟨g1,g2⟩:=oN.get hg;have hl:=g1.length;have e':ev ρ x= .agg cs.toArray:=e
 have N1:∃v,(part fd.type cs.toArray fd.offset).run P w= .ok v w/\az H F w (ir kk) s v:=by
  cases ha:ir kk with
  |true=>
   rw[acU ha]at hz;obtain⟨r,hr,I3⟩:=hz;obtain⟨ti,z,h1,_,_,h4,_⟩:=T.row_ok _ _ hr;refine⟨.agg ((cs.drop fd.offset).take s.size).toArray,?_,_,g1,rfl,by simp⟩;unfold part;rw[abp,dK ur,ul,ha];simp[sizeOf,typeInfo,h1,h4,I3]
  |false=>
   rw[acT (by simp[ha])]at hz
   have ag:fd.offset<cs.length:=by omega
   refine⟨cs[fd.offset],?_,_,g1,?_,λ_=>?_⟩
   .unfold part;rw[abp,dK ur,ul,ha];simp[ag]
   .rw[hz,List.take_one,List.head?_drop,aaW ag];rfl
   .rw[hz,List.take_one,List.head?_drop,aaW ag];rfl
 obtain⟨v,hv,kz⟩:=N1;refine bm hs (v:=v) ?_ kz;simp[execOp,Instr.field,run_underlying FE,Nf,e',asAgg,hv]
end
end
section
open Go Go.RowKit Go.MapKept
noncomputable def bn{α:Type}(K:Row):List (K.den×α)->K.den->Option α
 |[],_=>acP
 |p::l,k=>if b9 K p.1 k=acQ then some p.2 else bn K l k
noncomputable def lH{α:Type}(K:Row):List (K.den×α)->K.den->α->List (K.den×α)
 |[],k,v=>[(k,v)]
 |p::l,k,v=>if b9 K p.1 k=acQ then(p.1,v)::l else p::lH K l k v
theorem fV{K:Row}{a b:K.den}{u v:Value}(ha:il K a=some u)(hb:il K b=some v):b9 K a b=acQ↔u=v:=by
 unfold il at ha
 split at ha<;>first|cases ha|skip
 all_goals
  simp only[il,aa1]at hb;subst hb;simp[b9]
def yf{P:Program}(T:aM P)(kt:TypeId):Row->Bool
 | .int k=>match find T.und kt with
   |some (.int k')=>decide (k=k')
   |_=>acR
 | .bool=>match find T.und kt with
   |some .bool=>acQ
   |_=>acR
 | .str=>match find T.und kt with
   |some .str=>acQ
   |_=>acR
 |_=>acR
section
variable {P:Program} {ρ:Nat->Value} {w w':World} {H H':an} {F F':Nat->Prop} {U:Nat->Prop} {ob:Nat->Option (Nat×Th)} {n:Nat} {R:Type}
variable {op:Op} {ty:TypeId} {pos:String} {aft:Array Edge} {d:Nat}
theorem sV(T:aM P){kt:TypeId}{K:Row}(h:yf T kt K=acQ):∃d,P.underlying kt=some d/\(∀x v,il K x=some v->IsKey d v)/\(∀x v,bT F w K [v] x->il K x=some v):=by
 unfold yf at h;split at h
 .split at h
  .rename_i k _ k' hu;obtain rfl:=acV h;refine⟨_,T.und_ok _ _ hu,λx v hx=>?_,λx v hr=>?_⟩
   .obtain rfl:=aaT hx;rfl
   .have Cf:[v]=[abQ k x]:=hr;simp only[ab9,and_true]at Cf;rw[Cf];rfl
  .cases h
 .split at h
  .rename_i hu;refine⟨_,T.und_ok _ _ hu,λx v hx=>?_,λx v hr=>?_⟩
   .obtain rfl:=aaT hx;trivial
   .have Cf:[v]=[Value.bool x]:=hr;simp only[ab9,and_true]at Cf;rw[Cf];rfl
  .cases h
 .split at h
  .rename_i hu;refine⟨_,T.und_ok _ _ hu,λx v hx=>?_,λx v hr=>?_⟩
   .obtain rfl:=aaT hx;trivial
   .have Cf:[v]=[Value.string x]:=hr;simp only[ab9,and_true]at Cf;rw[Cf];rfl
  .cases h
 .cases h
theorem qx{K:Row}{agg:Bool}{V:Row}{dd:TypeDesc}{x:K.den}{kv:Value}(hK:∀x v,il K x=some v->IsKey dd v)(hx:il K x=some kv):{es:List MapEntry}->{l:List (K.den×V.den)}->(i:Nat)->eh H F w K agg V es l->
 (abV dd kv es i=some acP/\bn K l x=acP/\(∀e∈es,e.key≠kv)/\∀H' F' w' y(e:MapEntry),e.key=kv->H.le H'->Step F w F' w'->az H' F' w' agg (.leaf V y) e.val->eh H' F' w' K agg V (es++[e]) (lH K l x y))\/
 ∃j e y,abV dd kv es i=some (some (i+j,e.val))/\es[j]? =some e/\e.key=kv/\bn K l x=some y/\az H F w agg (.leaf V y) e.val/\
  ∀H' F' w' y(f:MapEntry->MapEntry),(f e).key=kv->H.le H'->Step F w F' w'->az H' F' w' agg (.leaf V y) (f e).val->eh H' F' w' K agg V (es.modify j f) (lH K l x y)
 |[],l,i,h=>by
  obtain rfl:l=[]:=h;refine .inl ⟨rfl,rfl,by simp,λH' F' w' y e he hH hs hv=>⟨x,y,[],rfl,by rw[he];exact hx,hv,rfl⟩⟩
 |e::es,l,i,h=>by
  obtain⟨k,y,l',rfl,h1,h2,h3⟩:=h;obtain⟨r,hr,GH⟩:=sameNow_of_keys (hK x kv hx) (hK k _ h1);have DN:=fV h1 hx
  cases r with
  |true=>
   have Q9:kv=e.key:=GH.1 rfl;have hq:b9 K k x=acQ:=DN.2 Q9.symm;refine .inr ⟨0,e,y,by simp[abV,hr],rfl,Q9.symm,by simp[bn,hq],h2,λH' F' w' y' f hf hH hs hv=>?_⟩;refine⟨k,y',l',by simp[lH,hq],?_,hv,h3.keep hH hs⟩
   show il K k=some (f e).key
   rw[hf,h1,Q9]
  |false=>
   have cA:¬e.key=kv:=λq=>by have:=GH.2 q.symm;cases this
   have hq:¬b9 K k x=acQ:=λq=>cA (DN.1 q)
   rcases qx hK hx (i+1) h3 with⟨a1,a2,a3,a4⟩|⟨j,e',z,a1,a2,a3,a4,a5,a6⟩
   .refine .inl ⟨by simp[abV,hr,a1],by simp[bn,hq,a2],λe' he'=>?_,λH' F' w' y' e' he' hH hs hv=>?_⟩
    .rcases aa7.1 he' with rfl|he'
     .exact cA
     .exact a3 e' he'
    .exact⟨k,y,_,by simp[lH,hq],h1,h2.keep hH hs,a4 H' F' w' y' e' he' hH hs hv⟩
   .refine .inr ⟨j+1,e',z,by simp[abV,hr,a1];omega,by simpa using a2,a3,by simp[bn,hq,a4],a5,λH' F' w' y' f hf hH hs hv=>?_⟩;refine⟨k,y,_,by simp[lH,hq],?_,?_,a6 H' F' w' y' f hf hH hs hv⟩
    .exact h1
    .exact h2.keep hH hs
noncomputable def asKey(ob:Nat->Option (Nat×Th))(K:Row):aj->Option K.den
 | .val acR t=>flat ob K t
 |_=>acP
theorem sW(hs:aq U H F w ob n){K:Row}{D:aj}{x:K.den}{v:Value}(h:asKey ob K D=some x)(hd:ah H F w D v):bT F w K [v] x:=by
 unfold asKey at h;split at h
 .obtain⟨cs,h1,_,h3⟩:=hd;rw[h3 rfl]at h1;exact eT hs h h1
 .cases h
def Co(ob:Nat->Option (Nat×Th)):aj->Option (Nat×Nat×Th)
 | .val acR (.own o)=>match ob o with
   |some (s, .map T K agg V l)=>some (o,s, .map T K agg V l)
   |_=>acP
 |_=>acP
theorem yg(hs:aq U H F w ob n){D:aj}{o s:Nat}{t:Th}{v:Value}(h:Co ob D=some (o,s,t))(hd:ah H F w D v):∃T K agg V l b es clock,t= .map T K agg V l/\ob o=some (s,t)/\H.val o=some v/\v= .map (some b)/\
 w.heap[b]? =some (.map es clock)/\Stamped es clock/\eh H F w K agg V es.toList l:=by
 unfold Co at h;split at h
 .rename_i o';split at h
  .rename_i s' T K agg V l bW;simp only[aa1,abU]at h;obtain⟨rfl,rfl,rfl⟩:=h;obtain⟨cs,⟨u,hu,_,e⟩,_,h3⟩:=hd;rw[h3 rfl]at e
   obtain rfl:v=u:=by simpa using e
   obtain⟨v',da,bP⟩:=hs.obj _ _ _ bW;rw[hu]at da;obtain rfl:=aaT da;obtain⟨b,es,clock,e,h1,h2,h3⟩:=bP.ok;exact⟨T,K,agg,V,l,b,es,clock,rfl,bW,hu,e,h1,h2,h3⟩
  .cases h
 .cases h
def lI(T:aM P)(n:Nat)(t:TypeId)(k:c9->Option R):Option R:=
 match find T.und t with
 |some (.map kt vt)=>match find T.row kt with
  |some K=>match find T.row vt with
   |some V=>match find T.und vt with
    |some kk=>k {dst:= .val acR (.own n),make:=[(n,(n, .map t K (ir kk) V []))]}
    |none=>acP
   |none=>acP
  |none=>acP
 |_=>acP
theorem yh(T:aM P){t:TypeId}{k:c9->Option R}{q:R}(h:lI T n t k=some q)(hs:aq U H F w ob n):
 ∃e,k e=some q/\bO P U H F w ρ ob n ⟨some d, .makeMap t acP,ty,pos,aft,acP⟩ e:=by
 unfold lI at h;split at h
 case h_2=>cases h
 split at h
 case h_2=>cases h
 rename_i K _;split at h
 case h_2=>cases h
 rename_i V _;split at h
 case h_2=>cases h
 rename_i kk _
 have bq:(execOp (ev ρ) ⟨some d, .makeMap t acP,ty,pos,aft,acP⟩).run P w= .ok (.value (.map (some w.heap.size))) (w.alloc (.map #[] 0)):=by
  simp[execOp,Instr.makeMap,abc]
 refine⟨_,h,bH.val bq ?_⟩
 have hv:((H.ba n (.map t K (ir kk) V [])).bX n (.map (some w.heap.size))).val n=some (.map (some w.heap.size)):=by simp[an.bX]
 refine jV.new (v0:= .map (some w.heap.size)) hs rfl rfl (lF _) ⟨_, #[],0,rfl,(heap_alloc w _).1,stamped_empty 0,rfl⟩ (λk hk=>?_) (k0 hv rfl);simp only[fp,Value.map.injEq,aa1]at hk;subst hk;exact⟨λe=>by have:=hs.lt _ e;omega,by simp, .inl (aaX _)⟩
noncomputable def je(T:aM P)(ob:Nat->Option (Nat×Th))(n:Nat)(t:TypeId)(M X Y:aj)(k:c9->Option R):Option R:=
 match find T.und t with
 |some (.map kt _)=>match Co ob M with
  |some (o,_, .map T0 K agg V l)=>bif yf T kt K then(match asKey ob K X with
   |some x=>match Y with
    | .val dq tr=>bif (bif agg then dq else !dq)then(match flat ob V tr with
      |some y=>k {dst:= .dead,eat:=[o],make:=[(o,(n, .map T0 K agg V (lH K l x y)))]}
      |none=>acP)else acP
    |_=>acP
   |none=>acP)else acP
  |_=>acP
 |_=>acP
theorem qy{LK kt et:TypeId}{dd:TypeDesc}{b clock:Nat}{es:Array MapEntry}{key val:Value}(hm:P.underlying LK=some (.map kt et))(hd:P.underlying kt=some dd)(hb:w.heap[b]? =some (.map es clock))(hk:IsKey dd key):
 (abV dd key es.toList 0=some acP->(acd LK (.map (some b)) key val).run P w= .ok () {w with heap:=w.heap.setIfInBounds b (.map (es.push {key,val,born:=clock}) (clock+1))})/\
 (∀j e,abV dd key es.toList 0=some (some (j,e))->((es[j]?).map (·.key)).getD key=key->(acd LK (.map (some b)) key val).run P w= .ok () {w with heap:=w.heap.setIfInBounds b (.map (es.modify j λe=>{e with key,val}) clock)}):=by
 refine⟨λh1=>?_,λj e h1 h2=>?_⟩
 .simp[acd,run_underlying hm,abL hb,ace hd hk,acm hd h1,acj _ hb,abc]
 .simp[acd,run_underlying hm,abL hb,ace hd hk,acm hd h1,h2,run_keyThatStays hk,acj _ hb,abc]
theorem uw(T:aM P){t:TypeId}{M X Y:aj}{m x y:Operand}{k:c9->Option R}{q:R}(h:je T ob n t M X Y k=some q)(hs:aq U H F w ob n)(hm:ah H F w M (ev ρ m))(hx:ah H F w X (ev ρ x))(hy:ah H F w Y (ev ρ y)):
 ∃e,k e=some q/\bO P U H F w ρ ob n ⟨acP, .mapUpdate t m x y,ty,pos,aft,acP⟩ e:=by
 unfold je at h;split at h
 case h_2=>cases h
 rename_i kt vt hu;split at h
 case h_2=>cases h
 rename_i o s T0 K agg V l pF;obtain⟨hk,h'⟩:=aB h;clear h;split at h'
 case h_2=>cases h'
 rename_i a ha;split at h'
 case h_2=>cases h'
 rename_i dq tr;obtain⟨oT,h⟩:=aB h';clear h'
 have oT:agg=dq:=by cases agg<;>cases dq<;>simp_all
 subst oT;split at h
 case h_2=>cases h
 rename_i b hb;refine⟨_,h,?_⟩;obtain⟨dd,hd,hK,hR⟩:=sV (F:=F) (w:=w) T hk;obtain⟨T1,K1,Ra,V1,l1,r,es,clock,e0,bW,hv,lu,hh,dW,qz⟩:=yg hs pF hm;cases e0;have lJ:=hR _ _ (sW hs ha hx)
 have mZ:az H F w agg (.leaf V b) (ev ρ y):=by
  obtain⟨cs,h1,h2⟩:=hy;exact⟨cs,eT hs hb h1,h2⟩
 have Rb:r<w.heap.size:=(abx.1 hh).1
 have fin:∀o',(acd t (.map (some r)) (ev ρ x) (ev ρ y)).run P w= .ok () {w with heap:=w.heap.setIfInBounds r o'}->
  (∀w',(∀k,k≠r->w'.heap[k]? =w.heap[k]?)->∃jE lv,o'= .map jE lv/\Stamped jE lv/\eh (H.ba n (.map T0 K agg V (lH K l a b))) F w' K agg V jE.toList (lH K l a b))->
  bO P U H F w ρ ob n ⟨acP, .mapUpdate t m x y,ty,pos,aft,acP⟩ {dst:= .dead,eat:=[o],make:=[(o,(n, .map T0 K agg V (lH K l a b)))]}:=by
  intro o' bq GI;refine bH.unit (w':={w with heap:=w.heap.setIfInBounds r o'}) ?_ ?_
  .simp[execOp,lu,bq,abc]
  .have jf:∀k,k≠r->(w.heap.setIfInBounds r o')[k]? =w.heap[k]? :=(heap_set hh).2;obtain⟨jE,lv,rfl,g1,g2⟩:=GI {w with heap:=w.heap.setIfInBounds r o'} jf;refine jV.r9 (t':= .map T0 K agg V (lH K l a b)) (w':={w with heap:=w.heap.setIfInBounds r (.map jE lv)}) hs bW hv rfl (λk hk=>hk) ⟨rfl,⟨rfl,aaX _⟩,rfl,by simp,λk hk hn=>jf k λe=>hn (by subst e;exact lu)⟩ ⟨r,jE,lv,lu,(heap_set hh).1,g1,g2⟩ trivial
 have yi:H.le (H.ba n (.map T0 K agg V (lH K l a b))):=an.ew (hs.fresh n (aaX _) (by omega)).2
 have cY:∀w':World,(∀k,k≠r->w'.heap[k]? =w.heap[k]?)->Step F w F w':=by
  intro w' hw b hb;refine⟨hb,hw b λe=>?_⟩;subst e;obtain⟨v',da,bP⟩:=hs.obj _ _ _ bW;rw[hv]at da;obtain rfl:=aaT da;exact bP.no b lu hb
 obtain⟨r1,r2⟩:=qy (val:=ev ρ y) (T.und_ok _ _ hu) hd hh (hK _ _ lJ)
 rcases qx hK lJ 0 qz with⟨a1,a2,a3,a4⟩|⟨j,e,z,a1,a2,a3,a4,a5,a6⟩
 .refine fin _ (r1 a1) λw' hw=>⟨_,_,rfl,stamped_push dW a3,?_⟩
  rw[Array.toList_push];exact a4 _ F w' b _ rfl yi (cY w' hw) (mZ.keep yi (cY w' hw))
 .rw[aby]at a1
  have hj:es[j]? =some e:=by simpa using a2
  refine fin _ (r2 j _ a1 (by rw[hj];exact a3)) λw' hw=>⟨_,_,rfl,stamped_modify dW _ _ (λ_ _=>rfl) (λe' _ he'=>?_),?_⟩
  .rw[hj]at he';cases he';exact a3.symm
  .rw[Array.toList_modify];exact a6 _ F w' b _ rfl yi (cY w' hw) (mZ.keep yi (cY w' hw))
noncomputable def mN{α:Type}(K:Row):List (K.den×α)->K.den->List (K.den×α)
 |[],_=>[]
 |p::l,k=>if b9 K p.1 k=acQ then l else p::mN K l k
theorem vb{K:Row}{agg:Bool}{V:Row}{dd:TypeDesc}{x:K.den}{kv:Value}(hK:∀x v,il K x=some v->IsKey dd v)(hx:il K x=some kv):{es:List MapEntry}->{l:List (K.den×V.den)}->(i:Nat)->eh H F w K agg V es l->
 (abV dd kv es i=some acP/\mN K l x=l)\/
 ∃(j:Nat)(e:MapEntry),abV dd kv es i=some (some (i+j,e.val))/\j<es.length/\∀H' F' w',H.le H'->Step F w F' w'->eh H' F' w' K agg V (es.eraseIdx j) (mN K l x)
 |[],l,i,h=>by
  obtain rfl:l=[]:=h;exact .inl ⟨rfl,rfl⟩
 |e::es,l,i,h=>by
  obtain⟨k,y,l',rfl,h1,h2,h3⟩:=h;obtain⟨r,hr,GH⟩:=sameNow_of_keys (hK x kv hx) (hK k _ h1);have DN:=fV h1 hx
  cases r with
  |true=>
   have hq:b9 K k x=acQ:=DN.2 (GH.1 rfl).symm;exact .inr ⟨0,e,by simp[abV,hr],by simp,λH' F' w' hH hs=>by simpa[mN,hq]using h3.keep hH hs⟩
  |false=>
   have hq:¬b9 K k x=acQ:=λq=>by have:=GH.2 (DN.1 q).symm;cases this
   rcases vb hK hx (i+1) h3 with⟨a1,a2⟩|⟨j,e',a1,a2,a3⟩
   .exact .inl ⟨by simp[abV,hr,a1],by simp[mN,hq,a2]⟩
   .exact .inr ⟨j+1,e',by simp[abV,hr,a1];omega,by simpa using a2,λH' F' w' hH hs=>⟨k,y,_,by simp[mN,hq],h1,h2.keep hH hs,a3 H' F' w' hH hs⟩⟩
noncomputable def nT(T:aM P)(ob:Nat->Option (Nat×Th))(n:Nat)(t:TypeId)(M X:aj)(k:c9->Option R):Option R:=
 match find T.und t with
 |some (.map kt _)=>match Co ob M with
  |some (o,_, .map T0 K agg V l)=>bif yf T kt K then(match asKey ob K X with
   |some x=>k {dst:= .dead,eat:=[o],make:=[(o,(n, .map T0 K agg V (mN K l x)))]}
   |none=>acP)else acP
  |_=>acP
 |_=>acP
theorem AH(T:aM P){t t':TypeId}{M X:aj}{m x:Operand}{k:c9->Option R}{q:R}{dst:Option Nat}(h:nT T ob n t M X k=some q)(hs:aq U H F w ob n)(hm:ah H F w M (ev ρ m))(hx:ah H F w X (ev ρ x)):
 ∃e,k e=some q/\bO P U H F w ρ ob n ⟨dst, .call {callee:= .builtin .delete,args:= #[m,x],argTypes:= #[t,t']},ty,pos,aft,acP⟩ e:=by
 unfold nT at h;split at h
 case h_2=>cases h
 rename_i kt vt hu;split at h
 case h_2=>cases h
 rename_i o s T0 K agg V l pF;obtain⟨hk,h'⟩:=aB h;clear h;split at h'
 case h_2=>cases h'
 rename_i a ha;refine⟨_,h',?_⟩;obtain⟨dd,hd,hK,hR⟩:=sV (F:=F) (w:=w) T hk;obtain⟨T1,K1,Ra,V1,l1,r,es,clock,e0,bW,hv,lu,hh,dW,qz⟩:=yg hs pF hm;cases e0;have lJ:=hR _ _ (sW hs ha hx);have yi:H.le (H.ba n (.map T0 K agg V (mN K l a))):=an.ew (hs.fresh n (aaX _) (by omega)).2
 have fin:∀jE,(Builtin.delete_ #[t,t'] ty #[.map (some r),ev ρ x]).run P w= .ok (.tuple #[]) {w with heap:=w.heap.setIfInBounds r (.map jE clock)}->Stamped jE clock->
  (∀w',Step F w F w'->eh (H.ba n (.map T0 K agg V (mN K l a))) F w' K agg V jE.toList (mN K l a))->
  bO P U H F w ρ ob n ⟨dst, .call {callee:= .builtin .delete,args:= #[m,x],argTypes:= #[t,t']},ty,pos,aft,acP⟩ {dst:= .dead,eat:=[o],make:=[(o,(n, .map T0 K agg V (mN K l a)))]}:=by
  intro jE bq LL GI;have jf:∀k,k≠r->(w.heap.setIfInBounds r (.map jE clock))[k]? =w.heap[k]? :=(heap_set hh).2;refine bH.val (v:= .tuple #[]) (w':={w with heap:=w.heap.setIfInBounds r (.map jE clock)}) (by simp[execOp,resolve,invoke,builtin,lu,bq,abc]) ?_;refine jV.r9 (t':= .map T0 K agg V (mN K l a)) (w':={w with heap:=w.heap.setIfInBounds r (.map jE clock)}) hs bW hv rfl (λk hk=>hk) ⟨rfl,⟨rfl,aaX _⟩,rfl,by simp,λk hk hn=>jf k λe=>hn (by subst e;exact lu)⟩ ⟨r,jE,clock,lu,(heap_set hh).1,LL,GI _ λb hb=>?_⟩ trivial;refine⟨hb,jf b λe=>?_⟩;subst e;obtain⟨v',da,bP⟩:=hs.obj _ _ _ bW;rw[hv]at da;obtain rfl:=aaT da;exact bP.no b lu hb
 rcases vb hK lJ 0 qz with⟨a1,a2⟩|⟨j,e,a1,a2,a3⟩
 .refine fin es ?_ dW λw' hw=>?_
  .simp[Builtin.delete_,run_underlying (T.und_ok _ _ hu),abL hh,ace hd (hK _ _ lJ),acm hd a1,acj _ hh,abc]
  .rw[a2];exact qz.keep (by rw[a2]at yi;exact yi) hw
 .rw[aby]at a1
  refine fin (es.eraseIdxIfInBounds j) ?_ (MapKept.stamped_erase dW j) λw' hw=>?_
  .simp[Builtin.delete_,run_underlying (T.und_ok _ _ hu),abL hh,ace hd (hK _ _ lJ),acm hd a1,acj _ hh,abc]
  .have hj:j<es.size:=by simpa using a2
   have:(es.eraseIdxIfInBounds j).toList=es.toList.eraseIdx j:=by
    unfold Array.eraseIdxIfInBounds;rw[dif_pos hj,Array.toList_eraseIdx]
   rw[this];exact a3 _ F w' yi hw
theorem yj{t:TypeId}{agg:Bool}{V:Row}(h:wk P t agg V)(h1:agg=acR->V.size=1):∃z,(zeroValue t).run P w= .ok z w/\az H F w agg (.leaf V V.zero) z:=by
 obtain⟨z,hz,e⟩:=h
 cases hi:P.info? t with
 |none=>rw[hi]at hz;cases hz
 |some ti=>
  rw[hi]at hz;refine⟨z,?_,V.dB,bT.zero F w V,e,λha=>?_⟩
  .have hz':ti.zero=some z:=hz;simp[zeroValue,typeInfo,hi,hz',abc]
  .have hl:V.dB.length=V.size:=(bT.zero F w V).length;rw[h1 ha]at hl;subst ha;rw[cond_false]at e
   match hv:V.dB,hl with
   |[u],_=>rw[hv]at e;rw[e];rfl
theorem Cp{K:Row}{agg:Bool}{V:Row}:{es:List MapEntry}->{l:List (K.den×V.den)}->es.length=l.length->(∀i(h:i<l.length),∃(e:MapEntry)(cs:List Value),es[i]? =some e/\il K l[i].1=some e.key/\bT F w V cs l[i].2/\e.val=(bif agg then .agg cs.toArray else cs.headD undef)/\(agg=acR->cs=[e.val]))->eh H F w K agg V es l
 |[],[],_,_=>rfl
 |[],_::_,h,_=>by cases h
 |_::_,[],h,_=>by cases h
 |e::es,(k,x)::l,hl,h=>by
  obtain⟨e',cs,h1,h2,h3,h4,h5⟩:=h 0 (by simp)
  obtain rfl:e=e':=by simpa using h1
  exact⟨k,x,l,rfl,h2,⟨cs,h3,h4,h5⟩,Cp (by simpa using hl) λi hi=>by
   obtain⟨e',oO,q1,q2,q3,q4⟩:=h (i+1) (by simpa using hi)
   exact⟨e',oO,by simpa only[List.getElem?_cons_succ]using q1,q2,q3,q4⟩⟩
theorem Cq{K:Row}{agg:Bool}{V:Row}:{es:List MapEntry}->{l:List (K.den×V.den)}->eh H F w K agg V es l->es.length=l.length/\∀i(h:i<l.length),∃(e:MapEntry)(cs:List Value),es[i]? =some e/\il K l[i].1=some e.key/\bT F w V cs l[i].2/\e.val=(bif agg then .agg cs.toArray else cs.headD undef)/\(agg=acR->cs=[e.val])
 |[],l,h=>by obtain rfl:l=[]:=h;exact⟨rfl,λi h=>by simp at h⟩
 |e::es,l,h=>by
  obtain⟨k,x,l',rfl,h1,⟨cs,h2,h3,h4⟩,h5⟩:=h;obtain⟨g1,g2⟩:=Cq h5;refine⟨by simp[g1],λi hi=>?_⟩
  cases i with
  |zero=>exact⟨e,cs,rfl,h1,h2,h3,h4⟩
  |succ i=>
   obtain⟨e',oO,q1,q2,q3,q4⟩:=g2 i (by simpa using hi);exact⟨e',oO,by simpa only[List.getElem?_cons_succ]using q1,q2,q3,q4⟩
structure N2 where
 K:Row
 agg:Bool
 V:Row
 l:List (K.den×V.den)
def AI(ob:Nat->Option (Nat×Th)):aj->Option N2
 | .val acR (.leaf (.map K agg V) l)=>some ⟨K,agg,V,l⟩
 | .val acR (.own o)=>match ob o with
   |some (_, .map _ K agg V l)=>some ⟨K,agg,V,l⟩
   |some (_, .fmap _ K agg V l)=>some ⟨K,agg,V,l⟩
   |_=>acP
 |_=>acP
theorem Cr{K:Row}{agg:Bool}{V:Row}{l:List (K.den×V.den)}{v:Value}(h:bT F w (.map K agg V) [v] l):(v= .map acP/\l=[])\/∃b es clock,v= .map (some b)/\w.heap[b]? =some (.map es clock)/\Stamped es clock/\eh H F w K agg V es.toList l:=by
 obtain⟨u,e,h⟩:=h
 obtain rfl:v=u:=by simpa using e
 refine h.imp id λ⟨b,es,clock,h1,h2,h3,h4,h5,h6⟩=>⟨b,es,clock,h1,h3,h4,Cp (by simpa using h5) λi hi=>by simpa using h6 i hi⟩
theorem D8(hs:aq U H F w ob n){D:aj}{m:N2}{v:Value}(h:AI ob D=some m)(hd:ah H F w D v):(v= .map acP/\m.l=[])\/∃b es clock,v= .map (some b)/\w.heap[b]? =some (.map es clock)/\Stamped es clock/\eh H F w m.K m.agg m.V es.toList m.l:=by
 unfold AI at h;split at h
 .cases h;exact Cr hd.inv
 .rename_i o;obtain⟨cs,⟨u,hu,_,e⟩,_,h3⟩:=hd;rw[h3 rfl]at e
  obtain rfl:v=u:=by simpa using e
  split at h
  .rename_i s T K agg V l bW;cases h;obtain⟨v',da,bP⟩:=hs.obj _ _ _ bW;rw[hu]at da;obtain rfl:=aaT da;obtain⟨b,es,clock,e,h1,h2,h3⟩:=bP.ok;exact .inr ⟨b,es,clock,e,h1,h2,h3⟩
  .rename_i s T K agg V l bW;cases h;obtain⟨v',da,bP⟩:=hs.obj _ _ _ bW;rw[hu]at da;obtain rfl:=aaT da;exact Cr bP.ok
  .cases h
 .cases h
noncomputable def nU(T:aM P)(ob:Nat->Option (Nat×Th))(t:TypeId)(ok:Bool)(M X:aj)(k:c9->Option R):Option R:=
 match find T.und t with
 |some (.map kt vt)=>match AI ob M with
  |some ⟨K,agg,V,l⟩=>match find T.zer vt with
   |some (dq,V')=>bif yf T kt K&&(bif agg then dq else !dq)&&V'.beq V&&(agg||aaY V.size 1)then(match asKey ob K X with
    |some x=>bif ok then k {dst:= .tup [(agg, .leaf V ((bn K l x).getD V.zero)),(acR, .leaf .bool (bn K l x).isSome)]}
     else k {dst:= .val agg (.leaf V ((bn K l x).getD V.zero))}
    |none=>acP)else acP
   |none=>acP
  |none=>acP
 |_=>acP
theorem AJ(T:aM P){t:TypeId}{ok:Bool}{M X:aj}{m x:Operand}{k:c9->Option R}{q:R}(h:nU T ob t ok M X k=some q)(hs:aq U H F w ob n)(hm:ah H F w M (ev ρ m))(hx:ah H F w X (ev ρ x)):
 ∃e,k e=some q/\bO P U H F w ρ ob n ⟨some d, .lookup t m x ok,ty,pos,aft,acP⟩ e:=by
 unfold nU at h;split at h
 case h_2=>cases h
 rename_i kt vt hu;split at h
 case h_2=>cases h
 rename_i K agg V l pF;split at h
 case h_2=>cases h
 rename_i dq V' hz;obtain⟨hc,h'⟩:=aB h;clear h;obtain⟨hc,K0⟩:=bU hc;obtain⟨hc,Jv⟩:=bU hc;obtain⟨uq,xP⟩:=bU hc
 have oT:agg=dq:=by cases agg<;>cases dq<;>simp_all
 subst oT;obtain rfl:=Row.eq_of_beq Jv;split at h'
 case h_2=>cases h'
 rename_i a ha;obtain⟨dd,hd,hK,hR⟩:=sV (F:=F) (w:=w) T uq;have lJ:=hR _ _ (sW hs ha hx)
 have jc:agg=acR->V'.size=1:=λe=>by subst e;exact beq_true (by simpa using K0)
 obtain⟨z,Ah,Ag⟩:=yj (w:=w) (H:=H) (F:=F) (T.zer_ok _ _ _ hz) jc
 have main:∃v,(acJ t (ev ρ m) (ev ρ x) ok).run P w= .ok (if ok then .tuple #[v, .bool (bn K l a).isSome]else v) w/\az H F w agg (.leaf V' ((bn K l a).getD V'.zero)) v:=by
  have Rc:=hK _ _ lJ;have Cs:=T.und_ok _ _ hu
  rcases D8 hs pF hm with⟨lu,hl⟩|⟨r,es,clock,lu,hh,dW,qz⟩
  .dsimp only at hl;subst hl;refine⟨z,?_,Ag⟩;rw[lu];have hf:=acm (w:=w) hd (show abV dd (ev ρ x) [] 0=some acP from rfl)
   cases ok<;>simp[acJ,run_underlying Cs,ace hd Rc,hf,Ah,bn,abc]
  .dsimp only at qz
   rcases qx hK lJ 0 qz with⟨a1,a2,_⟩|⟨j,e,y,a1,_,_,a4,a5,_⟩
   .refine⟨z,?_,by rw[a2];exact Ag⟩;rw[lu,a2];simp[acJ,run_underlying Cs,abL hh,ace hd Rc,acm hd a1,Ah,abc]
   .refine⟨e.val,?_,by rw[a4];exact a5⟩;rw[lu,a4];simp[acJ,run_underlying Cs,abL hh,ace hd Rc,acm hd a1,abc]
 obtain⟨v,bq,kz⟩:=main
 cases ok with
 |true=>
  refine⟨_,h',bm hs (v:= .tuple #[v, .bool (bn K l a).isSome]) (by simp[execOp,bq,abc]) ⟨[v, .bool (bn K l a).isSome],rfl,_,_,rfl,kz,_,_,rfl,az.dY ..,rfl⟩⟩
 |false=>exact⟨_,h',bm hs (v:=v) (by simp[execOp,bq,abc]) kz⟩
def iZ(s:ByteArray)(i:Int):Option Int:=(if 0<=i then s[i.toNat]? else acP).map λb=>(b.toNat:Int)
theorem yk{e:Row}:{m:Nat}->{r:Row}->{x:r.den}->{l:List e.den}->{cs:List Value}->jW m r x e=some l->bT F w r cs x->l.length=m/\cs.length=m*e.size/\∀i(h:i<l.length),bT F w e ((cs.drop (i*e.size)).take e.size) l[i]
 |0,r,x,l,cs,h,_=>by unfold jW at h;cases h
 |1,r,x,l,cs,h,ha=>by
  unfold jW at h;split at h
  case isFalse=>cases h
  rename_i hb;obtain rfl:=Row.eq_of_beq hb;obtain rfl:=aaT h;have hl:=ha.length;refine⟨rfl,by simp[hl],λi hi=>?_⟩
  obtain rfl:i=0:=by simp at hi;omega
  rw[Nat.zero_mul,List.drop_zero,<-hl,abg];exact ha
 |m+2, .pair a b,x,l,cs,h,ha=>by
  unfold jW at h;split at h
  case isFalse=>cases h
  rename_i hb;obtain rfl:=Row.eq_of_beq hb;split at h
  case h_2=>cases h
  rename_i l' hl;obtain rfl:=aaT h;obtain⟨c1,c2,rfl,h1,h2⟩:=ha;have FD:=h1.length;obtain⟨g1,g2,g3⟩:=yk hl h2;refine⟨by simp[g1],by rw[aba,FD,g2,show m+2=(m+1)+1 from rfl,abG (m+1) 1,Nat.one_mul];omega,λi hi=>?_⟩
  cases i with
  |zero=>
   rw[Nat.zero_mul,List.drop_zero,List.take_append_of_le_length (by omega),<-FD,abg];exact h1
  |succ i=>
   have:=g3 i (by simpa using hi);rw[show(i+1)*a.size=c1.length+i*a.size from by rw[abG];omega,<-List.drop_drop,List.drop_left];exact this
 |m+2, .int _,_,_,_,h,_=>by unfold jW at h;cases h
 |m+2, .bool,_,_,_,h,_=>by unfold jW at h;cases h
 |m+2, .str,_,_,_,h,_=>by unfold jW at h;cases h
 |m+2, .slice _,_,_,_,h,_=>by unfold jW at h;cases h
 |m+2, .jS,_,_,_,h,_=>by unfold jW at h;cases h
 |m+2, .nul _,_,_,_,h,_=>by unfold jW at h;cases h
 |m+2, .map ..,_,_,_,h,_=>by unfold jW at h;cases h
def nV(T:aM P)(ob:Nat->Option (Nat×Th))(t:TypeId)(D:aj)(i:Int)(k:c9->Option R):Option R:=
 match find T.und t with
 |some .str=>match xR D with
  |some s=>(iZ s i).bind λc=>k {dst:=kG .u8 c}
  |none=>acP
 |some (.array m e)=>match find T.row t with
  |some r=>match find T.row e with
   |some re=>match find T.und e with
    |some kk=>match D with
     | .val acQ tr=>match flat ob r tr with
       |some x=>match jW m r x re with
        |some l=>bif ir kk||aaY re.size 1 then(idx l i).bind λy=>k {dst:= .val (ir kk) (.leaf re y)}else acP
        |none=>acP
       |none=>acP
     |_=>acP
    |none=>acP
   |none=>acP
  |none=>acP
 |_=>acP
theorem AK(T:aM P){t:TypeId}{D:aj}{x y:Operand}{kd:IntKind}{i:Int}{k:c9->Option R}{q:R}(h:nV T ob t D i k=some q)(hs:aq U H F w ob n)(hx:ah H F w D (ev ρ x))(hy:ev ρ y= .int kd i):
 ∃e,k e=some q/\bO P U H F w ρ ob n ⟨some d, .index t x y,ty,pos,aft,acP⟩ e:=by
 unfold nV at h;split at h
 .rename_i hu;have hu:=T.und_ok _ _ hu;split at h
  case h_2=>cases h
  rename_i s hS;obtain⟨c,hc,hk⟩:=bind_some h;have hv:=sK hS hx;unfold iZ at hc;obtain⟨b,hb,rfl⟩:=Option.map_eq_some_iff.1 hc;refine⟨_,hk,bm hs (v:= .int .u8 b.toNat) ?_ (az.hU ..)⟩;have Cs:P.underlying t=some .string:=hu;simp[execOp,Instr.index,asIntOf,run_underlying Cs,hv,hy,hb]
 .rename_i m e hu;have hu:P.underlying t=some (.array m e):=T.und_ok _ _ hu;split at h
  case h_2=>cases h
  rename_i r hr;split at h
  case h_2=>cases h
  rename_i re Q4;split at h
  case h_2=>cases h
  rename_i kk DN;split at h
  case h_2=>cases h
  rename_i tr;split at h
  case h_2=>cases h
  rename_i z hz;split at h
  case h_2=>cases h
  rename_i l hl;obtain⟨Ve,h'⟩:=aB h;clear h;obtain⟨a,ha,hk⟩:=bind_some h';obtain⟨cs,hh,hv,_⟩:=hx;rw[cond_true]at hv;obtain⟨g1,g2,g3⟩:=yk hl (eT hs hz hh);obtain⟨j,hj,ag,rfl⟩:=ei ha;obtain⟨ti,z0,h1,_,_,h4,_⟩:=T.row_ok _ _ Q4;obtain⟨dd,ur,ul⟩:=(T.und_ok _ _ DN).agg;have pG:=g3 j ag
  have jc:(j+1)*re.size<=cs.length:=by rw[g2];exact abf _ (by omega)
  rw[abG]at jc;refine⟨_,hk,?_⟩
  cases oT:ir kk with
  |true=>
   refine bm hs (v:= .agg ((cs.drop (j*re.size)).take re.size).toArray) ?_ ⟨_,pG,rfl,by simp⟩;subst hj;simp[execOp,Instr.index,asIntOf,run_underlying hu,hv,hy,show j<m by omega,part,abp,dK ur,ul,oT,sizeOf,typeInfo,h1,h4,List.extract_eq_take_drop]
  |false=>
   rw[oT,Bool.false_or]at Ve;have kj:=beq_true Ve;have hlen:=pG.length;rw[kj,Nat.mul_one]at pG jc;rw[kj]at hlen
   obtain⟨v,u7⟩:∃v,(cs.drop j).take 1=[v]:=by
    match hq:(cs.drop j).take 1,vc:((cs.drop j).take 1).length with
    |[v],_=>exact⟨v,rfl⟩
    |[],_=>rw[Nat.mul_one,hq]at hlen;cases hlen
    |_::_::_,_=>rw[Nat.mul_one,hq]at hlen;cases hlen
   rw[u7]at pG
   have Jj:cs[j]? =some v:=by
    have:(cs.drop j)[0]? =some v:=by
     have h0:((cs.drop j).take 1)[0]? =some v:=by rw[u7];rfl
     rwa [List.getElem?_take_of_lt (by omega)]at h0
    simpa using this
   refine bm hs (v:=v) ?_ (az.lC pG);subst hj;simp[execOp,Instr.index,asIntOf,run_underlying hu,hv,hy,show j<m by omega,part,abp,dK ur,ul,oT,sizeOf,typeInfo,h1,h4,kj,Jj]
 .cases h
end
end
section
def D9(T:TypeId):(e:DR)->List e.row.den->Th
 | .leaf r,y=> .own T r y
 | .sl T' e,y=> .deep T (.sl T' e) y acP
 | .pair a b,y=> .deep T (.pair a b) y acP
section
variable {P:Program} {ρ:Nat->Value} {w w':World} {H H':an} {F F':Nat->Prop} {U:Nat->Prop} {ob:Nat->Option (Nat×Th)} {n:Nat} {R:Type}
variable {op:Op} {ty:TypeId} {pos:String} {aft:Array Edge} {d:Nat}
theorem sX(T:TypeId)(e:DR)(y:List e.row.den):(D9 T e y).base=D9 T e y:=by cases e<;>rfl
theorem qA{T:TypeId}{e:DR}{u:Value}{y:List e.row.den}{A:Nat->Prop}(h:iq F w (.sl T e) u y A):fB H F w A u (D9 T e y)/\(∀k,fp A u (D9 T e y) k->A k)/\u.oneCell'=acQ:=by
 obtain⟨lh,Ss,h1,h2,h3,h4⟩:=h;have kj:=h1.one
 cases e with
 |leaf r=>
  have hl:lh=y:=List.ext_getElem h2 λi a b=>(h3 i a b).1
  subst hl;exact⟨h1,λk hk=>h4.bh k hk,kj⟩
 |sl T' e=>exact⟨⟨lh,Ss,h1,h2,h3,h4⟩,λk hk=>hk,kj⟩
 |pair a b=>exact⟨⟨lh,Ss,h1,h2,h3,h4⟩,λk hk=>hk,kj⟩
theorem sY{T:TypeId}{e:DR}{u:Value}{y:List e.row.den}{A:Nat->Prop}(h:fB H F w A u (D9 T e y)):iq F w (.sl T e) u y (λk=>fp A u (D9 T e y) k):=by
 cases e with
 |leaf r=>
  have h':jG F w T r u y:=h;refine⟨y,λ_ _=>False,h',rfl,λi a b=>⟨rfl,λ_ h=>h⟩,⟨λk=>?_,λ_ _ _ _ _ _ h=>h.elim,λ_ _ _ h=>h.elim⟩⟩
  show bh u k↔_
  simp
 |sl T' e=>exact h
 |pair a b=>exact h
theorem si{d:DR}{r:Row}(q:ee d (.leaf r)){x':d.low.den}{x:d.row.den}{S:Nat->Prop}(h:iq F w d x' x S):q.lo.get x'=q.hi.get x:=by
 obtain⟨A,B,h1,_⟩:=h.out q;exact h1.1
theorem sZ:{d e:DR}->{T:TypeId}->{r:Row}->(p:ee d (.sl T e))->(q:ee d (.leaf r))->{x':d.low.den}->{x:d.row.den}->{S:Nat->Prop}->jT F w p x' x S->q.lo.get x'=q.hi.get x
 |_,_,_,_, .fst p, .fst q,_,_,_,h=>by obtain⟨A,B,h1,_⟩:=h;exact sZ p q h1
 |_,_,_,_, .fst p, .snd q,_,_,_,h=>by obtain⟨A,B,_,h2,_⟩:=h;exact si q h2
 |_,_,_,_, .snd p, .fst q,_,_,_,h=>by obtain⟨A,B,h1,_⟩:=h;exact si q h1
 |_,_,_,_, .snd p, .snd q,_,_,_,h=>by obtain⟨A,B,_,h2,_⟩:=h;exact sZ p q h2
theorem GJ{d:DR}{h:Option sF}{i:Nat}{x':d.low.den}{x:d.row.den}{S:Nat->Prop}{r:Row}(q:ee d (.leaf r))(hr:mg H F w d h i x' x S):q.lo.get x'=q.hi.get x:=by
 cases h with
 |none=>exact si q hr
 |some h=>
  by_cases hi:h.i=(i:Int)
  .obtain⟨T',e,p,_,h2,_⟩:=hr.2 hi;exact sZ p q h2
  .exact si q (hr.1 hi)
theorem pH{d:DR}{r:Row}(q:ee d (.leaf r)){x':d.low.den}{x:d.row.den}{S:Nat->Prop}(y:r.den)(h:iq F w d x' x S):iq F w d (q.lo.set x' y) (q.hi.set x y) S:=by
 obtain⟨A,B,h1,h2,h3⟩:=h.out q;exact h2.put q (y':=y) (A:=A) ⟨rfl,h1.2⟩ h3
theorem qB:{d e:DR}->{T:TypeId}->{r:Row}->(p:ee d (.sl T e))->(q:ee d (.leaf r))->{x':d.low.den}->{x:d.row.den}->{S:Nat->Prop}->(y:r.den)->jT F w p x' x S->jT F w p (q.lo.set x' y) (q.hi.set x y) S/\p.lo.get (q.lo.set x' y)=p.lo.get x'
 |_,_,_,_, .fst p, .fst q,_,_,_,y,h=>by
  obtain⟨A,B,h1,h2,h3⟩:=h;obtain⟨g1,g2⟩:=qB p q y h1;exact⟨⟨A,B,g1,h2,h3⟩,g2⟩
 |_,_,_,_, .fst p, .snd q,_,_,_,y,h=>by
  obtain⟨A,B,h1,h2,h3⟩:=h;exact⟨⟨A,B,h1,pH q y h2,h3⟩,rfl⟩
 |_,_,_,_, .snd p, .fst q,_,_,_,y,h=>by
  obtain⟨A,B,h1,h2,h3⟩:=h;exact⟨⟨A,B,pH q y h1,h2,h3⟩,rfl⟩
 |_,_,_,_, .snd p, .snd q,_,_,_,y,h=>by
  obtain⟨A,B,h1,h2,h3⟩:=h;obtain⟨g1,g2⟩:=qB p q y h2;exact⟨⟨A,B,h1,g1,h3⟩,g2⟩
theorem Ea{d:DR}{h:Option sF}{i:Nat}{x':d.low.den}{x:d.row.den}{S:Nat->Prop}{r:Row}(q:ee d (.leaf r))(y:r.den)(hr:mg H F w d h i x' x S):mg H F w d h i (q.lo.set x' y) (q.hi.set x y) S:=by
 cases h with
 |none=>exact pH q y hr
 |some h=>
  refine⟨λhi=>pH q y (hr.1 hi),λhi=>?_⟩;obtain⟨T',e,p,h1,h2,h3⟩:=hr.2 hi;obtain⟨g1,g2⟩:=qB p q y h2;exact⟨T',e,p,h1,g1,by rw[g2];exact h3⟩
theorem aq.low(hs:aq U H F w ob n){o s:Nat}{T:TypeId}{dr:DR}{l:List dr.row.den}{h:Option sF}(ho:ob o=some (s, .deep T dr l h)){v:Value}(hv:H.val o=some v):
 ∃(lh:List dr.low.den)(Ss:Nat->Nat->Prop),gv 0 F w T dr.low v lh/\lh.length=l.length/\(∀i(h1:i<lh.length)(h2:i<l.length),mg H F w dr h i lh[i] l[i] (Ss i))/\lB Ss l.length (bh v) (H.sub s):=by
 obtain⟨v',da,bP⟩:=hs.obj _ _ _ ho;rw[hv]at da;obtain rfl:=aaT da;obtain⟨lh,Ss,h1,h2,h3,h4⟩:=bP.ok;exact⟨lh,Ss,⟨λk hk=>bP.no k (h4.bh k hk),h1⟩,h2,h3,h4⟩
theorem Path.wu:{r s:Row}->(p:Path r s)->(x:r.den)->(y:s.den)->p.get (p.set x y)=y
 |_,_, .here,_,_=>rfl
 |_,_, .fst p,x,y=>Path.wu p x.1 y
 |_,_, .snd p,x,y=>Path.wu p x.2 y
theorem jT.GK:{d e:DR}->(p:ee d e)->{x':d.low.den}->{x:d.row.den}->{S:Nat->Prop}->(y':e.low.den)->jT F w p x' x S->jT F w p (p.lo.set x' y') x S
 |_,_, .here,_,_,_,_,h=>h
 |_,_, .fst p,_,_,_,y',h=>by
  obtain⟨A,B,h1,h2,h3⟩:=h;exact⟨A,B,h1.GK p y',h2,h3⟩
 |_,_, .snd p,_,_,_,y',h=>by
  obtain⟨A,B,h1,h2,h3⟩:=h;exact⟨A,B,h1,h2.GK p y',h3⟩
def oU(m:Nat->Prop)(Ss:Nat->Nat->Prop)(c:Nat)(k:Nat):Prop:=m k\/∃i,i<c/\Ss i k
theorem lB.less{Ss:Nat->Nat->Prop}{c:Nat}{m S:Nat->Prop}(h:lB Ss c m S)(j:Nat){B:Nat->Prop}(hB:∀k,B k->Ss j k):lB (λi=>if i=j then B else Ss i) c m (oU m (λi=>if i=j then B else Ss i) c):=by
 have sub:∀i k,(if i=j then B else Ss i) k->Ss i k:=by
  intro i k hk;by_cases e:i=j
  .subst e;rw[acU rfl]at hk;exact hB k hk
  .rwa [acT e]at hk
 exact⟨λk=>Iff.rfl,λi i' k h1 h2 cA h3 h4=>h.two i i' k h1 h2 cA (sub i k h3) (sub i' k h4),λi k h1 h2=>h.out i k h1 (sub i k h2)⟩
theorem lB.yl{Ss:Nat->Nat->Prop}{c:Nat}{m S:Nat->Prop}(h:lB Ss c m S)(j:Nat){B:Nat->Prop}(hB:∀k,B k->Ss j k):∀k,oU m (λi=>if i=j then B else Ss i) c k->S k:=by
 rintro k (hk|⟨i,hi,hk⟩)
 .exact h.bh k hk
 .by_cases e:i=j
  .subst e;rw[acU rfl]at hk;exact h.part hi k (hB k hk)
  .rw[acT e]at hk;exact h.part hi k hk
theorem Jw{α β:Type}{rel:Nat->α->β->(Nat->Prop)->Prop}{lh:List α}{l:List β}{Ss:Nat->Nat->Prop}{j:Nat}{x':α}{x:β}{B:Nat->Prop}(h:∀i(h1:i<lh.length)(h2:i<l.length),i≠j->rel i lh[i] l[i] (Ss i))(hj:rel j x' x B):
 ∀i(h1:i<(lh.set j x').length)(h2:i<(l.set j x).length),rel i (lh.set j x')[i] (l.set j x)[i] ((λi=>if i=j then B else Ss i) i):=by
 intro i h1 h2;by_cases e:i=j
 .subst e;simp only[List.getElem_set_self,if_true];exact hj
 .simp only[List.getElem_set_ne (Ne.symm e),acT e];exact h i (by simpa using h1) (by simpa using h2) e
theorem an.nW{H:an}{n:Nat}{S:Nat->Prop}{t:Th}(h:H.con n=acP):H.le ((H.dn n S).ba n t):=(an.DV h).trans (an.ew h)
theorem jV.wv(hs:aq U H F w ob n){o s:Nat}{t t':Th}{v0:Value}(ho:ob o=some (s,t))(hv:H.val o=some v0)(hb:t'.base=t'){eat:List Nat}(WI:o∈eat)(S':Nat->Prop)(Gy:∀k,fp S' v0 t' k->bJ H ob eat k){D:aj}{v:Value}
 (bo:Ext (bJ H ob eat) w w')(kz:fB ((H.dn n S').ba n t') F w' S' v0 t')(hd:ah ((H.dn n S').ba n t') F w' D v):kg H F w ob n {dst:=D,eat:=eat,make:=[(o,(n,t'))]} v w':=by
 obtain⟨v1,sa,bP⟩:=hs.obj _ _ _ ho;rw[hv]at sa;obtain rfl:=aaT sa;have hf:=hs.fresh n (aaX _) (by omega)
 have eL:((H.dn n S').ba n t').sub n=S':=by simp[an.ba,an.dn]
 refine⟨(H.dn n S').ba n t',F,⟨an.nW hf.2,bo,λ_ h=>h,λ_ h=> .inl h,λb hb=>abt (hs.lt b hb) bo.size⟩,λm hm=>?_,hd,⟨λo' s' q hq=>?_,λo1 o2 s1 s2 q1 q2 u1 u2 cA h1 h2=>?_⟩,λo' h=>?_⟩
 .refine⟨id,λh=>?_⟩;simp[an.ba,an.dn,show m≠n from by omega,h]
 .obtain⟨rfl,e⟩:=bG hq;obtain⟨rfl,rfl⟩:=acq e;refine⟨v0,hv,bP.one,by simp[an.ba,hb],by rw[eL];exact kz,λk hk=>?_⟩;rw[eL]at hk;have:=Gy k hk;exact⟨hs.dC k this,abt (hs.sG k this) bo.size, .inr this⟩
 .exact absurd ((bG h1).1.trans (bG h2).1.symm) cA
 .left
  obtain⟨y,hy⟩:=abB.1 h;rw[(bG hy).1];exact WI
def oV(T:aM P)(ob:Nat->Option (Nat×Th))(n:Nat)(t:TypeId)(D:aj)(k:c9->Option R):Option R:=
 match find T.und t with
 |none=>acP
 |some kk=>match D with
  | .dlm o d0 i p off=>match ob o with
    |some (_, .deep T0 dr l h)=>bif d0.beq dr then(match dr.path p with
     |some ⟨.leaf r,q⟩=>bif aaY q.lo.off off&&kH T t kk r.size then(idx l i).bind λx=>k {dst:= .val (ir kk) (.leaf r (q.hi.get x))}else acP
     |some ⟨.sl T' e',q⟩=>bif aaY q.lo.off off&&kH T t kk 1&& !ir kk then(match h with
       |none=>(idx l i).bind λx=>k {dst:= .val acR (.own n),eat:=[o],make:=[(o,(n, .deep T0 dr l (some ⟨i,p,n,n+1⟩))),(n,(n+1,D9 T' e' (q.hi.get x)))]}
       |some hh=>bif mj hh.p p then(if decide (hh.i=i)=acQ then(idx l i).bind λ_=>k {dst:= .val acR (.own hh.o)}else acP)else acP)else acP
     |_=>acP)else acP
    |_=>acP
  |_=>acP
theorem ym(hs:aq U H F w ob n){o s:Nat}{T0 T':TypeId}{dr e':DR}{l:List dr.row.den}{i:Int}{p:List Bool}{q:ee dr (.sl T' e')}(hq:dr.path p=some ⟨_,q⟩)(bW:ob o=some (s, .deep T0 dr l acP)){v:Value}(hv:H.val o=some v)
 {j:Nat}(K2:i=(j:Nat))(hj:j<l.length){lh:List dr.low.den}{Ss:Nat->Nat->Prop}(hm:jG F w T0 dr.low v lh)(hlen:lh.length=l.length)(ta:∀i(h1:i<lh.length)(h2:i<l.length),mg H F w dr acP i lh[i] l[i] (Ss i))(cS:lB Ss l.length (bh v) (H.sub s)):
 kg H F w ob n {dst:= .val acR (.own n),eat:=[o],make:=[(o,(n, .deep T0 dr l (some ⟨i,p,n,n+1⟩))),(n,(n+1,D9 T' e' (q.hi.get l[j])))]} (q.lo.get (lh[j]'(by omega))) w:=by
 have I7:j<lh.length:=by omega
 obtain⟨v1,sa,bP⟩:=hs.obj _ _ _ bW;rw[hv]at sa;obtain rfl:=aaT sa;obtain⟨A,B,hA,hB,h2⟩:=iq.out q (ta j I7 hj);obtain⟨_,m2,m3⟩:=qA (H:=H) hA;have Vf:∀k,B k->Ss j k:=h2.right;obtain⟨f1,f2⟩:=hs.fresh n (aaX _) (by omega);obtain⟨f3,f4⟩:=hs.fresh (n+1) (by omega) (by omega)
 have wg:o≠n:=λe=>by rw[e,f1]at hv;cases hv
 generalize Nh:Th.deep T0 dr l (some ⟨i,p,n,n+1⟩)=t1;generalize Qk:D9 T' e' (q.hi.get l[j])=t2;generalize hu:q.lo.get lh[j]=u;generalize Re:oU (bh v) (λi=>if i=j then B else Ss i) l.length=So
 have Rf:∀k,So k->H.sub s k:=by rw[<-Re];exact cS.yl j Vf
 have WJ:∀k,A k->H.sub s k:=λk hk=>cS.part hj k (h2.left k hk)
 have WK:∀k,So k->¬A k:=by
  rw[<-Re]
  rintro k (hk|⟨i',jF,hk⟩) ha
  .exact cS.out j k hj (h2.left k ha) hk
  .by_cases e:i'=j
   .subst e;rw[acU rfl]at hk;exact h2.off k ha hk
   .rw[acT e]at hk;exact cS.two i' j k jF hj e hk (h2.left k ha)
 let H1:an:=⟨λm=>if m=n then some u else H.val m,λm=>if m=n then some t1 else if m=n+1 then some t2 else H.con m,λm=>if m=n then So else if m=n+1 then A else H.sub m⟩
 have hle:H.le H1:=by
  refine⟨λo v ho=>?_,λs t dW=>?_,λs t dW=>?_⟩
  .have:o≠n:=λe=>by rw[e,f1]at ho;cases ho
   simp[H1,this,ho]
  .have a1:s≠n:=λe=>by rw[e,f2]at dW;cases dW
   have a2:s≠n+1:=λe=>by rw[e,f4]at dW;cases dW
   simp[H1,a1,a2,dW]
  .have a1:s≠n:=λe=>by rw[e,f2]at dW;cases dW
   have a2:s≠n+1:=λe=>by rw[e,f4]at dW;cases dW
   simp[H1,a1,a2]
 have N3:H1.val n=some u:=by simp[H1]
 have e7:∀k,H.sub s k->bJ H ob [o] k:=λk hk=>⟨o,by simp,s,_,v,bW,hv,hk⟩
 have kj:u.oneCell'=acQ:=by rw[<-hu];exact m3
 refine⟨H1,F,⟨hle,⟨rfl,⟨rfl,aaX _⟩,rfl,aaX _,λ_ _ _=>rfl⟩,λ_ h=>h,λ_ h=> .inl h,hs.lt⟩,λm hm=>?_,k0 N3 kj,⟨λo' s' t hf=>?_,λo1 o2 s1 s2 q1 q2 u1 u2 cA g1 g2 e1 e2 k hk kh=>?_⟩,λo' iY=>?_⟩
 .have a1:m≠n:=by omega
  have a2:m≠n+1:=by omega
  simp[H1,a1,a2]
 .rw[aA]at hf;split at hf
  .rename_i e;subst e;simp only[aa1,abU]at hf;obtain⟨rfl,rfl⟩:=hf
   have LM:H1.sub n=So:=by simp[H1]
   refine⟨v,hle.val _ _ hv,bP.one,?_,?_,λk hk=>?_⟩
   .rw[<-Nh];simp[H1,Th.base,Nh]
   .rw[LM,<-Nh,<-Re];refine⟨lh,_,hm,hlen,λi' a b=>?_,cS.less j Vf⟩;have hr:iq F w dr lh[i'] l[i'] (Ss i'):=ta i' a b;refine⟨λhi=>?_,λhi=>?_⟩
    .have:i'≠j:=λe=>hi (by subst e;exact K2)
     show iq F w dr lh[i'] l[i'] (if i'=j then B else Ss i')
     rw[acT this];exact hr
    .have hi:i=(i':Int):=hi
     obtain rfl:i'=j:=by omega
     refine⟨T',e',q,hq,?_,?_⟩
     .show jT F w q lh[i'] l[i'] (if i'=i' then B else Ss i')
      rw[acU rfl];exact hB
     .rw[hu];exact N3
   .rw[LM,<-Nh]at hk;have hk:So k:=hk;have:=Rf k hk;exact⟨bP.no k this,bP.lt k this, .inr (e7 k this)⟩
  .obtain⟨e0,e⟩:=bG hf;obtain⟨rfl,rfl⟩:=acq e;rw[e0]
   have LM:H1.sub (n+1)=A:=by simp[H1]
   obtain⟨m1,Vg,_⟩:=qA (H:=H1) hA;rw[Qk,hu]at m1 Vg;refine⟨u,N3,kj,?_,by rw[LM];exact m1,λk hk=>?_⟩
   .rw[<-Qk,sX,Qk];simp[H1]
   .rw[LM]at hk;have:=WJ k (Vg k hk);exact⟨bP.no k this,bP.lt k this, .inr (e7 k this)⟩
 .have key:∀{k},So k->A k->False:=λa b=>WK _ a b
  have Vh:∀k,fp A u t2 k->A k:=by rw[<-Qk,<-hu];exact m2
  have qC:H1.sub n=So:=by simp[H1]
  have Vi:H1.sub (n+1)=A:=by simp[H1]
  have two:∀{o' s' t'},find [(o,(n,t1)),(n,(n+1,t2))] o'=some (s',t')->(o'=o/\s'=n/\t'=t1)\/(o'=n/\s'=n+1/\t'=t2):=by
   intro o' s' t' hf;rw[aA]at hf;split at hf
   .rename_i e;simp only[aa1,abU]at hf;exact .inl ⟨e.symm,hf.1.symm,hf.2.symm⟩
   .obtain⟨e1,e⟩:=bG hf;obtain⟨e2,e3⟩:=acq e;exact .inr ⟨e1,e2,e3⟩
  rcases two g1 with⟨rfl,rfl,rfl⟩|⟨rfl,rfl,rfl⟩<;>rcases two g2 with⟨rfl,rfl,rfl⟩|⟨rfl,rfl,rfl⟩
  .exact cA rfl
  .rw[qC,<-Nh]at hk;rw[Vi]at kh;rw[N3]at e2;obtain rfl:=aaT e2;exact key (show So k from hk) (Vh k kh)
  .rw[qC,<-Nh]at kh;rw[Vi]at hk;rw[N3]at e1;obtain rfl:=aaT e1;exact key (show So k from kh) (Vh k hk)
  .exact cA rfl
 .obtain⟨y,hy⟩:=abB.1 iY;rw[aA]at hy;split at hy
  .rename_i e;exact .inl (by rw[<-e];simp)
  .exact .inr (by rw[(bG hy).1];exact aaX _)
theorem wx{α β:Type}{l:List α}{lh:List β}(h:lh.length=l.length){i:Int}{x:α}(hi:idx l i=some x):∃j,i=(j:Nat)/\∃(h1:j<lh.length)(h2:j<l.length),x=l[j]/\idx lh i=some lh[j]:=by
 obtain⟨j,hj,ag,rfl⟩:=ei hi;refine⟨j,hj,by omega,ag,rfl,?_⟩;subst hj
 have Jx:j<lh.length:=by omega
 simp[idx,Jx]
theorem Eb(T:aM P){t:TypeId}{D:aj}{x:Operand}{k:c9->Option R}{q:R}(h:oV T ob n t D k=some q)(hs:aq U H F w ob n)(hx:ah H F w D (ev ρ x)):
 ∃e,k e=some q/\bO P U H F w ρ ob n ⟨some d, .load t x,ty,pos,aft,acP⟩ e:=by
 unfold oV at h;split at h
 .cases h
 rename_i kk hu;split at h
 case h_2=>cases h
 rename_i o d0 i p off;split at h
 case h_2=>cases h
 rename_i s T0 dr l hh bW;obtain⟨hd,h'⟩:=aB h;clear h;obtain rfl:=DR.eq_of_beq hd;obtain⟨g,o0,qq,m,cap,e1,e2,e5⟩:=hx;obtain⟨lh,Ss,dm,hlen,ta,cS⟩:=hs.low bW e1;split at h'
 .rename_i r u0 wo;obtain⟨h1,h2⟩:=aB h';obtain⟨h1,h3⟩:=bU h1;obtain rfl:=beq_true h1;obtain⟨a,ha,hk⟩:=bind_some h2;obtain⟨j,hj,g1,g2,rfl,mf⟩:=wx hlen ha;have qg:=(dm.at rfl e2 mf).path u0.lo _ rfl;rw[GJ u0 (ta j g1 g2)]at qg;obtain⟨es,hl,Jq,hr⟩:=qg;exact⟨_,hk,lE T hu e5 hs (s:= .leaf r _) hr Jq (hZ T h3)⟩
 .rename_i T' e' u0 wo;obtain⟨h1,h2⟩:=aB h';obtain⟨h1,h4⟩:=bU h1;obtain⟨h1,h3⟩:=bU h1;obtain rfl:=beq_true h1
  have oT:ir kk=acR:=by simpa using h4
  obtain⟨dd,ur,ul⟩:=(T.und_ok _ _ hu).agg
  have run:∀{j:Nat}(g1:j<lh.length),idx lh i=some lh[j]->(execOp (ev ρ) ⟨some d, .load t x,ty,pos,aft,acP⟩).run P w= .ok (.value (u0.lo.get lh[j])) w:=by
   intro j g1 mf;have qg:=(dm.at rfl e2 mf).path u0.lo _ rfl;obtain⟨es,hl,Jq,hr,_⟩:=qg;rw[hr]at Jq;exact uS ur (ul.trans oT) e5 (Jq 0 _ rfl)
  split at h2
  .obtain⟨a,ha,hk⟩:=bind_some h2;obtain⟨j,hj,g1,g2,rfl,mf⟩:=wx hlen ha;exact⟨_,hk,bH.val (run g1 mf) (ym hs wo bW e1 hj g2 dm.2 hlen ta cS)⟩
  .rename_i hh;obtain⟨hp,h3⟩:=aB h2;have hp:=oS hp;split at h3
   case isFalse=>cases h3
   rename_i hi;have hi:hh.i=i:=acV hi;obtain⟨a,ha,hk⟩:=bind_some h3;obtain⟨j,hj,g1,g2,rfl,mf⟩:=wx hlen ha;obtain⟨WL,WM,WN,k1,_,k3⟩:=(ta j g1 g2).2 (hi.trans hj);rw[hp,wo]at k1;cases k1;refine⟨_,hk,bm hs (run g1 mf) (k0 k3 ?_)⟩;have qg:=(dm.at rfl e2 mf).path u0.lo _ rfl;obtain⟨es,_,_,_,A,m',c,Cs⟩:=qg;rw[Cs];rfl
 .cases h'
def N4(T:TypeId):(e:DR)->Th->Option (List e.row.den)
 | .leaf r, .own T1 r1 y=>bif aaY T1 T then(if h:r1.beq r=acQ then some (gG (r:= .slice r1) (s:= .slice r) (ac0 Row.slice (Row.eq_of_beq h)) y)else acP)else acP
 | .sl T2 e2, .deep T1 (.sl T3 e3) y acP=>bif aaY T1 T then(if h:(DR.sl T3 e3).beq (.sl T2 e2)=acQ then some (DR.eq_of_beq h▸y)else acP)else acP
 | .pair a b, .deep T1 (.pair a1 b1) y acP=>bif aaY T1 T then(if h:(DR.pair a1 b1).beq (.pair a b)=acQ then some (DR.eq_of_beq h▸y)else acP)else acP
 |_,_=>acP
theorem AL{T:TypeId}{e:DR}{t:Th}{y:List e.row.den}(h:N4 T e t=some y):t=D9 T e y:=by
 unfold N4 at h;split at h
 .obtain⟨h1,h2⟩:=aB h;split at h2
  .rename_i hb;obtain rfl:=Row.eq_of_beq hb;obtain rfl:=aaT h2;rw[beq_true h1];rfl
  .cases h2
 .obtain⟨h1,h2⟩:=aB h;split at h2
  .rename_i hb;cases DR.eq_of_beq hb;obtain rfl:=aaT h2;rw[beq_true h1];rfl
  .cases h2
 .obtain⟨h1,h2⟩:=aB h;split at h2
  .rename_i hb;cases DR.eq_of_beq hb;obtain rfl:=aaT h2;rw[beq_true h1];rfl
  .cases h2
 .cases h
def wy(h:Option sF)(i:Int)(p:List Bool):Bool:=
 match h with
 |none=>acQ
 |some h=>mj h.p p&&decide (h.i=i)
theorem yn{h:Option sF}{i:Int}{p:List Bool}(hh:wy h i p=acQ){dr e:DR}{T:TypeId}{q:ee dr (.sl T e)}(hq:dr.path p=some ⟨_,q⟩){j:Nat}(hj:i=(j:Nat)){x':dr.low.den}{x:dr.row.den}{S:Nat->Prop}(hr:mg H F w dr h j x' x S):
 ∃B,(∀k,B k->S k)/\jT F w q x' x B:=by
 cases h with
 |none=>
  obtain⟨A,B,_,h2,h3⟩:=iq.out q (show iq F w dr x' x S from hr);exact⟨B,h3.right,h2⟩
 |some h=>
  have h':(mj h.p p&&decide (h.i=i))=acQ:=hh;obtain⟨h1,h2⟩:=bU h';obtain⟨T',e',q',k1,k2,_⟩:=hr.2 ((acV h2).trans hj);rw[oS h1,hq]at k1;cases k1;exact⟨S,λ_ h=>h,k2⟩
theorem tc{h:Option sF}{i:Int}{p:List Bool}(hh:wy h i p=acQ){dr:DR}{j:Nat}(hj:i≠(j:Nat)){x':dr.low.den}{x:dr.row.den}{S:Nat->Prop}(hr:mg H F w dr h j x' x S):iq F w dr x' x S:=by
 cases h with
 |none=>exact hr
 |some h=>
  have h':(mj h.p p&&decide (h.i=i))=acQ:=hh;obtain⟨h1,h2⟩:=bU h';exact hr.1 (λe=>hj ((acV h2).symm.trans e))
end
end
end Go.Proofs.YtbladfbbhijpmaaGreat
