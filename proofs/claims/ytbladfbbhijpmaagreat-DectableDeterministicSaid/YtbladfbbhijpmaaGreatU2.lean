/- Joined texts: Path Effs2 Effs3 Effs4 Effs5 Effs6. -/
import Derived.Test.YtbladfbbhijpmaaGreatU1
import Derived.Carry
open _root_.Bool renaming false->aaM,true->aaL,and_eq_true->ZE
open _root_.Option renaming none->aaK,isSome_iff_exists->ZC
open _root_.List renaming append_assoc->Zp,drop_append_of_le_length->ZR,drop_of_length_le->Z0,length_append->Zf,take_length->Zh,length_take->Zr,replicate->Zq,getElem?_eq_getElem->YX,mem_cons->Y6
open _root_.Nat renaming beq->YZ,eq_of_beq_eq_true->ZM,zero_add->Zy,add_mul->ZH,le_refl->YY,le_trans->Zj,min_eq_left->Z3,mul_le_mul_right->Zg,lt_of_lt_of_le->Zv
open _root_.Option.some renaming inj->YU,injEq->Y3
open _root_.Prod.mk renaming inj->aan,injEq->ZV
open _root_.Array renaming toArray_toList->ZF,getElem?_eq_some_iff->Zx
open _root_.Go.Instr renaming fill->aay,findNow->ZW,lookup->aaE,mapUpdate->aab
open _root_.Int renaming eq_ofNat_of_zero_le->Y9,toNat_natCast->Y4,tdiv->Z6,tmod->aaq
open _root_.Go.Result renaming andThen_ok->ZD,andThen->Za
open _root_.Go.Sem renaming run_bind->Zs
open _root_.Go.Value renaming ownBlock->Zw,int->ZS
open _root_.List.cons renaming injEq->Z8
open _root_.Go.Value.slice renaming injEq->aag
open _root_.Go.MapKept renaming run_checkKey->aac,run_findKey->aaj,run_getObj_map->ZN,run_setObj_map->aah
namespace Go.Proofs.YtbladfbbhijpmaaGreat
open Go Go.RowKit
set_option maxRecDepth 100000
set_option linter.unusedSimpArgs false
set_option linter.unusedVariables false
set_option linter.defProp false
section
def Tree.split:Tree->Option (Tree×Tree)
 | .leaf (.pair a b) x=>some (.leaf a x.1, .leaf b x.2)
 | .pair a b=>some (a,b)
 |_=>aaK
def Tree.get:Tree->List Bool->Option (Tree×Nat)
 |t,[]=>some (t,0)
 |t,d::p=>match t.split with
  |none=>aaK
  |some (a,b)=>match d with
   |false=>Tree.get a p
   |true=>match Tree.get b p with
    |none=>aaK
    |some (s,off)=>some (s,a.size+off)
def Tree.put:Tree->List Bool->Tree->Option Tree
 |_,[],u=>some u
 |t,d::p,u=>match t.split with
  |none=>aaK
  |some (a,b)=>match d with
   |false=>match Tree.put a p u with
    |none=>aaK
    |some a'=>some (.pair a' b)
   |true=>match Tree.put b p u with
    |none=>aaK
    |some b'=>some (.pair a b')
def oz:Nat->Nat->List Bool
 |0,_=>[]
 |1,_=>[]
 |_+2,0=>[aaM]
 |m+2,f+1=>aaL::oz (m+1) f
section
variable {H:aj} {F:Nat->Prop} {w:World}
theorem Holds.split{t a b:Tree}{cs:List Value}(hs:t.split=some (a,b))(h:Holds H F w t cs):∃c1 c2,cs=c1++c2/\Holds H F w a c1/\Holds H F w b c2/\t.size=a.size+b.size:=by
 unfold Tree.split at hs
 split at hs<;>cases hs
 .obtain⟨c1,c2,e,h1,h2⟩:=h;exact⟨c1,c2,e,h1,h2,rfl⟩
 .obtain⟨c1,c2,e,h1,h2⟩:=h;exact⟨c1,c2,e,h1,h2,rfl⟩
theorem Holds.get:{p:List Bool}->{t s:Tree}->{off:Nat}->{cs:List Value}->t.get p=some (s,off)->Holds H F w t cs->Holds H F w s ((cs.drop off).take s.size)/\off+s.size<=cs.length
 |[],t,s,off,cs,hg,h=>by
  obtain⟨rfl,rfl⟩:=aan (YU hg);have hl:=h.length;refine⟨?_,by omega⟩;rw[List.drop_zero,<-hl,Zh];exact h
 |d::p,t,s,off,cs,hg,h=>by
  unfold Tree.get at hg
  cases ta:t.split with
  |none=>rw[ta]at hg;cases hg
  |some ab=>
   obtain⟨a,b⟩:=ab;rw[ta]at hg;obtain⟨c1,c2,rfl,h1,h2,_⟩:=h.split ta;have EO:=h1.length
   cases d with
   |false=>
    obtain⟨g1,g2⟩:=Holds.get hg h1;refine⟨?_,by rw[Zf];omega⟩;rw[ZR (by omega),List.take_append_of_le_length (by rw[List.length_drop];omega)];exact g1
   |true=>
    cases hb:b.get p with
    |none=>simp only[hb]at hg;cases hg
    |some so=>
     obtain⟨s',cN⟩:=so;simp only[hb,Y3,ZV]at hg;obtain⟨rfl,rfl⟩:=hg;obtain⟨g1,g2⟩:=Holds.get hb h2;refine⟨?_,by rw[Zf];omega⟩;rw[<-EO,List.drop_append,Z0 (by omega),List.nil_append,show c1.length+cN-c1.length=cN from by omega];exact g1
theorem Holds.put{u:Tree}{vs:List Value}(hu:Holds H F w u vs):{p:List Bool}->{t s t':Tree}->{off:Nat}->{cs:List Value}->t.get p=some (s,off)->t.put p u=some t'->s.size=u.size->Holds H F w t cs->
 Holds H F w t' (cs.take off++vs++cs.drop (off+u.size))
 |[],t,s,t',off,cs,hg,hp,hz,h=>by
  obtain⟨rfl,rfl⟩:=aan (YU hg);obtain rfl:=YU hp;have hl:=h.length;rw[List.take_zero,List.nil_append,Zy,Z0 (by omega),List.append_nil];exact hu
 |d::p,t,s,t',off,cs,hg,hp,hz,h=>by
  unfold Tree.get at hg;unfold Tree.put at hp
  cases ta:t.split with
  |none=>rw[ta]at hg;cases hg
  |some ab=>
   obtain⟨a,b⟩:=ab;rw[ta]at hg hp;obtain⟨c1,c2,rfl,h1,h2,_⟩:=h.split ta;have EO:=h1.length
   cases d with
   |false=>
    cases hq:a.put p u with
    |none=>simp only[hq]at hp;cases hp
    |some a'=>
     simp only[hq,Y3]at hp;subst hp;have h3:=Holds.put hu hg hq hz h1;have g2:=(Holds.get hg h1).2;refine⟨_,c2,?_,h3,h2⟩;rw[List.take_append_of_le_length (by omega),ZR (by omega)];simp[Zp]
   |true=>
    cases hb:b.get p with
    |none=>simp only[hb]at hg;cases hg
    |some so=>
     obtain⟨s',cN⟩:=so;simp only[hb,Y3,ZV]at hg;obtain⟨rfl,rfl⟩:=hg
     cases hq:b.put p u with
     |none=>simp only[hq]at hp;cases hp
     |some b'=>
      simp only[hq,Y3]at hp;subst hp;have h3:=Holds.put hu hb hq hz h2;refine⟨c1,_,?_,h1,h3⟩
      rw[<-EO,List.take_append,List.take_of_length_le (by omega),List.drop_append,Z0 (by omega),show c1.length+cN-c1.length=cN from by omega,
       show c1.length+cN+u.size-c1.length=cN+u.size from by omega]
      simp[Zp]
end
def EM.beq:EM->EM->Bool
 | .map, .map=>aaL
 | .ptr, .ptr=>aaL
 | .func, .func=>aaL
 |_,_=>aaM
theorem EM.eq_of_beq{a b:EM}(h:a.beq b=aaL):a=b:=by cases a<;>cases b<;>first|rfl|cases h
def Row.beq:Row->Row->Bool
 | .int k, .int k'=>decide (k=k')
 | .bool, .bool=>aaL
 | .str, .str=>aaL
 | .iU, .iU=>aaL
 | .nul a, .nul b=>a.beq b
 | .map a x b, .map c y d=>a.beq c&&(bif x then y else !y)&&b.beq d
 | .slice a, .slice b=>a.beq b
 | .pair a b, .pair c d=>a.beq c&&b.beq d
 |_,_=>aaM
theorem Row.eq_of_beq:{r s:Row}->r.beq s=aaL->r=s
 | .int k, .int k',h=>by rw[aaQ (show decide (k=k')=aaL from h)]
 | .bool, .bool,_=>rfl
 | .str, .str,_=>rfl
 | .iU, .iU,_=>rfl
 | .nul a, .nul b,h=>by rw[EM.eq_of_beq (show a.beq b=aaL from h)]
 | .map a x b, .map c y d,h=>by
   have h':(a.beq c&&(bif x then y else !y)&&b.beq d)=aaL:=h;rw[ZE,ZE]at h'
   have nI:x=y:=by cases x<;>cases y<;>simp_all
   rw[Row.eq_of_beq h'.1.1,Row.eq_of_beq h'.2,nI]
 | .slice a, .slice b,h=>by rw[Row.eq_of_beq (show a.beq b=aaL from h)]
 | .pair a b, .pair c d,h=>by
   have h':(a.beq c&&b.beq d)=aaL:=h;rw[ZE]at h';rw[Row.eq_of_beq h'.1,Row.eq_of_beq h'.2]
def fU{r s:Row}(h:r=s)(x:r.den):s.den:=h▸x
theorem Row.beq_refl:(r:Row)->r.beq r=aaL
 | .int k=>by simp[Row.beq]
 | .bool=>rfl
 | .str=>rfl
 | .iU=>rfl
 | .nul a=>by cases a<;>rfl
 | .map a x b=>by
   show(a.beq a&&(bif x then x else !x)&&b.beq b)=aaL
   rw[Row.beq_refl a,Row.beq_refl b]
   cases x<;>rfl
 | .slice a=>Row.beq_refl a
 | .pair a b=>by
   show(a.beq a&&b.beq b)=aaL
   rw[Row.beq_refl a,Row.beq_refl b];rfl
def DR.beq:DR->DR->Bool
 | .leaf r, .leaf s=>r.beq s
 | .sl T d, .sl T' d'=>YZ T T'&&d.beq d'
 | .pair a b, .pair c d=>a.beq c&&b.beq d
 |_,_=>aaM
theorem DR.eq_of_beq:{d e:DR}->d.beq e=aaL->d=e
 | .leaf r, .leaf s,h=>by rw[Row.eq_of_beq (show r.beq s=aaL from h)]
 | .sl T d, .sl T' d',h=>by
   obtain⟨h1,h2⟩:=(ZE _ _▸(show(YZ T T'&&d.beq d')=aaL from h):YZ T T'=aaL/\d.beq d'=aaL)
   rw[ZM h1,DR.eq_of_beq h2]
 | .pair a b, .pair c d,h=>by
   obtain⟨h1,h2⟩:=(ZE _ _▸(show(a.beq c&&b.beq d)=aaL from h):a.beq c=aaL/\b.beq d=aaL)
   rw[DR.eq_of_beq h1,DR.eq_of_beq h2]
 | .leaf _, .sl ..,h=>by cases h
 | .leaf _, .pair ..,h=>by cases h
 | .sl .., .leaf _,h=>by cases h
 | .sl .., .pair ..,h=>by cases h
 | .pair .., .leaf _,h=>by cases h
 | .pair .., .sl ..,h=>by cases h
theorem DR.beq_refl:(d:DR)->d.beq d=aaL
 | .leaf r=>Row.beq_refl r
 | .sl T d=>by show(YZ T T&&d.beq d)=aaL;rw[DR.beq_refl d,Bool.and_true];exact Nat.beq_refl T
 | .pair a b=>by show(a.beq a&&b.beq b)=aaL;rw[DR.beq_refl a,DR.beq_refl b];rfl
def k8:List Bool->List Bool->Bool
 |[],[]=>aaL
 |a::p,b::q=>(bif a then b else !b)&&k8 p q
 |_,_=>aaM
theorem nL:{p q:List Bool}->k8 p q=aaL->p=q
 |[],[],_=>rfl
 |a::p,b::q,h=>by
  have h':((bif a then b else !b)&&k8 p q)=aaL:=h;rw[ZE]at h';rw[nL h'.2];have:=h'.1
  cases a<;>cases b<;>simp_all
 |[],_::_,h=>by cases h
 |_::_,[],h=>by cases h
def flat(ob:Nat->Option (Nat×Th)):(r:Row)->Tree->Option r.den
 |r, .leaf s x=>if h:s.beq r=aaL then some (fU (Row.eq_of_beq h) x)else aaK
 | .slice e, .own o=>match ob o with
   |some (_, .pf _ s l)=>if h:s.beq e=aaL then some (fU (r:= .slice s) (s:= .slice e) (aaV Row.slice (Row.eq_of_beq h)) l)else aaK
   |some (_, .fdeep _ d l)=>if h:d.row.beq e=aaL then some (fU (r:= .slice d.row) (s:= .slice e) (aaV Row.slice (Row.eq_of_beq h)) l)else aaK
   |_=>aaK
 | .slice _, .nil=>some []
 | .map K agg V, .own o=>match ob o with
   |some (_, .fmap _ K' dh V' l)=>if h:(Row.map K' dh V').beq (.map K agg V)=aaL then some (fU (Row.eq_of_beq h) l)else aaK
   |_=>aaK
 | .slice e, .view o s r m=>match ob o with
   |some (s', .pf ..)=>bif YZ s' s then(if h:r.beq e=aaL then some (fU (r:= .slice r) (s:= .slice e) (aaV Row.slice (Row.eq_of_beq h)) m)else aaK)else aaK
   |_=>aaK
 | .pair a b, .pair t u=>match flat ob a t with
   |none=>aaK
   |some x=>match flat ob b u with
    |none=>aaK
    |some y=>some (x,y)
 |_,_=>aaK
section
variable {U:Nat->Prop} {H:aj} {F:Nat->Prop} {w:World} {ob:Nat->Option (Nat×Th)} {n:Nat}
theorem tS(hs:al U H F w ob n){o s:Nat}{T:TypeId}{r0 r:Row}{l0:List r0.den}{m:List r.den}{v:Value}(ho:ob o=some (s, .pf T r0 l0))(h:iW H o s r m v):bN F w (.slice r) [v] m:=by
 obtain⟨A,cap,T',l,a,b,h1,h2,h3,h4,rfl,rfl⟩:=h;obtain⟨v',cV,bL⟩:=hs.obj _ _ _ ho;rw[h1]at cV;obtain rfl:=YU cV;have e:=bL.con;rw[h2]at e;simp only[Th.base,Y3,Th.own.injEq]at e;obtain⟨rfl,rfl,e⟩:=e;obtain rfl:=eq_of_heq e;exact bN.cut bL.ok h3 h4
theorem eM(hs:al U H F w ob n):{r:Row}->{t:Tree}->{x:r.den}->{cs:List Value}->flat ob r t=some x->Holds H F w t cs->bN F w r cs x
 |r, .leaf s x0,x,cs,hf,h=>by
  unfold flat at hf;split at hf
  .rename_i e;obtain rfl:=Row.eq_of_beq e;obtain rfl:=YU hf;exact h
  .cases hf
 | .slice e, .own o,x,cs,hf,h=>by
   unfold flat at hf;split at hf
   .rename_i s0 T s l qj;split at hf
    .rename_i e;obtain rfl:=Row.eq_of_beq e;obtain rfl:=YU hf;obtain⟨v,hv,_,rfl⟩:=h;obtain⟨v',cV,bL⟩:=hs.obj _ _ _ qj;rw[hv]at cV;obtain rfl:=YU cV;exact bL.ok
    .cases hf
   .rename_i s0 T d l qj;split at hf
    .rename_i e;obtain rfl:=Row.eq_of_beq e;obtain rfl:=YU hf;obtain⟨v,hv,_,rfl⟩:=h;obtain⟨v',cV,bL⟩:=hs.obj _ _ _ qj;rw[hv]at cV;obtain rfl:=YU cV;exact bL.ok
    .cases hf
   .cases hf
 | .map K agg V, .own o,x,cs,hf,h=>by
   unfold flat at hf;split at hf
   .rename_i s0 T K' dh V' l qj;split at hf
    .rename_i e;cases Row.eq_of_beq e;obtain rfl:=YU hf;obtain⟨v,hv,_,rfl⟩:=h;obtain⟨v',cV,bL⟩:=hs.obj _ _ _ qj;rw[hv]at cV;obtain rfl:=YU cV;exact bL.ok
    .cases hf
   .cases hf
 | .slice e, .nil,x,cs,hf,h=>by
   unfold flat at hf;obtain rfl:=YU hf;rw[show cs=_ from h];exact bN.nil F w e
 | .slice e, .view o s r m,x,cs,hf,h=>by
   unfold flat at hf;split at hf
   .rename_i s' T r' l' qj
    cases hb:YZ s' s with
    |false=>rw[hb]at hf;cases hf
    |true=>
     rw[hb,cond_true]at hf;obtain rfl:=ZM hb;split at hf
     .rename_i e;obtain rfl:=Row.eq_of_beq e;obtain rfl:=YU hf;obtain⟨v,rfl,h⟩:=h;exact tS hs qj h
     .cases hf
   .cases hf
 | .pair a b, .pair t u,x,cs,hf,h=>by
   obtain⟨c1,c2,rfl,h1,h2⟩:=h;unfold flat at hf
   cases ha:flat ob a t with
   |none=>simp only[ha]at hf;cases hf
   |some p=>
    cases hb:flat ob b u with
    |none=>simp only[ha,hb]at hf;cases hf
    |some q=>
     simp only[ha,hb,Y3]at hf;subst hf;exact⟨c1,c2,rfl,eM hs ha h1,eM hs hb h2⟩
 | .int _, .own _,_,_,hf,_=>by unfold flat at hf;cases hf
 | .bool, .own _,_,_,hf,_=>by unfold flat at hf;cases hf
 | .str, .own _,_,_,hf,_=>by unfold flat at hf;cases hf
 | .iU, .own _,_,_,hf,_=>by unfold flat at hf;cases hf
 | .nul _, .own _,_,_,hf,_=>by unfold flat at hf;cases hf
 | .pair _ _, .own _,_,_,hf,_=>by unfold flat at hf;cases hf
 | .int _, .nil,_,_,hf,_=>by unfold flat at hf;cases hf
 | .bool, .nil,_,_,hf,_=>by unfold flat at hf;cases hf
 | .str, .nil,_,_,hf,_=>by unfold flat at hf;cases hf
 | .iU, .nil,_,_,hf,_=>by unfold flat at hf;cases hf
 | .nul _, .nil,_,_,hf,_=>by unfold flat at hf;cases hf
 | .map .., .nil,_,_,hf,_=>by unfold flat at hf;cases hf
 | .pair _ _, .nil,_,_,hf,_=>by unfold flat at hf;cases hf
 | .int _, .view ..,_,_,hf,_=>by unfold flat at hf;cases hf
 | .bool, .view ..,_,_,hf,_=>by unfold flat at hf;cases hf
 | .str, .view ..,_,_,hf,_=>by unfold flat at hf;cases hf
 | .iU, .view ..,_,_,hf,_=>by unfold flat at hf;cases hf
 | .nul _, .view ..,_,_,hf,_=>by unfold flat at hf;cases hf
 | .map .., .view ..,_,_,hf,_=>by unfold flat at hf;cases hf
 | .pair _ _, .view ..,_,_,hf,_=>by unfold flat at hf;cases hf
 | .int _, .junk _,_,_,hf,_=>by unfold flat at hf;cases hf
 | .bool, .junk _,_,_,hf,_=>by unfold flat at hf;cases hf
 | .str, .junk _,_,_,hf,_=>by unfold flat at hf;cases hf
 | .slice _, .junk _,_,_,hf,_=>by unfold flat at hf;cases hf
 | .iU, .junk _,_,_,hf,_=>by unfold flat at hf;cases hf
 | .nul _, .junk _,_,_,hf,_=>by unfold flat at hf;cases hf
 | .map .., .junk _,_,_,hf,_=>by unfold flat at hf;cases hf
 | .pair _ _, .junk _,_,_,hf,_=>by unfold flat at hf;cases hf
 | .int _, .pair _ _,_,_,hf,_=>by unfold flat at hf;cases hf
 | .bool, .pair _ _,_,_,hf,_=>by unfold flat at hf;cases hf
 | .str, .pair _ _,_,_,hf,_=>by unfold flat at hf;cases hf
 | .iU, .pair _ _,_,_,hf,_=>by unfold flat at hf;cases hf
 | .nul _, .pair _ _,_,_,hf,_=>by unfold flat at hf;cases hf
 | .map .., .pair _ _,_,_,hf,_=>by unfold flat at hf;cases hf
 | .slice _, .pair _ _,_,_,hf,_=>by unfold flat at hf;cases hf
end
def Row.wV:Row->Tree
 | .slice _=> .nil
 | .pair a b=> .pair a.wV b.wV
 |r=> .leaf r r.zero
theorem Row.jS(H:aj)(F:Nat->Prop)(w:World):(r:Row)->Holds H F w r.wV r.dw
 | .int _=>rfl
 | .bool=>rfl
 | .str=>rfl
 | .slice _=>rfl
 | .iU=>⟨rfl,aaK,0,0,rfl⟩
 | .nul _=>rfl
 | .map .. =>⟨_,rfl, .inl ⟨rfl,rfl⟩⟩
 | .pair a b=>⟨_,_,rfl,Row.jS H F w a,Row.jS H F w b⟩
end
end Go.Proofs.YtbladfbbhijpmaaGreat
section
open _root_.Bool renaming false->aaM,true->aaL
open _root_.Option renaming none->aaK,isSome_iff_exists->ZC
open _root_.Go.Addr.mk renaming injEq->aam
open _root_.Array renaming toArray_toList->ZF
open _root_.Int renaming toNat_natCast->Y4
open _root_.List renaming getElem?_drop->Zc,getElem?_take->Zo
open _root_.Nat renaming add_mul->ZH,add_zero->Z1,beq->YZ,blt->ZK,eq_of_beq_eq_true->ZM,le_refl->YY,lt_of_lt_of_le->Zv
open _root_.Option.some renaming inj->YU,injEq->Y3
open _root_.Prod.mk renaming inj->aan,injEq->ZV
open _root_.Go.Value renaming oneCell'->aaf
open _root_.Go.Value.pointer renaming injEq->aaG
namespace Go.Proofs.YtbladfbbhijpmaaGreat
open Go Go.RowKit
section
variable {P:Program} {ρ:Nat->Value} {w w':World} {H H':aj} {F F':Nat->Prop} {U:Nat->Prop} {ob:Nat->Option (Nat×Th)} {n:Nat} {R:Type}
variable {op:Op} {ty:TypeId} {pos:String} {aft:Array Edge} {d:Nat}
theorem al.box(hs:al U H F w ob n){o s:Nat}{T:TypeId}{t:Tree}(ho:ob o=some (s, .box T t)){b:Nat}(hb:H.val o=some (.pointer (some ⟨b,0,aaK⟩))):
 ∃es,w.heap[b]? =some (.cells es.toArray T (0,0))/\Holds H F w t es:=by
 obtain⟨v,hv,hi⟩:=hs.obj _ _ _ ho;rw[hb]at hv;obtain rfl:=YU hv;obtain⟨b',es,e,h1,h2⟩:=hi.ok;simp only[aaG,Y3,aam,and_true]at e;subst e;exact⟨es,h1,h2⟩
theorem al.own(hs:al U H F w ob n){o s:Nat}{T:TypeId}{r:Row}{l:List r.den}(ho:ob o=some (s, .own T r l)){v:Value}(hv:H.val o=some v):fN 0 F w T r v l:=by
 obtain⟨v',cV,hi⟩:=hs.obj _ _ _ ho;rw[hv]at cV;obtain rfl:=YU cV;exact⟨hi.no,hi.ok⟩
theorem wW{fs:List (TypeId×Nat)}{arr:Array Field}(ha:arr.toList.map (λf=>(f.type,f.offset))=fs){f:Nat}{ft:TypeId}{off:Nat}(hf:fs[f]? =some (ft,off)):∃fd,arr[f]? =some fd/\fd.type=ft/\fd.offset=off:=by
 subst ha;rw[List.getElem?_map]at hf
 cases hq:arr.toList[f]? with
 |none=>rw[hq]at hf;cases hf
 |some fd=>
  rw[hq]at hf;simp only[Option.map_some,Y3,ZV]at hf;exact⟨fd,by rw[<-Array.getElem?_toList];exact hq,hf.1,hf.2⟩
def sub(r:Row)(x:r.den)(p:List Bool):Option ((s:Row)×s.den×Nat):=
 match Tree.get (.leaf r x) p with
 |some (.leaf s y,off)=>some ⟨s,y,off⟩
 |_=>aaK
theorem zD{r s:Row}{x:r.den}{y:s.den}{p:List Bool}{off b k:Nat}(h:sub r x p=some ⟨s,y,off⟩)(ha:At F w r b k x):At F w s b (k+off) y:=by
 unfold sub at h;split at h
 .rename_i s' y' cN hg;simp only[Y3,Sigma.mk.injEq]at h;obtain⟨rfl,h⟩:=h;obtain⟨rfl,rfl⟩:=aan (eq_of_heq h);obtain⟨es,hl,hc,hr⟩:=ha;obtain⟨g1,g2⟩:=Holds.get (H:=⟨λ_=>aaK,λ_=>aaK,λ_ _=>False⟩) (F:=F) (w:=w) (cs:=es) hg hr;have M0:bN F w s' ((es.drop cN).take s'.size) y':=g1;refine⟨_,M0.length,λj u hu=>?_,M0⟩;rw[Zo]at hu;split at hu
  .rw[Zc]at hu;rw[Nat.add_assoc];exact hc _ u hu
  .cases hu
 .cases h
def zE(T:aJ P)(t:TypeId)(f:Nat)(D:ag):Option ag:=
 match find T.und t with
 |some (.struct fs)=>match fs[f]? with
  |some (ft,off)=>match find T.row ft with
   |some _=>match D with
    | .ptr o p k=>some (.ptr o (p++oz fs.length f) (k+off))
    | .at r x=>match sub r x (oz fs.length f)with
      |some ⟨s,y,cN⟩=>bif YZ cN off then some (.at s y)else aaK
      |none=>aaK
    | .elem o s r i x p k=>some (.elem o s r i x (p++oz fs.length f) (k+off))
    | .dlm o d i p k=>some (.dlm o d i (p++oz fs.length f) (k+off))
    |_=>aaK
   |none=>aaK
  |none=>aaK
 |_=>aaK
theorem beq_true{m k:Nat}(h:YZ m k=aaL):m=k:=ZM h
theorem oA{α:Type}{b:Bool}{x:α}{y:α}(h:(bif b then some x else aaK)=some y):b=aaL/\x=y:=by
 cases b with
 |true=>exact⟨rfl,YU h⟩
 |false=>cases h
theorem C2(T:aJ P){t:TypeId}{f:Nat}{D D':ag}{x:Operand}(h:zE T t f D=some D')(hs:al U H F w ob n)(hx:af H F w D (ev ρ x)):
 bK P U H F w ρ ob n ⟨some d, .fieldAddr t x f,ty,pos,aft,aaK⟩ {dst:=D'}:=by
 unfold zE at h;split at h
 case h_2=>cases h
 rename_i fs hu;obtain⟨arr,EP,Iz⟩:=T.und_ok _ _ hu;split at h
 case h_2=>cases h
 rename_i ft off hf;obtain⟨fd,Mq,rfl,rfl⟩:=wW Iz hf;split at h
 case h_2=>cases h
 rename_i r' Bp;have tT:=T.row_ok _ _ Bp;split at h
 .obtain rfl:=YU h;obtain⟨b,h1,h2⟩:=hx;exact aB hs (jQ (r:=r') fd.offset EP Mq tT rfl h2) ⟨b,h1,rfl⟩
 .split at h
  .rename_i s y cN eH;obtain⟨h1,rfl⟩:=oA h;obtain rfl:=beq_true h1;obtain⟨b,k,h2,h3,h4⟩:=hx;exact aB hs (jQ (r:=r') fd.offset EP Mq tT rfl h2) ⟨b,_,rfl,h3,zD eH h4⟩
  .cases h
 .obtain rfl:=YU h;obtain⟨g,o0,q,T',m,cap,l,h1,h2,h3,h4,h5⟩:=hx;exact aB hs (jQ (r:=r') fd.offset EP Mq tT rfl h5) ⟨g,o0,q,T',m,cap,l,h1,h2,h3,h4,by rw[Nat.add_assoc]⟩
 .obtain rfl:=YU h;obtain⟨g,o0,q,m,cap,h1,h2,h5⟩:=hx;exact aB hs (jQ (r:=r') fd.offset EP Mq tT rfl h5) ⟨g,o0,q,m,cap,h1,h2,by rw[Nat.add_assoc]⟩
 .cases h
theorem bN.elemAt{r:Row}{v:Value}{l:List r.den}(h:bN F w (.slice r) [v] l){i:Int}{y:r.den}(hi:idx l i=some y):
 ∃b off cap k,v= .slice (some ⟨b,off,aaK⟩) l.length cap/\i=(k:Nat)/\k<l.length/\F b/\At F w r b (off+k*r.size) y:=by
 obtain⟨A,cap,hv,_,_,h4⟩:=h;obtain⟨k,hk,ai,rfl⟩:=ef hi;obtain⟨b,off,es,rfl,hF,qI,hc,hr⟩:=h4 k ai;exact⟨b,off,cap,k,by simpa using hv,hk,ai,hF,es,qI,hc,hr⟩
inductive FE where
 |read (r:Row) (l:List r.den)
 |own (o s:Nat) (T:TypeId) (r:Row) (l:List r.den)
 |nil
 |view (o s:Nat) (r:Row) (l:List r.den)
 |deep (o s:Nat) (T:TypeId) (d:DR) (l:List d.row.den) (h:Option rz)
def qN(ob:Nat->Option (Nat×Th)):ag->Option FE
 | .val aaM (.leaf (.slice r) l)=>some (.read r l)
 | .val aaM .nil=>some .nil
 | .val aaM (.own o)=>match ob o with
   |some (s, .own T r l)=>some (.own o s T r l)
   |some (_, .pf _ r l)=>some (.read r l)
   |some (_, .fdeep _ d l)=>some (.read d.row l)
   |some (s, .deep T d l h)=>some (.deep o s T d l h)
   |_=>aaK
 | .val aaM (.view o s r m)=>match ob o with
   |some (s', .pf ..)=>bif YZ s' s then some (.read r m)else some (.view o s r m)
   |_=>some (.view o s r m)
 |_=>aaK
def IA(U:Nat->Prop)(H:aj)(F:Nat->Prop)(w:World)(ob:Nat->Option (Nat×Th))(v:Value):FE->Prop
 | .read r l=>bN F w (.slice r) [v] l
 | .own o s T r l=>H.val o=some v/\ob o=some (s, .own T r l)/\fN 0 F w T r v l
 | .nil=>v= .slice aaK 0 0
 | .view o s r m=>iW H o s r m v
 | .deep o s T d l h=>H.val o=some v/\ob o=some (s, .deep T d l h)/\CY U H F w v s (.deep T d l h)
theorem fD(hs:al U H F w ob n){D:ag}{k:FE}{v:Value}(h:qN ob D=some k)(hd:af H F w D v):IA U H F w ob v k:=by
 unfold qN at h;split at h
 .cases h;exact aw.inv hd
 .cases h;obtain⟨cs,h1,_,h3⟩:=hd;have rC:cs=_:=h1;rw[h3 rfl]at rC;simpa[IA]using rC
 .rename_i o;obtain⟨cs,⟨u,hu,EP,e⟩,_,h3⟩:=hd;rw[h3 rfl]at e
  obtain rfl:v=u:=by simpa using e
  split at h
  .rename_i s T r l qj;cases h;exact⟨hu,qj,hs.own qj hu⟩
  .rename_i s T r l qj;cases h;obtain⟨v',cV,hi⟩:=hs.obj _ _ _ qj;rw[hu]at cV;obtain rfl:=YU cV;exact hi.ok
  .rename_i s T d l qj;cases h;obtain⟨v',cV,hi⟩:=hs.obj _ _ _ qj;rw[hu]at cV;obtain rfl:=YU cV;exact hi.ok
  .rename_i s T d l h' qj;cases h;obtain⟨v',cV,hi⟩:=hs.obj _ _ _ qj;rw[hu]at cV;obtain rfl:=YU cV;exact⟨hu,qj,hi⟩
  .cases h
 .rename_i o s r m;obtain⟨cs,⟨u,e,hu⟩,_,h3⟩:=hd;rw[h3 rfl]at e
  obtain rfl:v=u:=by simpa using e
  split at h
  .rename_i s' T r' l' qj
   cases hb:YZ s' s with
   |false=>rw[hb]at h;cases h;exact hu
   |true=>
    rw[hb]at h;obtain rfl:=ZM hb;cases h;exact tS hs qj hu
  .cases h;exact hu
 .cases h
def iY:Nat->(r:Row)->r.den->(e:Row)->Option (List e.den)
 |1,r,x,e=>if h:r.beq e=aaL then some [fU (Row.eq_of_beq h) x]else aaK
 |m+2, .pair a b,x,e=>if h:a.beq e=aaL then(match iY (m+1) b x.2 e with
  |some l=>some (fU (Row.eq_of_beq h) x.1::l)
  |none=>aaK)else aaK
 |_,_,_,_=>aaK
theorem Bq{e:Row}{b:Nat}:{m:Nat}->{r:Row}->{x:r.den}->{l:List e.den}->{off:Nat}->iY m r x e=some l->At F w r b off x->l.length=m/\∀i(h:i<l.length),At F w e b (off+i*e.size) l[i]
 |0,r,x,l,off,h,_=>by unfold iY at h;cases h
 |1,r,x,l,off,h,ha=>by
  unfold iY at h;split at h
  case isFalse=>cases h
  rename_i hb;obtain rfl:=Row.eq_of_beq hb;obtain rfl:=YU h;refine⟨rfl,λi hi=>?_⟩
  obtain rfl:i=0:=by simp at hi;omega
  rw[Nat.zero_mul,Z1];exact ha
 |m+2, .pair a b',x,l,off,h,ha=>by
  unfold iY at h;split at h
  case isFalse=>cases h
  rename_i hb;obtain rfl:=Row.eq_of_beq hb;split at h
  case h_2=>cases h
  rename_i l' hl;obtain rfl:=YU h;obtain⟨g1,g2⟩:=Bq hl (ha.snd _ rfl);refine⟨by simp[g1],λi hi=>?_⟩
  cases i with
  |zero=>
   rw[Nat.zero_mul,Z1];exact ha.fst
  |succ i=>
   have:=g2 i (by simpa using hi);rw[show off+(i+1)*a.size=off+a.size+i*a.size from by rw[ZH];omega];exact this
 |m+2, .int _,_,_,_,h,_=>by unfold iY at h;cases h
 |m+2, .bool,_,_,_,h,_=>by unfold iY at h;cases h
 |m+2, .str,_,_,_,h,_=>by unfold iY at h;cases h
 |m+2, .slice _,_,_,_,h,_=>by unfold iY at h;cases h
 |m+2, .iU,_,_,_,h,_=>by unfold iY at h;cases h
 |m+2, .nul _,_,_,_,h,_=>by unfold iY at h;cases h
 |m+2, .map ..,_,_,_,h,_=>by unfold iY at h;cases h
theorem nu{t e:TypeId}{x y:Operand}{kd:IntKind}{a:Int}{ti:TypeInfo}{m kr off i:Nat}(size:Nat)(ht:P.underlying t=some (.array m e))(hi:P.info? e=some ti)(iA:ti.size=size)
 (hx:ev ρ x= .pointer (some ⟨kr,off,aaK⟩))(hy:ev ρ y= .int kd a)(ha:a=(i:Int))(ai:i<m):
 Pure P ρ ⟨some d, .indexAddr t x y,ty,pos,aft,aaK⟩ (.pointer (some ⟨kr,off+i*size,aaK⟩)):=λw=>by
 subst iA;subst ha;simp[execOp,Instr.indexAt,Instr.sureAddr,asIntOf,run_underlying ht,sizeOf,typeInfo,hi,hx,hy,ai,bT]
theorem Br{α:Type}{b:Bool}{x:Option α}{y:α}(h:(bif b then x else aaK)=some y):b=aaL/\x=some y:=by
 cases b with
 |true=>exact⟨rfl,h⟩
 |false=>cases h
def mH(T:aJ P)(m:Nat)(e:TypeId)(D:ag)(i:Int)(k:cU->Option R):Option R:=
 match find T.row e with
 |some re=>match D with
  | .at r x=>match iY m r x re with
    |some l=>(idx l i).bind λy=>k {dst:= .at re y}
    |none=>aaK
  | .ptr o p off=>match i with
    | .ofNat j=>bif ZK j m then k {dst:= .ptr o (p++oz m j) (off+j*re.size)}else aaK
    | .negSucc _=>aaK
  |_=>aaK
 |none=>aaK
theorem zF(T:aJ P){t:TypeId}{m:Nat}{e:TypeId}(hu:P.underlying t=some (.array m e)){D:ag}{x y:Operand}{kd:IntKind}{i:Int}{k:cU->Option R}{q:R}(h:mH T m e D i k=some q)(hs:al U H F w ob n)(hx:af H F w D (ev ρ x))(hy:ev ρ y= .int kd i):
 ∃e,k e=some q/\bK P U H F w ρ ob n ⟨some d, .indexAddr t x y,ty,pos,aft,aaK⟩ e:=by
 unfold mH at h;split at h
 case h_2=>cases h
 rename_i re hr;obtain⟨ti,z,h1,_,_,h4,_⟩:=T.row_ok _ _ hr;split at h
 case h_3=>cases h
 case h_2=>
  split at h
  case h_2=>cases h
  rename_i o p off _ j;obtain⟨ai,hk⟩:=Br h
  have ai:j<m:=by simpa using ai
  obtain⟨b,hb,hv⟩:=hx;exact⟨_,hk,aB hs (nu re.size hu h1 h4 hv hy rfl ai) ⟨b,hb,rfl⟩⟩
 rename_i r v;split at h
 case h_2=>cases h
 rename_i l hl;obtain⟨a,ha,hk⟩:=bind_some h;obtain⟨b,off,hv,hF,pb⟩:=hx;obtain⟨g1,g2⟩:=Bq hl pb;obtain⟨j,hj,ai,rfl⟩:=ef ha;exact⟨_,hk,aB hs (nu re.size hu h1 h4 hv hy hj (by omega)) ⟨b,_,rfl,hF,g2 j ai⟩⟩
def pj(T:aJ P)(ob:Nat->Option (Nat×Th))(t:TypeId)(D:ag)(i:Int)(k:cU->Option R):Option R:=
 match find T.und t with
 |some (.slice e)=>match find T.row e with
  |some re=>match qN ob D with
   |some (.read r l)=>bif YZ r.size re.size then(idx l i).bind λx=>k {dst:= .at r x}else aaK
   |some (.own o s _ r l)=>bif YZ r.size re.size then(idx l i).bind λx=>k {dst:= .elem o s r i x [] 0}else aaK
   |some (.deep o _ _ d l _)=>bif YZ d.low.size re.size then(idx l i).bind λ_=>k {dst:= .dlm o d i [] 0}else aaK
   |_=>aaK
  |none=>aaK
 |some (.array m e)=>mH T m e D i k
 |_=>aaK
theorem C3(T:aJ P){t:TypeId}{D:ag}{x y:Operand}{kd:IntKind}{i:Int}{k:cU->Option R}{q:R}(h:pj T ob t D i k=some q)(hs:al U H F w ob n)(hx:af H F w D (ev ρ x))(hy:ev ρ y= .int kd i):
 ∃e,k e=some q/\bK P U H F w ρ ob n ⟨some d, .indexAddr t x y,ty,pos,aft,aaK⟩ e:=by
 unfold pj at h;split at h
 case h_3=>cases h
 case h_2=>rename_i m e hu;exact zF T (T.und_ok _ _ hu) h hs hx hy
 rename_i e hu;have hu:=T.und_ok _ _ hu;split at h
 case h_2=>cases h
 rename_i re hr;obtain⟨ti,z,h1,_,_,h4,_⟩:=T.row_ok _ _ hr;split at h
 .rename_i r l fc
  cases hz:YZ r.size re.size with
  |false=>rw[hz]at h;cases h
  |true=>
   rw[hz,cond_true]at h;have hz:=beq_true hz;obtain⟨a,ha,hk⟩:=bind_some h;have fc:=fD hs fc hx;obtain⟨b,off,cap,j,hv,hj,ai,hF,pb⟩:=bN.elemAt fc ha;refine⟨_,hk,aB hs (jq r.size hu h1 (h4.trans hz.symm) hv hy hj ai) ⟨b,_,rfl,hF,pb⟩⟩
 .rename_i o s T' r l fc
  cases hz:YZ r.size re.size with
  |false=>rw[hz]at h;cases h
  |true=>
   rw[hz,cond_true]at h;have hz:=beq_true hz;obtain⟨a,ha,hk⟩:=bind_some h;obtain⟨hv,bR,dc⟩:=fD hs fc hx;obtain⟨v',cV,bL⟩:=hs.obj _ _ _ bR;obtain⟨j,hj,ai,UT⟩:=ef ha;obtain⟨_,xs,zb,_⟩:=dc
   rcases zb.2 with⟨C4,h0⟩|⟨g,o0,cap,cur,vh,_,_,_⟩
   .omega
   .have hp:=jq (P:=P) (d:=some d) (ty:=ty) (pos:=pos) (aft:=aft) r.size hu h1 (h4.trans hz.symm) vh hy hj ai;refine⟨_,hk,aB hs hp ⟨g,o0,j,T',l.length,cap,l,?_,hj,bL.con,ha,rfl⟩⟩;rw[<-vh];exact hv
 .rename_i o s T' d' l hh fc;obtain⟨hz,h⟩:=Br h;have hz:=beq_true hz;obtain⟨a,ha,hk⟩:=bind_some h;obtain⟨hv,bR,bL⟩:=fD hs fc hx;obtain⟨j,hj,ai,UT⟩:=ef ha;obtain⟨lh,_,⟨xs,zb,_⟩,Mp,_⟩:=bL.ok
  rcases zb.2 with⟨C4,h0⟩|⟨g,o0,cap,cur,vh,_,_,_⟩
  .omega
  .have hp:=jq (P:=P) (d:=some d) (ty:=ty) (pos:=pos) (aft:=aft) d'.low.size hu h1 (h4.trans hz.symm) vh hy hj (by omega);refine⟨_,hk,aB hs hp ⟨g,o0,j,lh.length,cap,?_,hj,rfl⟩⟩;rw[<-vh];exact hv
 .cases h
theorem rF{b:Nat}{T:TypeId}{es:List Value}(hh:w.heap[b]? =some (.cells es.toArray T (0,0)))(j:Nat):w.cell? ⟨b,j,aaK⟩=es[j]? :=by
 rw[cell_of_row w b j _ T (0,0) hh];simp
theorem kB(T:aJ P){t:TypeId}{kk:EN}(hu:find T.und t=some kk){x:Operand}{b off:Nat}{s:Tree}{cs:List Value}(hx:ev ρ x= .pointer (some ⟨b,off,aaK⟩))(hs:al U H F w ob n)
 (hh:Holds H F w s cs)(hc:∀j u,cs[j]? =some u->w.cell? ⟨b,off+j,aaK⟩=some u)
 (hz:if gJ kk=aaL then∃r,find T.row t=some r/\r.size=s.size else s.size=1):
 bK P U H F w ρ ob n ⟨some d, .load t x,ty,pos,aft,aaK⟩ {dst:= .val (gJ kk) s}:=by
 obtain⟨dd,tQ,sW⟩:=(T.und_ok _ _ hu).agg;have hl:=hh.length
 cases ha:gJ kk with
 |true=>
  rw[aaP ha]at hz;obtain⟨r,hr,Ia⟩:=hz;obtain⟨ti,z,h1,_,_,h4,_⟩:=T.row_ok _ _ hr;exact bj hs (CK tQ (sW.trans ha) h1 (by omega) hx hc) ⟨cs,hh,rfl,by simp⟩
 |false=>
  rw[aaO (by simp[ha])]at hz
  obtain⟨v,rfl⟩:∃v,cs=[v]:=by
   match cs,hl.trans hz with
   |[v],_=>exact⟨v,rfl⟩
  exact bj hs (tL tQ (sW.trans ha) hx (hc 0 v rfl)) ⟨[v],hh,rfl,λ_=>rfl⟩
def jv(T:aJ P)(t:TypeId)(kk:EN)(m:Nat):Bool:=
 bif gJ kk then(match find T.row t with|some r=>YZ r.size m|none=>aaM)else YZ m 1
theorem gz(T:aJ P){t:TypeId}{kk:EN}{m:Nat}(h:jv T t kk m=aaL):if gJ kk=aaL then∃r,find T.row t=some r/\r.size=m else m=1:=by
 unfold jv at h
 cases ha:gJ kk with
 |true=>
  rw[ha,cond_true]at h;rw[aaP rfl];split at h
  .rename_i r hr;exact⟨r,hr,beq_true h⟩
  .cases h
 |false=>
  rw[ha,cond_false]at h;rw[aaO (by simp)];exact beq_true h
def tU(T:aJ P)(ob:Nat->Option (Nat×Th))(t:TypeId)(D:ag)(k:cU->Option R):Option R:=
 match find T.und t with
 |none=>aaK
 |some kk=>match D with
  | .at r x=>bif jv T t kk r.size then k {dst:= .val (gJ kk) (.leaf r x)}else aaK
  | .ptr o p off=>match ob o with
    |some (_, .box _ tr)=>match tr.get p with
     |some (s,cN)=>bif YZ cN off&&jv T t kk s.size then k {dst:= .val (gJ kk) s}else aaK
     |none=>aaK
    |_=>aaK
  | .elem o s r i x p off=>match ob o with
    |some (s', .own _ r' l)=>bif YZ s' s then
      (match sub r x p with
      |some ⟨q,y,cN⟩=>bif YZ cN off&&jv T t kk q.size then k {dst:= .val (gJ kk) (.leaf q y)}else aaK
      |none=>aaK)
     else(idx l i).bind λx'=>match sub r' x' p with
      |some ⟨q,y,cN⟩=>bif YZ cN off&&jv T t kk q.size&&YZ r'.size r.size then k {dst:= .val (gJ kk) (.leaf q y)}else aaK
      |none=>aaK
    |_=>aaK
  |_=>aaK
theorem ay{α:Type}{b:Bool}{x:Option α}{y:α}(h:(bif b then x else aaK)=some y):b=aaL/\x=some y:=by
 cases b with
 |true=>exact⟨rfl,h⟩
 |false=>cases h
theorem bO{a b:Bool}(h:(a&&b)=aaL):a=aaL/\b=aaL:=by simpa using h
theorem Bt(hs:al U H F w ob n){o s':Nat}{T':TypeId}{r':Row}{i:Int}{x':r'.den}{l:List r'.den}{g o0 q m cap:Nat}(bR:ob o=some (s', .own T' r' l))(hv:H.val o=some (.slice (some ⟨g,o0,aaK⟩) m cap))(hq:i=(q:Nat))(hi:idx l i=some x'):
 At F w r' g (o0+q*r'.size) x':=(hs.own bR hv).at rfl hq hi
theorem FF(T:aJ P){t:TypeId}{D:ag}{x:Operand}{k:cU->Option R}{q:R}(h:tU T ob t D k=some q)(hs:al U H F w ob n)(hx:af H F w D (ev ρ x)):
 ∃e,k e=some q/\bK P U H F w ρ ob n ⟨some d, .load t x,ty,pos,aft,aaK⟩ e:=by
 unfold tU at h;split at h
 .cases h
 rename_i kk hu;split at h
 .rename_i r y;obtain⟨h1,h2⟩:=ay h;obtain⟨b,off,e,hF,es,hl,hc,hr⟩:=hx;exact⟨_,h2,kB T hu e hs (s:= .leaf r y) hr hc (gz T h1)⟩
 .rename_i o p off;split at h
  .rename_i UW T0 tr bR;split at h
   .rename_i s cN hg;obtain⟨h1,h2⟩:=ay h;obtain⟨h1,h3⟩:=bO h1;obtain rfl:=beq_true h1;obtain⟨b,hb,e⟩:=hx;obtain⟨es,hh,JV⟩:=hs.box bR hb;obtain⟨g1,g2⟩:=JV.get hg;refine⟨_,h2,kB T hu e hs g1 (λj u hj=>?_) (gz T h3)⟩;rw[rF hh];rw[Zo]at hj;split at hj
    .rwa [Zc]at hj
    .cases hj
   .cases h
  .cases h
 .rename_i o s r i y p off;split at h
  .rename_i s' T0 r' l bR;obtain⟨g,o0,qq,T',m,cap,l0,e1,e2,e3,e4,e5⟩:=hx
   cases wK:YZ s' s with
   |true=>
    rw[wK,cond_true]at h;obtain rfl:=beq_true wK;obtain⟨v,hv,bL⟩:=hs.obj _ _ _ bR;have hc:=bL.con;rw[e3]at hc
    obtain⟨rfl,wP⟩:T'=T0/\(⟨r,l0⟩:(r:Row)×List r.den)=⟨r',l⟩:=by
     have:=YU hc;simp only[Th.base,Th.own.injEq]at this;obtain⟨a,b,c⟩:=this;subst b;exact⟨a,by rw[eq_of_heq c]⟩
    cases wP;split at h
    .rename_i q' y' cN eH;obtain⟨h1,h2⟩:=ay h;obtain⟨h1,h3⟩:=bO h1;obtain rfl:=beq_true h1;obtain⟨es,hl,IB,hr⟩:=zD eH (Bt hs bR e1 e2 e4);exact⟨_,h2,kB T hu e5 hs (s:= .leaf q' y') hr IB (gz T h3)⟩
    .cases h
   |false=>
    rw[wK,cond_false]at h;obtain⟨x',HZ,h⟩:=bind_some h;split at h
    .rename_i q' y' cN eH;obtain⟨h1,h2⟩:=ay h;obtain⟨h1,h4⟩:=bO h1;obtain⟨h1,h3⟩:=bO h1;obtain rfl:=beq_true h1;have h4:=beq_true h4;obtain⟨es,hl,IB,hr⟩:=zD eH (Bt hs bR e1 e2 HZ);rw[h4]at IB;exact⟨_,h2,kB T hu e5 hs (s:= .leaf q' y') hr IB (gz T h3)⟩
    .cases h
  .cases h
 .cases h
end
end Go.Proofs.YtbladfbbhijpmaaGreat
namespace Go.Proofs.YtbladfbbhijpmaaGreat
open Go Go.RowKit
def zG:(r:Row)->List Bool->Option ((s:Row)×Path r s)
 |r,[]=>some ⟨r, .here⟩
 | .pair a b,d::p=>match d with
   |false=>match zG a p with
    |some ⟨s,q⟩=>some ⟨s, .fst q⟩
    |none=>aaK
   |true=>match zG b p with
    |some ⟨s,q⟩=>some ⟨s, .snd q⟩
    |none=>aaK
 |_,_::_=>aaK
section
variable {P:Program} {ρ:Nat->Value} {w w':World} {H H':aj} {F F':Nat->Prop} {U:Nat->Prop} {ob:Nat->Option (Nat×Th)} {n:Nat} {R:Type}
variable {op:Op} {ty:TypeId} {pos:String} {aft:Array Edge} {d:Nat}
def aj.aV(H:aj)(s:Nat)(t:Th):aj:=⟨H.val,λm=>if m=s then some t else H.con m,H.sub⟩
def aj.bS(H:aj)(o:Nat)(v:Value):aj:=⟨λm=>if m=o then some v else H.val m,H.con,H.sub⟩
def aj.de(H:aj)(s:Nat)(S:Nat->Prop):aj:=⟨H.val,H.con,λm=>if m=s then S else H.sub m⟩
theorem aj.ei{H:aj}{s:Nat}{t:Th}(h:H.con s=aaK):H.le (H.aV s t):=⟨λ_ _ h=>h,λm q hq=>by
 by_cases e:m=s
 .subst e;rw[h]at hq;cases hq
 .simp[aj.aV,e,hq],λ_ _ _=>rfl⟩
theorem aj.C5{H:aj}{s:Nat}{S:Nat->Prop}(h:H.con s=aaK):H.le (H.de s S):=⟨λ_ _ h=>h,λ_ _ h=>h,λm t hm=>by
 have:m≠s:=λe=>by rw[e,h]at hm;cases hm
 simp[aj.de,this]⟩
theorem aj.mI{H:aj}{s:Nat}{t:Value}(h:H.val s=aaK):H.le (H.bS s t):=⟨λm q hq=>by
 by_cases e:m=s
 .subst e;rw[h]at hq;cases hq
 .simp[aj.bS,e,hq],λ_ _ h=>h,λ_ _ _=>rfl⟩
theorem bB{α:Type}{o o':Nat}{x y:α}(h:find [(o,x)] o'=some y):o'=o/\y=x:=by
 rw[ax]at h;split at h
 .rename_i e;exact⟨e.symm,(YU h).symm⟩
 .cases h
theorem iX.q7(hs:al U H F w ob n){o s:Nat}{t t':Th}{v0:Value}(ho:ob o=some (s,t))(hv:H.val o=some v0)(hb:t'.base=t')(FG:∀k,fp (H.sub n) v0 t' k->fp (H.sub s) v0 t k){D:ag}{v:Value}
 (bl:Ext (fp (H.sub s) v0 t) w w')(jL:fg (H.aV n t') F w' (H.sub n) v0 t')(hd:af (H.aV n t') F w' D v):jc H F w ob n {dst:=D,eat:=[o],make:=[(o,(n,t'))]} v w':=by
 obtain⟨v1,q8,bL⟩:=hs.obj _ _ _ ho;rw[hv]at q8;obtain rfl:=YU q8
 have eU:∀k,fp (H.sub s) v0 t k->bE H ob [o] k:=λk hk=>⟨o,by simp,s,t,v0,ho,hv,hk⟩
 refine⟨H.aV n t',F,⟨aj.ei (hs.fresh n (YY _) (by omega)).2,⟨bl.os,bl.tape,bl.output,bl.size,λk hk hn=>bl.block k hk λe=>hn (eU k e)⟩,λ_ h=>h,λ_ h=> .inl h,λb hb=>Zv (hs.lt b hb) bl.size⟩,λm hm=>?_,hd,⟨λo' s' q hq=>?_,λo1 o2 s1 s2 q1 q2 u1 u2 cq h1 h2=>?_⟩,λo' h=>?_⟩
 .refine⟨id,λh=>?_⟩;simp[aj.aV,show m≠n from by omega,h]
 .obtain⟨rfl,e⟩:=bB hq;obtain⟨rfl,rfl⟩:=aan e;refine⟨v0,hv,bL.one,by simp[aj.aV,hb],jL,λk hk=>⟨bL.no k (FG k hk),Zv (bL.lt k (FG k hk)) bl.size, .inr (eU k (FG k hk))⟩⟩
 .exact absurd ((bB h1).1.trans (bB h2).1.symm) cq
 .left
  obtain⟨y,hy⟩:=ZC.1 h;rw[(bB hy).1];simp
theorem iX.new(hs:al U H F w ob n){eat:List Nat}{t:Th}{v0:Value}(hb:t.base=t)(h1:v0.oneCell'=aaL){D:ag}{v:Value}
 (bl:Ext (bE H ob eat) w w')(jL:fg ((H.aV n t).bS n v0) F w' (H.sub n) v0 t)(FG:∀k,fp (H.sub n) v0 t k->¬F k/\k<w'.heap.size/\(w.heap.size<=k\/bE H ob eat k))
 (hd:af ((H.aV n t).bS n v0) F w' D v):jc H F w ob n {dst:=D,eat:=eat,make:=[(n,(n,t))]} v w':=by
 have hf:=hs.fresh n (YY _) (by omega);refine⟨(H.aV n t).bS n v0,F,⟨(aj.ei hf.2).trans (aj.mI (by simp[aj.aV,hf.1])),bl,λ_ h=>h,λ_ h=> .inl h,λb hb=>Zv (hs.lt b hb) bl.size⟩,λm hm=>?_,hd,⟨λo' s' q hq=>?_,λo1 o2 s1 s2 q1 q2 u1 u2 cq h1 h2=>?_⟩,λo' h=>?_⟩
 .simp[aj.aV,aj.bS,show m≠n from by omega]
 .obtain⟨rfl,e⟩:=bB hq;obtain⟨rfl,rfl⟩:=aan e;exact⟨v0,by simp[aj.bS],h1,by simp[aj.aV,aj.bS,hb],jL,FG⟩
 .exact absurd ((bB h1).1.trans (bB h2).1.symm) cq
 .right
  obtain⟨y,hy⟩:=ZC.1 h;rw[(bB hy).1];exact YY _
def pk(T:aJ P)(ob:Nat->Option (Nat×Th))(n:Nat)(t:TypeId)(D V:ag)(k:cU->Option R):Option R:=
 match find T.row t with
 |none=>aaK
 |some rt=>match V with
  | .val _ u=>match D with
    | .ptr o p off=>match ob o with
      |some (_, .box T0 tr)=>match tr.get p with
       |some (s,cN)=>bif YZ cN off&&YZ rt.size s.size&&YZ u.size s.size then
         (match tr.put p u with
         |some Pg=>k {dst:= .dead,eat:=[o],make:=[(o,(n, .box T0 Pg))]}
         |none=>aaK)else aaK
       |none=>aaK
      |_=>aaK
    | .elem o s r i x p off=>match ob o with
      |some (s', .own T0 r' l)=>match zG r' p with
       |some ⟨q,tV⟩=>bif YZ tV.off off&&YZ rt.size q.size&&YZ r'.size r.size then
         (match flat ob q u with
         |some y=>bif YZ s' s then
           (if h:r.beq r'=aaL then k {dst:= .dead,eat:=[o],make:=[(o,(n, .own T0 r' (bz l i (tV.set (fU (Row.eq_of_beq h) x) y))))]}else aaK)
          else(idx l i).bind λx'=>k {dst:= .dead,eat:=[o],make:=[(o,(n, .own T0 r' (bz l i (tV.set x' y))))]}
         |none=>aaK)else aaK
       |none=>aaK
      |_=>aaK
    |_=>aaK
  |_=>aaK
theorem aw.cells{agg:Bool}{t:Tree}{v:Value}(h:aw H F w agg t v):∃cs,Holds H F w t cs/\v.cells.toList=cs:=by
 obtain⟨cs,h1,h2,h3⟩:=h;refine⟨cs,h1,?_⟩
 cases agg with
 |true=>rw[h2];rfl
 |false=>
  have e:=h3 rfl;have UX:=h1.gh v (by rw[e];simp);rw[e]
  cases v<;>first|rfl|simp[aaf]at UX
theorem rG(T:aJ P){t:TypeId}{rt:Row}(FH:find T.row t=some rt){x y:Operand}{o s':Nat}{T0:TypeId}{r q:Row}{i:Int}{x':r.den}{z:q.den}{l:List r.den}{p:Path r q}{off g o0 j m cap:Nat}{agg:Bool}{u:Tree}
 (hs:al U H F w ob n)(bR:ob o=some (s', .own T0 r l))(hv:H.val o=some (.slice (some ⟨g,o0,aaK⟩) m cap))(hj:i=(j:Nat))(hi:idx l i=some x')(hx:ev ρ x= .pointer (some ⟨g,o0+j*r.size+off,aaK⟩))(FI:p.off=off)(hz:rt.size=q.size)
 (hf:flat ob q u=some z)(hV:aw H F w agg u (ev ρ y)):
 bK P U H F w ρ ob n ⟨aaK, .store t x y,ty,pos,aft,aaK⟩ {dst:= .dead,eat:=[o],make:=[(o,(n, .own T0 r (bz l i (p.set x' z))))]}:=by
 obtain⟨ti,z0,h1,_,_,h4,_⟩:=T.row_ok _ _ FH;obtain⟨cs,nG,tW⟩:=hV.cells;have hr:=eM hs hf nG;have dc:=hs.own bR hv;obtain⟨k',hk,ai,rfl⟩:=ef hi
 obtain rfl:k'=j:=by omega
 obtain⟨cur,hh,hle,bl,eT⟩:=dc.put rfl ai hs.lt p hr;subst FI;refine bD.unit (kX h1 (h4.trans (hz.trans hr.length.symm)) hx rfl tW hr.gh hh hle) ?_;refine iX.q7 (t':= .own T0 r (bz l i (p.set l[k'] z))) (D:= .dead) hs bR hv rfl (λ_ h=>h) bl ?_ trivial;have:fg (H.aV n (.own T0 r (bz l i (p.set l[k'] z)))) F (w.setRow g (cur.toList.take (o0+k'*r.size+p.off)++cs++cur.toList.drop (o0+k'*r.size+p.off+cs.length)).toArray) (H.sub n) (.slice (some ⟨g,o0,aaK⟩) m cap) (.own T0 r (l.set k' (p.set l[k'] z))):=eT.2;unfold bz;rw[hk,Y4];exact this
theorem C6(T:aJ P){t:TypeId}{D V:ag}{x y:Operand}{k:cU->Option R}{q:R}(h:pk T ob n t D V k=some q)(hs:al U H F w ob n)(hx:af H F w D (ev ρ x))(hy:af H F w V (ev ρ y)):
 ∃e,k e=some q/\bK P U H F w ρ ob n ⟨aaK, .store t x y,ty,pos,aft,aaK⟩ e:=by
 unfold pk at h;split at h
 .cases h
 rename_i rt FH;split at h
 case h_2=>cases h
 rename_i agg u;split at h
 .rename_i o p off;split at h
  case h_2=>cases h
  rename_i s0 T0 tr bR;split at h
  case h_2=>cases h
  rename_i s cN hg;obtain⟨h1,h2⟩:=ay h;obtain⟨h1,zd⟩:=bO h1;obtain⟨h1,ze⟩:=bO h1;obtain rfl:=beq_true h1;have ze:=beq_true ze;have zd:=beq_true zd;split at h2
  case h_2=>cases h2
  rename_i Pg hp;obtain⟨b,hb,e⟩:=hx;obtain⟨es,hh,JV⟩:=hs.box bR hb;obtain⟨cs,nG,tW⟩:=aw.cells hy;have hl:=nG.length;have hle:=(JV.get hg).2;have nK:=Holds.put nG hg hp zd.symm JV;obtain⟨ti,z0,g1,_,_,g4,_⟩:=T.row_ok _ _ FH;refine⟨_,h2,bD.unit (kX g1 (by omega) e rfl tW nG.gh hh (by simp;omega)) ?_⟩
  have JW:¬F b:=by
   obtain⟨v1,q8,bL⟩:=hs.obj _ _ _ bR;rw[hb]at q8;obtain rfl:=YU q8;exact bL.no b rfl
  have bl:Ext (fp (H.sub s0) (.pointer (some ⟨b,0,aaK⟩)) (.box T0 tr)) w (w.setRow b (es.toArray.toList.take cN++cs++es.toArray.toList.drop (cN+cs.length)).toArray):=
   ⟨rfl,⟨rfl,YY _⟩,rfl,by simp,λk _ hk=>setRow_other w b k _ λe=>hk (by simp[fp,e])⟩
  refine iX.q7 (t':= .box T0 Pg) (D:= .dead) hs bR hb rfl (λk hk=>hk) bl ⟨b,_,rfl,setRow_heap w b _ _ T0 (0,0) hh,?_⟩ trivial
  have hk:=nK.keep (H':=H.aV n (.box T0 Pg)) (aj.ei (hs.fresh n (YY _) (by omega)).2) (Step.ext bl hs.lt λk hk=>by
   simp only[fp,aaG,Y3,aam,and_true]at hk
   exact hk▸JW)
  rw[<-hl]at hk;simpa using hk
 .rename_i o s r i x0 p off;split at h
  case h_2=>cases h
  rename_i s' T0 r' l bR;split at h
  case h_2=>cases h
  rename_i q' tV vi;obtain⟨h1,h2⟩:=ay h;obtain⟨h1,zd⟩:=bO h1;obtain⟨h1,ze⟩:=bO h1;have h1:=beq_true h1;have ze:=beq_true ze;have zd:=beq_true zd;split at h2
  case h_2=>cases h2
  rename_i z hf;obtain⟨g,o0,qq,T',m,cap,l0,e1,e2,e3,e4,e5⟩:=hx;rw[<-zd]at e5
  cases wK:YZ s' s with
  |true=>
   rw[wK,cond_true]at h2;obtain rfl:=beq_true wK;split at h2
   case isFalse=>cases h2
   rename_i wX;obtain⟨v,hv,bL⟩:=hs.obj _ _ _ bR;have hc:=bL.con;rw[e3]at hc
   obtain⟨rfl,wP⟩:T'=T0/\(⟨r,l0⟩:(r:Row)×List r.den)=⟨r',l⟩:=by
    have:=YU hc;simp only[Th.base,Th.own.injEq]at this;obtain⟨a,b,c⟩:=this;subst b;exact⟨a,by rw[eq_of_heq c]⟩
   cases wP;exact⟨_,h2,rG T FH hs bR e1 e2 e4 e5 h1 ze hf hy⟩
  |false=>
   rw[wK,cond_false]at h2;obtain⟨x',HZ,h2⟩:=bind_some h2;exact⟨_,h2,rG T FH hs bR e1 e2 HZ e5 h1 ze hf hy⟩
 .cases h
theorem FJ(hs:al U H F w ob n){t:TypeId}{tr:Tree}{cs:List Value}(hh:Holds H F w tr cs):
 jc H F w ob n {dst:= .ptr n [] 0,make:=[(n,(n, .box t tr))]} (.pointer (some ⟨w.heap.size,0,aaK⟩)) (w.alloc (.cells cs.toArray t)):=by
 have bl:Ext (bE H ob []) w (w.alloc (.cells cs.toArray t)):=⟨rfl,⟨rfl,YY _⟩,rfl,by simp,λk hk _=>Below.heap_alloc w _ k hk⟩
 have hf:=hs.fresh n (YY _) (by omega);refine iX.new (v0:= .pointer (some ⟨w.heap.size,0,aaK⟩)) hs rfl rfl bl ⟨_,cs,rfl,heap_alloc_new w _,?_⟩ (λk hk=>?_) ⟨w.heap.size,by simp[aj.bS],rfl⟩
 .exact hh.keep ((aj.ei hf.2).trans (aj.mI (by simp[aj.aV,hf.1]))) (Step.alloc hs.lt _)
 .simp only[fp,aaG,Y3,aam,and_true]at hk;subst hk;exact⟨λe=>by have:=hs.lt _ e;omega,by simp, .inl (YY _)⟩
def pn(T:aJ P)(n:Nat)(t:TypeId)(k:cU->Option R):Option R:=
 match find T.row t with
 |some r=>k {dst:= .ptr n [] 0,make:=[(n,(n, .box t r.wV))]}
 |none=>aaK
theorem C7(T:aJ P){t:TypeId}{k:cU->Option R}{q:R}(h:pn T n t k=some q)(hs:al U H F w ob n):
 ∃e,k e=some q/\bK P U H F w ρ ob n ⟨some d, .alloc t,ty,pos,aft,aaK⟩ e:=by
 unfold pn at h;split at h
 case h_2=>cases h
 rename_i r hr;obtain⟨ti,z,h1,h2,h3,_,_⟩:=T.row_ok _ _ hr;refine⟨_,h,bD.val (CP h1 h2) ?_⟩;have:=FJ (t:=t) hs (Row.jS H F w r);rw[<-h3,ZF]at this;exact this
def C8(n:Nat)(t:TypeId)(V:ag)(k:cU->Option R):Option R:=
 match V with
 | .val _ u=>k {dst:= .ptr n [] 0,make:=[(n,(n, .box t u))]}
 |_=>aaK
theorem IC{t:TypeId}{V:ag}{x:Operand}{k:cU->Option R}{q:R}(h:C8 n t V k=some q)(hs:al U H F w ob n)(hx:af H F w V (ev ρ x)):
 ∃e,k e=some q/\bK P U H F w ρ ob n ⟨some d, .box t x,ty,pos,aft,aaK⟩ e:=by
 unfold C8 at h;split at h
 case h_2=>cases h
 rename_i agg u;obtain⟨cs,nG,tW⟩:=aw.cells hx;refine⟨_,h,bD.val (It rfl) ?_⟩;have:=FJ (t:=t) hs nG;rw[<-tW,ZF]at this;exact this
end
end Go.Proofs.YtbladfbbhijpmaaGreat
end
namespace Go.Proofs.YtbladfbbhijpmaaGreat
open Go Go.RowKit
set_option maxRecDepth 100000
set_option linter.unusedSimpArgs false
set_option linter.unusedVariables false
set_option linter.defProp false
section
section
variable {P:Program} {ρ:Nat->Value} {w w':World} {H H':aj} {F F':Nat->Prop} {U:Nat->Prop} {ob:Nat->Option (Nat×Th)} {n:Nat} {R:Type}
variable {op:Op} {ty:TypeId} {pos:String} {aft:Array Edge} {d:Nat}
theorem mJ{base:Nat}{T:TypeId}{r:Row}{v:Value}{l:List r.den}(h:fN base F w T r v l):v.oneCell'=aaL:=by
 obtain⟨A,cap,rfl,_⟩:=h.reads;rfl
theorem jT{H:aj}{o:Nat}{v:Value}(h:H.val o=some v)(h1:v.oneCell'=aaL):af H F w (.val aaM (.own o)) v:=⟨[v],⟨v,h,h1,rfl⟩,rfl,λ_=>rfl⟩
theorem po(hs:al U H F w ob n){e:TypeId}{r:Row}{v:Value}{l:List r.den}{eat:List Nat}(bl:Ext (bE H ob eat) w w')(ho:fN 0 F w' e r v l)(hn:∀k,ba v k->bE H ob eat k\/w.heap.size<=k):
 jc H F w ob n {dst:= .val aaM (.own n),eat:=eat,make:=[(n,(n, .own e r l))]} v w':=
 iX.new (v0:=v) hs rfl (mJ ho) bl ho.2 (λk hk=>⟨ho.1 k hk,ho.lt k hk,(hn k hk).symm⟩) (jT (by simp[aj.bS]) (mJ ho))
theorem kC{g:Nat->Prop}(o:Obj):Ext g w (w.alloc o):=⟨rfl,⟨rfl,YY _⟩,rfl,by simp,λk hk _=>Below.heap_alloc w _ k hk⟩
def Ph{α:Type}(a b:Int)(z:α):Option (List α):=if 0<=a/\a<=b/\b<=4294967296 then some (Zq a.toNat z)else aaK
def lS:Operand->Operand->Bool
 | .tmp a, .tmp b=>YZ a b
 | .const (.int _ a), .const (.int _ b)=>decide (a=b)
 |_,_=>aaM
theorem tX{e t:TypeId}{r:Row}{a b:Int}(ht:P.underlying t=some (.slice e))(tT:TI P e r)(hs:al U H F w ob n){ka kb:IntKind}{x y:Operand}(hx:ev ρ x= .int ka a)(hy:ev ρ y= .int kb b)(h0:0<=a)(h1:a<=b)(h2:b<=4294967296):
 ∃v w',(execOp (ev ρ) ⟨some d, .makeSlice t x y,ty,pos,aft,aaK⟩).run P w= .ok (.value v) w'/\(∀g,Ext g w w')/\fN 0 F w' e r v (Zq a.toNat r.zero)/\∀k,ba v k->w.heap.size<=k:=by
 obtain⟨ti,z,hi,hz,MO,iA,Mn⟩:=tT;obtain⟨ca,rfl⟩:=Y9 h0;obtain⟨cb,rfl⟩:=Y9 (Int.le_trans h0 h1)
 have hc:cb<=4294967296:=by omega
 have u0:ti.bytes*cb<=281474976710656:=Zj (Nat.mul_le_mul Mn hc) (by omega)
 have qX:(ti.bytes:Int)*(cb:Int)<=281474976710656:=by
  have h:((ti.bytes*cb:Nat):Int)<=281474976710656:=by omega
  rwa [Int.natCast_mul]at h
 have bn:=run_make (P:=P) w t e ti z ht hi hz ka kb ca cb (by omega) (by omega) qX (by omega)
 have UY:z.cells=r.dw.toArray:=by rw[<-MO,ZF]
 have UZ:r.dw.length=r.size:=(bN.zero F w r).length;have ov:=r.size_pos;simp only[Y4]at bn;refine⟨.slice (some ⟨w.heap.size,0,aaK⟩) ca cb,w.alloc (.cells (madeCells z.cells (cb*ti.size)) e),by simp[execOp,hx,hy,bn],λ_=>kC _,⟨λq hq=>?_,(madeCells z.cells (cb*ti.size)).toList.take (ca*r.size),?_,?_⟩,λq hq=>?_⟩
 .simp only[ba,Zw,Y3]at hq;intro e;have:=hs.lt _ e;omega
 .have hle:ca*r.size<=cb*r.size:=Zg _ (by omega);have M1:=size_madeCells z.cells (cb*ti.size);refine jP.of ⟨by rw[Zr,Array.length_toList,M1,iA,Z3 hle];simp, .inr ⟨w.heap.size,cb,madeCells z.cells (cb*ti.size),by simp,Nat.zero_le _,heap_alloc_new w _,by simp;omega,by simp[maxLen];omega,by rw[M1,iA],by simp⟩⟩
 .intro i ai;simp only[Y4,List.length_replicate]at ai;have hle:(i+1)*r.size<=ca*r.size:=Zg _ ai;rw[ZH]at hle;rw[List.drop_take,List.take_take,Z3 (by omega)];rw[iA,UY,<-UZ,Fi _ _ _ (by omega) (by omega)];simpa using bN.zero F _ r
 .simp only[ba,Zw,Y3]at hq;omega
theorem wY{e t:TypeId}{r:Row}{a b:Int}(ht:P.underlying t=some (.slice e))(tT:TI P e r)(hs:al U H F w ob n){ka kb:IntKind}{x y:Operand}(hx:ev ρ x= .int ka a)(hy:ev ρ y= .int kb b)(h0:0<=a)(h1:a<=b)(h2:b<=4294967296):
 bK P U H F w ρ ob n ⟨some d, .makeSlice t x y,ty,pos,aft,aaK⟩ {dst:= .val aaM (.own n),make:=[(n,(n, .own e r (Zq a.toNat r.zero)))]}:=by
 obtain⟨v,w',bn,bl,dc,rH⟩:=tX (d:=d) (ty:=ty) (pos:=pos) (aft:=aft) ht tT hs hx hy h0 h1 h2;exact bD.val bn (po hs (bl _) dc λq hq=> .inr (rH q hq))
def rI(T:aJ P)(n:Nat)(t:TypeId)(same:Bool)(a b:Int)(k:cU->Option R):Option R:=
 match find T.und t with
 |some (.slice e)=>match find T.row e with
  |some r=>(bif same then tO a r.zero else Ph a b r.zero).bind λl=>k {dst:= .val aaM (.own n),make:=[(n,(n, .own e r l))]}
  |none=>aaK
 |_=>aaK
theorem tY{x y:Operand}(h:lS x y=aaL){a b:Int}{ka kb:IntKind}(hx:ev ρ x= .int ka a)(hy:ev ρ y= .int kb b):a=b:=by
 unfold lS at h;split at h
 .obtain rfl:=beq_true h;rw[hx]at hy;cases hy;rfl
 .simp only[ev,Value.int.injEq]at hx hy;have:=aaQ h;omega
 .cases h
theorem wZ(T:aJ P){t:TypeId}{a b:Int}{ka kb:IntKind}{x y:Operand}{k:cU->Option R}{q:R}(h:rI T n t (lS x y) a b k=some q)(hs:al U H F w ob n)(hx:ev ρ x= .int ka a)(hy:ev ρ y= .int kb b):
 ∃e,k e=some q/\bK P U H F w ρ ob n ⟨some d, .makeSlice t x y,ty,pos,aft,aaK⟩ e:=by
 unfold rI at h;split at h
 case h_2=>cases h
 rename_i e hu;split at h
 case h_2=>cases h
 rename_i r hr;obtain⟨l,hl,hk⟩:=bind_some h;have tT:=T.row_ok _ _ hr;have ht:=T.und_ok _ _ hu
 cases qk:lS x y with
 |true=>
  rw[qk,cond_true]at hl;unfold tO at hl;split at hl
  case isFalse=>cases hl
  rename_i hc;obtain rfl:=YU hl;obtain rfl:=tY qk hx hy;exact⟨_,hk,wY ht tT hs hx hy hc.1 (Int.le_refl _) hc.2⟩
 |false=>
  rw[qk,cond_false]at hl;unfold Ph at hl;split at hl
  case isFalse=>cases hl
  rename_i hc;obtain rfl:=YU hl;exact⟨_,hk,wY ht tT hs hx hy hc.1 hc.2.1 hc.2.2⟩
def P2(ob:Nat->Option (Nat×Th))(r:Row)(D:ag):Option (List r.den):=
 match qN ob D with
 |some (.read s l)=>if h:s.beq r=aaL then some (fU (r:= .slice s) (s:= .slice r) (aaV Row.slice (Row.eq_of_beq h)) l)else aaK
 |some (.own _ _ _ s l)=>if h:s.beq r=aaL then some (fU (r:= .slice s) (s:= .slice r) (aaV Row.slice (Row.eq_of_beq h)) l)else aaK
 |some .nil=>some []
 |some (.view ..)=>aaK
 |some (.deep ..)=>aaK
 |none=>aaK
theorem KF(hs:al U H F w ob n){r:Row}{D:ag}{l:List r.den}{v:Value}(h:P2 ob r D=some l)(hd:af H F w D v):Reads F w r v l:=by
 unfold P2 at h;split at h
 .rename_i s m fc;split at h
  case isFalse=>cases h
  rename_i hb;obtain rfl:=Row.eq_of_beq hb;obtain rfl:=YU h;exact bN.reads (fD hs fc hd)
 .rename_i o s0 T s m fc;split at h
  case isFalse=>cases h
  rename_i hb;obtain rfl:=Row.eq_of_beq hb;obtain rfl:=YU h;exact(fD hs fc hd).2.2.reads
 .rename_i fc;obtain rfl:=YU h;have:v=_:=fD hs fc hd;subst this;exact(bN.nil F w r).reads
 .cases h
 .cases h
 .cases h
def oB:FE->Int
 | .read _ l=>(l.length:Int)
 | .own _ _ _ _ l=>(l.length:Int)
 | .nil=>0
 | .view _ _ _ l=>(l.length:Int)
 | .deep _ _ _ _ l _=>(l.length:Int)
theorem FK{v:Value}{k:FE}(h:IA U H F w ob v k):∃A m cap,v= .slice A m cap/\oB k=(m:Int):=by
 cases k with
 |read r l=>
  obtain⟨A,cap,e,_⟩:=bN.zq h;exact⟨A,_,cap,e,rfl⟩
 |own o s T r l=>
  obtain⟨A,cap,e,_⟩:=h.2.2.reads;exact⟨A,_,cap,e,rfl⟩
 |nil=>exact⟨aaK,0,0,h,rfl⟩
 |view o s r m=>
  obtain⟨A,cap,T,l,a,b,_,_,h3,h4,rfl,rfl⟩:=h;refine⟨_,_,_,rfl,?_⟩;simp only[oB,List.length_drop,Zr,Z3 h4]
 |deep o s T d l hh=>
  obtain⟨lh,_,⟨xs,zb,_⟩,Mp,_⟩:=h.2.2.ok
  rcases zb.2 with⟨C4,h0⟩|⟨g,o0,cap,cur,vh,_,_,_⟩
  .exact⟨aaK,0,0,C4,by simp only[oB];omega⟩
  .exact⟨_,_,_,vh,by simp only[oB];omega⟩
def C9(T:aJ P)(ob:Nat->Option (Nat×Th))(t:TypeId)(D:ag):Option ag:=
 match find T.und t with
 |some (.slice _)=>match qN ob D with
  |some k=>some (ju .i64 (oB k))
  |none=>aaK
 |some .str=>match wR D with
  |some s=>some (ju .i64 (s.size:Int))
  |none=>aaK
 |_=>aaK
theorem Bu(T:aJ P){t:TypeId}{D D':ag}{x:Operand}(h:C9 T ob t D=some D')(hs:al U H F w ob n)(hx:af H F w D (ev ρ x)):
 bK P U H F w ρ ob n ⟨some d, .call {callee:= .builtin .len,args:= #[x],argTypes:= #[t]},ty,pos,aft,aaK⟩ {dst:=D'}:=by
 unfold C9 at h;split at h
 .rename_i e hu;split at h
  case h_2=>cases h
  rename_i k hk;obtain rfl:=YU h;obtain⟨A,m,cap,e1,e2⟩:=FK (fD hs hk hx);rw[e2];exact aB hs (Fg rfl (T.und_ok _ _ hu) e1) (aw.gy ..)
 .rename_i hu;split at h
  case h_2=>cases h
  rename_i s hk;obtain rfl:=YU h;exact aB hs (CH (T.und_ok _ _ hu) (rE hk hx)) (aw.gy ..)
 .cases h
def mK(T:aJ P)(ob:Nat->Option (Nat×Th))(n:Nat)(t:TypeId)(X Y:ag)(k:cU->Option R):Option R:=
 match find T.und t with
 |some (.slice e)=>match find T.row e with
  |some r=>match P2 ob r Y with
   |some m=>match qN ob X with
    |some .nil=>(b7 ([]:List r.den) m).bind λl=>k {dst:= .val aaM (.own n),make:=[(n,(n, .own e r l))]}
    |some (.own o _ T0 s l0)=>bif YZ T0 e then
      (if h:s.beq r=aaL then(b7 (fU (r:= .slice s) (s:= .slice r) (aaV Row.slice (Row.eq_of_beq h)) l0) m).bind λl=>k {dst:= .val aaM (.own n),eat:=[o],make:=[(n,(n, .own e r l))]}else aaK)else aaK
    |_=>aaK
   |none=>aaK
  |none=>aaK
 |_=>aaK
theorem zH(T:aJ P){t:TypeId}{X Y:ag}{x y:Operand}{k:cU->Option R}{q:R}(h:mK T ob n t X Y k=some q)(hs:al U H F w ob n)(hx:af H F w X (ev ρ x))(hy:af H F w Y (ev ρ y)):
 ∃e,k e=some q/\bK P U H F w ρ ob n ⟨some d, .call {callee:= .builtin .append,args:= #[x,y],argTypes:= #[t,t]},ty,pos,aft,aaK⟩ e:=by
 unfold mK at h;split at h
 case h_2=>cases h
 rename_i e hu;split at h
 case h_2=>cases h
 rename_i r hr;obtain⟨ti,z,h1,h2,h3,h4,h5⟩:=T.row_ok _ _ hr;have ht:=T.und_ok _ _ hu;split at h
 case h_2=>cases h
 rename_i m hm;have dD:=KF hs hm hy
 have key:∀{l out:List r.den},fN 0 F w e r (ev ρ x) l->b7 l m=some out->∃v' w',(execOp (ev ρ) ⟨some d, .call {callee:= .builtin .append,args:= #[x,y],argTypes:= #[t,t]},ty,pos,aft,aaK⟩).run P w= .ok (.value v') w'/\Ext (ba (ev ρ x)) w w'/\fN 0 F w' e r v' out/\(∀k,ba v' k->ba (ev ρ x) k\/w.heap.size<=k):=by
  intro l out ho ha;obtain⟨v',w',bn,he,ij,PZ⟩:=rv ty ht h1 h2 h3 h4 h5 ho dD ha hs.lt (Nat.zero_le _);refine⟨v',w',by simp[execOp,resolve,invoke,builtin,bn],he,ij,λk hk=>?_⟩
  rcases PZ with g|g
  .exact .inl (g▸hk)
  .rw[g]at hk;exact .inr (by omega)
 split at h
 .rename_i fc;obtain⟨l,hl,hk⟩:=bind_some h;have hv:ev ρ x=_:=fD hs fc hx;obtain⟨v',w',bn,he,ij,hn⟩:=key (by rw[hv];exact fN.nil 0 F w e r) hl
  have no:∀k,¬ba (ev ρ x) k:=λk hk=>by rw[hv]at hk;simp[ba,Zw]at hk
  exact⟨_,hk,bD.val bn (po hs ⟨he.os,he.tape,he.output,he.size,λk hk _=>he.block k hk (no k)⟩ ij λk hk=>(hn k hk).imp (λh=>absurd h (no k)) id)⟩
 .rename_i o s0 T0 s l0 fc;obtain⟨hb,h⟩:=ay h;obtain rfl:=beq_true hb;split at h
  case isFalse=>cases h
  rename_i wX;obtain rfl:=Row.eq_of_beq wX;obtain⟨l,hl,hk⟩:=bind_some h;obtain⟨hv,bR,dc⟩:=fD hs fc hx;obtain⟨v',w',bn,he,ij,hn⟩:=key dc hl
  have eU:∀k,ba (ev ρ x) k->bE H ob [o] k:=λk hk=>⟨o,by simp,_,_,_,bR,hv,hk⟩
  exact⟨_,hk,bD.val bn (po hs ⟨he.os,he.tape,he.output,he.size,λk hk zc=>he.block k hk λhm=>zc (eU k hm)⟩ ij λk hk=>(hn k hk).imp (eU k) id)⟩
 .cases h
def w4(ob:Nat->Option (Nat×Th))(r:Row):List ag->Option (List r.den)
 |[]=>some []
 | .val _ u::l=>match flat ob r u with
   |some x=>match w4 ob r l with
    |some xs=>some (x::xs)
    |none=>aaK
   |none=>aaK
 |_::_=>aaK
def oC(rd:Operand->Option ag):List Operand->Option (List ag)
 |[]=>some []
 |x::xs=>match rd x with
  |some d=>match oC rd xs with
   |some ds=>some (d::ds)
   |none=>aaK
  |none=>aaK
def dK(H:aj)(F:Nat->Prop)(w:World):List ag->List Value->Prop
 |[],vs=>vs=[]
 |d::ds,vs=>∃v us,vs=v::us/\af H F w d v/\dK H F w ds us
theorem kD{rd:Operand->Option ag}(h:∀x d,rd x=some d->af H F w d (ev ρ x)):{xs:List Operand}->{ds:List ag}->oC rd xs=some ds->dK H F w ds (xs.map (ev ρ))
 |[],ds,e=>by obtain rfl:=YU e;rfl
 |x::xs,ds,e=>by
  unfold oC at e
  cases h1:rd x with
  |none=>rw[h1]at e;cases e
  |some d=>
   cases h2:oC rd xs with
   |none=>simp only[h1,h2]at e;cases e
   |some Pj=>
    simp only[h1,h2,Y3]at e;subst e;exact⟨_,_,rfl,h _ _ h1,kD h h2⟩
theorem w5(hs:al U H F w ob n){r:Row}:{ds:List ag}->{l:List r.den}->{vs:List Value}->w4 ob r ds=some l->dK H F w ds vs->ry F w r vs l
 |[],l,vs,e,h=>by
  obtain rfl:=YU e;rw[show vs=[]from h];exact .nil
 | .val _ u::ds,l,vs,e,h=>by
   obtain⟨v,us,rfl,h1,h2⟩:=h;unfold w4 at e
   cases hf:flat ob r u with
   |none=>rw[hf]at e;cases e
   |some x=>
    cases hg:w4 ob r ds with
    |none=>simp only[hf,hg]at e;cases e
    |some xs=>
     simp only[hf,hg,Y3]at e;subst e;obtain⟨cs,nG,tW⟩:=aw.cells h1;exact .cons tW (eM hs hf nG) (w5 hs hg h2)
 | .dead::_,_,_,e,_=>by cases e
 | .undef::_,_,_,e,_=>by cases e
 | .ptr .. ::_,_,_,e,_=>by cases e
 | .at .. ::_,_,_,e,_=>by cases e
 | .elem .. ::_,_,_,e,_=>by cases e
 | .tup _::_,_,_,e,_=>by cases e
 | .dlm .. ::_,_,_,e,_=>by cases e
theorem rJ{e t:TypeId}{r:Row}{xs:List Operand}{l:List r.den}{parts:Array (Nat×Operand)}(ht:P.underlying t=some (.slice e))(tT:TI P e r)(cL:parts=((xs.zipIdx).map λp=>(p.2,p.1)).toArray)(qk:xs.length*r.size<=16777216)
 (hl:ry F w r (xs.map (ev ρ)) l)(hs:al U H F w ob n):
 ∃v w',(execOp (ev ρ) ⟨some d, .buildSlice t xs.length parts,ty,pos,aft,aaK⟩).run P w= .ok (.value v) w'/\(∀g,Ext g w w')/\fN 0 F w' e r v l/\∀k,ba v k->w.heap.size<=k:=by
 obtain⟨ti,z,h1,h2,h3,h4,h5⟩:=tT
 have U0:(xs.map (ev ρ)).length=xs.length:=by simp
 have Mp:=hl.length;have ov:=r.size_pos
 have MN:z.cells.size=r.size:=by rw[<-(bN.zero F w r).length,<-h3];simp
 have oD:(parts.map λ(i,q)=>(i,ev ρ q)).toList=((xs.map (ev ρ)).zipIdx).map λp=>(p.2,p.1):=by
  subst cL;simp[List.zipIdx_map,Function.comp_def]
 generalize hm:xs.length=m at*;generalize xs.map (ev ρ)=vs at*
 have key:∀zz:Array Value,zz.size=m*r.size->∃zf:List Value,aay (λi=>some (i*r.size,r.size)) zz ((vs.zipIdx).map λp=>(p.2,p.1))=some zf.toArray/\zf.length=l.length*r.size/\∀i(hi:i<l.length),bN F w r ((zf.drop (i*r.size)).take r.size) l[i]:=by
  intro zz M2;obtain⟨zf,a1,a2,a3⟩:=hl.fill 0 [] zz.toList (by simp) (by rw[Array.length_toList,M2,U0]);exact⟨zf,by simpa using a1,a2,a3⟩
 have bn:∃zf:List Value,(execOp (ev ρ) ⟨some d, .buildSlice t m parts,ty,pos,aft,aaK⟩).run P w= .ok (.value (.slice (some ⟨w.heap.size,0,aaK⟩) m m)) (w.alloc (.cells zf.toArray e))/\zf.length=l.length*r.size/\∀i(hi:i<l.length),bN F w r ((zf.drop (i*r.size)).take r.size) l[i]:=by
  by_cases h0:m*r.size=0
  .obtain⟨zf,a1,a2,a3⟩:=key #[] (by simp[h0]);refine⟨zf,?_,a2,a3⟩;simp only[execOp,Instr.buildSlice,Zs,run_underlying ht,ZD];rw[oD]
   have P3:Array.range 0=(#[]:Array Nat):=by rfl
   simp[sizeOf,typeInfo,h1,h4,h0,newRow,P3,a1]
  .obtain⟨zf,a1,a2,a3⟩:=key ((Array.range (m*r.size)).map (z.cells[· %z.cells.size]!)) (by simp);refine⟨zf,?_,a2,a3⟩;simp only[execOp,Instr.buildSlice,Zs,run_underlying ht,ZD];rw[oD];simp[sizeOf,typeInfo,h1,h4,h0,zeroValue,h2,newRow,a1,show¬(16777216<m*r.size)from by omega]
 obtain⟨zf,bn,a2,a3⟩:=bn
 have Ib:m=l.length:=by omega
 have U1:m<=16777216:=Zj (Nat.le_mul_of_pos_right m ov) qk;refine⟨_,_,bn,λg=>kC _,⟨λk hk=>?_,zf,?_,λi hi=>(a3 i hi).step (Step.alloc hs.lt _)⟩,λk hk=>?_⟩
 .simp only[ba,Zw,Y3]at hk;intro e;have:=hs.lt _ e;omega
 .have:=World.ownsRow_lit (base:=0) (e:=e) (size:=r.size) w zf.toArray m (Nat.zero_le _) (by simp[maxLen];omega) (by simp[a2,Ib]);rw[Ib]at this⊢;simpa using jP.of this
 .simp only[ba,Zw,Y3]at hk;omega
theorem run_build{e t:TypeId}{r:Row}{xs:List Operand}{l:List r.den}{parts:Array (Nat×Operand)}(ht:P.underlying t=some (.slice e))(tT:TI P e r)(cL:parts=((xs.zipIdx).map λp=>(p.2,p.1)).toArray)(qk:xs.length*r.size<=16777216)
 (hl:ry F w r (xs.map (ev ρ)) l)(hs:al U H F w ob n):
 bK P U H F w ρ ob n ⟨some d, .buildSlice t xs.length parts,ty,pos,aft,aaK⟩ {dst:= .val aaM (.own n),make:=[(n,(n, .own e r l))]}:=by
 obtain⟨v,w',h1,h2,h3,h4⟩:=rJ (d:=d) (ty:=ty) (pos:=pos) (aft:=aft) ht tT cL qk hl hs;exact bD.val h1 (po hs (h2 _) h3 λk hk=> .inr (h4 k hk))
def Bv:Nat->List (Nat×Operand)->Bool
 |_,[]=>aaL
 |k,p::l=>YZ p.1 k&&Bv (k+1) l
theorem rK:{k:Nat}->{l:List (Nat×Operand)}->Bv k l=aaL->l=((l.map (·.2)).zipIdx k).map λp=>(p.2,p.1)
 |_,[],_=>rfl
 |k,p::l,h=>by
  obtain⟨h1,h2⟩:=bO h;have h1:=beq_true h1;have ih:=rK h2;obtain⟨a,b⟩:=p;subst h1;rw[List.map_cons,List.zipIdx_cons,List.map_cons,<-ih]
def gA(T:aJ P)(rd:Operand->Option ag)(ob:Nat->Option (Nat×Th))(n:Nat)(t:TypeId)(m:Nat)(parts:Array (Nat×Operand))(k:cU->Option R):Option R:=
 match find T.und t with
 |some (.slice e)=>match find T.row e with
  |some r=>bif Bv 0 parts.toList&&YZ m parts.toList.length&&Nat.ble (m*r.size) 16777216 then
    (match oC rd (parts.toList.map (·.2))with
    |some ds=>match w4 ob r ds with
     |some l=>k {dst:= .val aaM (.own n),make:=[(n,(n, .own e r l))]}
     |none=>aaK
    |none=>aaK)else aaK
  |none=>aaK
 |_=>aaK
theorem rL(T:aJ P){rd:Operand->Option ag}(dD:∀x d,rd x=some d->af H F w d (ev ρ x)){t:TypeId}{m:Nat}{parts:Array (Nat×Operand)}{k:cU->Option R}{q:R}(h:gA T rd ob n t m parts k=some q)(hs:al U H F w ob n):
 ∃e,k e=some q/\bK P U H F w ρ ob n ⟨some d, .buildSlice t m parts,ty,pos,aft,aaK⟩ e:=by
 unfold gA at h;split at h
 case h_2=>cases h
 rename_i e hu;split at h
 case h_2=>cases h
 rename_i r hr;obtain⟨h1,h⟩:=ay h;obtain⟨h1,h3⟩:=bO h1;obtain⟨h1,h2⟩:=bO h1;have h2:=beq_true h2
 have h3:m*r.size<=16777216:=by simpa using h3
 split at h
 case h_2=>cases h
 rename_i ds q9;split at h
 case h_2=>cases h
 rename_i l hl;have M3:=w5 hs hl (kD dD q9)
 have hp:parts=(((parts.toList.map (·.2)).zipIdx).map λp=>(p.2,p.1)).toArray:=by
  rw[<-rK h1,ZF]
 have hm:m=(parts.toList.map (·.2)).length:=by simpa using h2
 refine⟨_,h,?_⟩;have:=run_build (d:=d) (ty:=ty) (pos:=pos) (aft:=aft) (T.und_ok _ _ hu) (T.row_ok _ _ hr) hp (by rw[<-hm];exact h3) M3 hs;rw[<-hm]at this;exact this
def Bw{P:Program}(T:aJ P)(fs:List (TypeId×Nat)):Tree->List (Nat×ag)->Option Tree
 |t,[]=>some t
 |t,(f, .val _ u)::l=>match t.get (oz fs.length f)with
  |some (s,off)=>match fs[f]? with
   |some (ft,cN)=>bif YZ off cN&&YZ u.size s.size&&(match find T.row ft with|some r=>YZ r.size u.size|none=>aaM)then
     (match t.put (oz fs.length f) u with
     |some t'=>Bw T fs t' l
     |none=>aaK)else aaK
   |none=>aaK
  |none=>aaK
 |_,_::_=>aaK
def ra(T:aJ P):List (TypeId×Nat)->Bool
 |[]=>aaL
 |p::fs=>(match find T.row p.1 with|some _=>aaL|none=>aaM)&&ra T fs
def place(T:aJ P)(fs:List (TypeId×Nat))(i:Nat):Option (Nat×Nat):=
 match fs[i]? with
 |some (ft,off)=>match find T.row ft with
  |some r=>some (off,r.size)
  |none=>aaK
 |none=>aaK
theorem rM(T:aJ P):{l:List Field}->{fs:List (TypeId×Nat)}->l.map (λf=>(f.type,f.offset))=fs->ra T fs=aaL->
 ∃pl:List (Nat×Nat),(l.mapM λ(f:Field)=>(do pure (f.offset,<-sizeOf f.type):Sem (Nat×Nat))).run P w= .ok pl w/\∀i,pl[i]? =place T fs i
 |[],fs,h,_=>by
  subst h;exact⟨[],by simp,λi=>by simp[place]⟩
 |f::l,fs,h,hz=>by
  subst h;obtain⟨h1,h2⟩:=bO hz;obtain⟨pl,M4,Ic⟩:=rM T (l:=l) rfl h2
  cases hr:find T.row f.type with
  |none=>rw[hr]at h1;cases h1
  |some r=>
   obtain⟨ti,z,g1,_,_,g4,_⟩:=T.row_ok _ _ hr;refine⟨(f.offset,r.size)::pl,?_,λi=>?_⟩
   .have ze:(sizeOf f.type).run P w= .ok r.size w:=by simp[sizeOf,typeInfo,g1,g4]
    rw[List.mapM_cons];simp only[Zs,ze,Sem.run_pure,ZD,M4]
   .cases i with
    |zero=>simp[place,hr]
    |succ i=>simpa[place]using Ic i
end
end
section
section
variable {P:Program} {ρ:Nat->Value} {w w':World} {H H':aj} {F F':Nat->Prop} {U:Nat->Prop} {ob:Nat->Option (Nat×Th)} {n:Nat} {R:Type}
variable {op:Op} {ty:TypeId} {pos:String} {aft:Array Edge} {d:Nat}
theorem w6(T:aJ P){fs:List (TypeId×Nat)}{pl:List (Nat×Nat)}(hz:ra T fs=aaL)(w7:∀i,pl[i]? =place T fs i)(iA:∀ft off r,(ft,off)∈fs->find T.row ft=some r->True):
 {parts:List (Nat×ag)}->{t t':Tree}->{cs:List Value}->{vs:List (Nat×Value)}->Bw T fs t parts=some t'->Holds H F w t cs->parts.map (·.1)=vs.map (·.1)->dK H F w (parts.map (·.2)) (vs.map (·.2))->
 ∃nH,aay (pl[·]?) cs.toArray vs=some nH.toArray/\Holds H F w t' nH
 |[],t,t',cs,vs,h,hh,h1,h2=>by
  obtain rfl:=YU h
  have:vs=[]:=by simpa using h1.symm
  subst this;exact⟨cs,by simp[aay],hh⟩
 |(f, .val agg u)::parts,t,t',cs,vs,h,hh,h1,h2=>by
  obtain⟨v,us,e,hv,h3⟩:=h2
  cases vs with
  |nil=>simp at e
  |cons fv vs=>
   obtain⟨f',v'⟩:=fv;simp only[List.map_cons,Z8]at h1 e;obtain⟨rfl,h1⟩:=h1;obtain⟨rfl,rfl⟩:=e;unfold Bw at h;split at h
   case h_2=>cases h
   rename_i s off hg;split at h
   case h_2=>cases h
   rename_i ft cN hf;obtain⟨hb,h'⟩:=ay h;clear h;obtain⟨hb,M5⟩:=bO hb;obtain⟨EQ,Mr⟩:=bO hb;have EQ:=beq_true EQ;subst EQ;have Mr:=beq_true Mr;split at h'
   case h_2=>cases h'
   rename_i tp hp;obtain⟨c1,sZ,tW⟩:=aw.cells hv;have hl:=sZ.length;have hle:=(hh.get hg).2
   cases hr:find T.row ft with
   |none=>simp only[hr]at M5;cases M5
   |some r=>
    simp only[hr]at M5;have M5:=beq_true M5
    have KG:pl[f]? =some (off,r.size):=by rw[w7];simp[place,hf,hr]
    rw[pd KG tW (by omega) (by omega)];have nK:=Holds.put sZ hg hp Mr.symm hh;rw[show u.size=r.size from by omega]at nK;exact w6 T hz w7 iA h' nK h1 h3
 |(_, .dead)::_,_,_,_,_,h,_,_,_=>by cases h
 |(_, .undef)::_,_,_,_,_,h,_,_,_=>by cases h
 |(_, .ptr ..)::_,_,_,_,_,h,_,_,_=>by cases h
 |(_, .at ..)::_,_,_,_,_,h,_,_,_=>by cases h
 |(_, .elem ..)::_,_,_,_,_,h,_,_,_=>by cases h
 |(_, .tup _)::_,_,_,_,_,h,_,_,_=>by cases h
 |(_, .dlm ..)::_,_,_,_,_,h,_,_,_=>by cases h
def pq(T:aJ P)(rd:Operand->Option ag)(t:TypeId)(parts:Array (Nat×Operand))(k:cU->Option R):Option R:=
 match find T.und t with
 |some (.struct fs)=>match find T.row t with
  |some r=>bif ra T fs then
    (match oC rd (parts.toList.map (·.2))with
    |some ds=>match Bw T fs r.wV ((parts.toList.map (·.1)).zip ds)with
     |some tr=>k {dst:= .val aaL tr}
     |none=>aaK
    |none=>aaK)else aaK
  |none=>aaK
 |_=>aaK
theorem gM:{ds:List ag}->{vs:List Value}->dK H F w ds vs->ds.length=vs.length
 |[],_,h=>by rw[show _=[]from h];rfl
 |_::_,_,h=>by obtain⟨v,us,rfl,_,h2⟩:=h;simp[gM h2]
theorem Da(T:aJ P){rd:Operand->Option ag}(dD:∀x d,rd x=some d->af H F w d (ev ρ x)){t:TypeId}{parts:Array (Nat×Operand)}{k:cU->Option R}{q:R}(h:pq T rd t parts k=some q)(hs:al U H F w ob n):
 ∃e,k e=some q/\bK P U H F w ρ ob n ⟨some d, .build t parts,ty,pos,aft,aaK⟩ e:=by
 unfold pq at h;split at h
 case h_2=>cases h
 rename_i fs hu;obtain⟨arr,EP,Iz⟩:=T.und_ok _ _ hu;split at h
 case h_2=>cases h
 rename_i r hr;obtain⟨ti,z,h1,h2,h3,h4,h5⟩:=T.row_ok _ _ hr;obtain⟨hz,h⟩:=ay h;split at h
 case h_2=>cases h
 rename_i ds q9;split at h
 case h_2=>cases h
 rename_i tr M6;have hd:=kD (w:=w) (H:=H) (F:=F) (ρ:=ρ) dD q9;have hlen:=gM hd;obtain⟨pl,M4,Ic⟩:=rM (w:=w) T Iz hz
 have hn:∀(a:List Nat)(b:List ag),a.length=b.length->(a.zip b).map (·.1)=a/\(a.zip b).map (·.2)=b:=λa b P4=>⟨List.map_fst_zip (by omega),List.map_snd_zip (by omega)⟩
 have M7:=hn (parts.toList.map (·.1)) ds (by simp at hlen⊢;omega);obtain⟨nH,hf,hh⟩:=w6 (w:=w) (H:=H) (F:=F) T hz Ic (λ_ _ _ _ _=>trivial) (vs:=parts.toList.map λ(i,q)=>(i,ev ρ q)) M6 (Row.jS H F w r) (by rw[M7.1];simp[Function.comp_def]) (by rw[M7.2];simpa[Function.comp_def]using hd);refine⟨_,h,bj hs (v:= .agg nH.toArray) ?_ ⟨nH,hh,rfl,by simp⟩⟩
 have U2:z.cells=r.dw.toArray:=by rw[<-h3,ZF]
 have Db:(arr.mapM λ(f:Field)=>(do pure (f.offset,<-sizeOf f.type):Sem (Nat×Nat))).run P w= .ok pl.toArray w:=by
  rw[<-ZF (xs:=arr),List.mapM_toArray];simp only[Sem.run_map,M4];rfl
 have U3:(parts.map λ(i,q)=>(i,ev ρ q)).toList=parts.toList.map λ(i,q)=>(i,ev ρ q):=by simp
 have P5:(λ(x:Nat)=>pl.toArray[x]?)=λx=>pl[x]? :=by funext x;simp
 simp only[execOp,Instr.build,Zs,zeroValue,typeInfo,h1,h2,run_program,Sem.run_pure,ZD,run_underlying EP,U2,U3,Db,P5,hf]
def ID(rd:Operand->Option ag):Option Operand->Option (Option Int)
 |none=>some aaK
 |some x=>match rd x with
  |some d=>match asInt d with
   |some (_,i)=>some (some i)
   |none=>aaK
  |none=>aaK
theorem Bx{rd:Operand->Option ag}(dD:∀x d,rd x=some d->af H F w d (ev ρ x)){lo:Option Operand}{a:Option Int}(h:ID rd lo=some a):KE ρ lo a:=by
 unfold ID at h;split at h
 .obtain rfl:=YU h;exact .none
 .split at h
  .split at h
   .obtain rfl:=YU h;rename_i hD _ _ _ hi;exact .some (fk hi (dD _ _ hD))
   .cases h
  .cases h
def pt(dr:Bool)(T:aJ P)(rd:Operand->Option ag)(ob:Nat->Option (Nat×Th))(n:Nat)(t:TypeId)(D:ag)(lo hi:Option Operand)(k:cU->Option R):Option R:=
 match find T.und t with
 |some (.slice e)=>match find T.row e with
  |some re=>match ID rd lo with
   |some a=>match ID rd hi with
    |some b=>match qN ob D with
     |some (.read r l)=>bif YZ r.size re.size then(eG l (a.getD 0) (b.getD (l.length:Int))).bind λm=>k {dst:= .val aaM (.leaf (.slice r) m)}else aaK
     |some .nil=>(eG ([]:List re.den) (a.getD 0) (b.getD 0)).bind λ_=>k {dst:= .val aaM .nil}
     |some (.own o s T0 r l)=>bif YZ r.size re.size&&YZ T0 e&&(lo.isNone||dr)then(eG l (a.getD 0) (b.getD (l.length:Int))).bind λm=>k {dst:= .val aaM (.own n),eat:=[o],make:=[(n,(n, .own T0 r m))]}
       else bif YZ r.size re.size then(eG l (a.getD 0) (b.getD (l.length:Int))).bind λm=>k {dst:= .val aaM (.view o s r m)}else aaK
     |_=>aaK
    |none=>aaK
   |none=>aaK
  |none=>aaK
 |_=>aaK
theorem Dc{e T0:TypeId}{ti:TypeInfo}{r:Row}{t:TypeId}{x:Operand}{lo hi:Option Operand}{a b:Option Int}{l m:List r.den}{o s:Nat}{v:Value}(ht:P.underlying t=some (.slice e))(h1:P.info? e=some ti)(h4:ti.size=r.size)(hx:ev ρ x=v)
 (hs:al U H F w ob n)(bR:ob o=some (s, .own T0 r l))(M8:H.val o=some v)(ha:KE ρ lo a)(hb:KE ρ hi b)(hm:eG l (a.getD 0) (b.getD l.length)=some m):
 bK P U H F w ρ ob n ⟨some d, .slice t x lo hi aaK,ty,pos,aft,aaK⟩ {dst:= .val aaM (.own n),eat:=[o],make:=[(n,(n, .own T0 r m))]}:=by
 have hv:=hs.own bR M8;obtain⟨p,q,ep,eq,JX,hq,rfl⟩:=pe hm;obtain⟨A,cap,rfl,hlen,Iv,_⟩:=hv.reads;have bn:=qZ (P:=P) (w:=w) (d:=d) (ty:=ty) (pos:=pos) (aft:=aft) ht h1 hx ha hb (by omega) (by omega) (by omega) hlen;rw[ep,eq,Y4,Y4,h4]at bn;obtain⟨zc,xs,⟨vd,P6⟩,hr⟩:=hv
 have P7:((l.take q).drop p).length=q-p:=by simp;omega
 have hmul:q*r.size<=l.length*r.size:=Zg _ hq;have Tt:p*r.size<=q*r.size:=Zg _ JX;have Tu:(q-p)*r.size=q*r.size-p*r.size:=Nat.sub_mul ..
 have bl:Ext (bE H ob [o]) w w:=⟨rfl,⟨rfl,YY _⟩,rfl,YY _,λ_ _ _=>rfl⟩
 rcases P6 with⟨C4,h0⟩|⟨g,o0,Fj,cur,fc,qX,hh,X9,Ya,nG,Dd⟩
 .simp only[aag]at C4;obtain⟨rfl,_,rfl⟩:=C4
  have M9:q=0:=by omega
  subst M9
  obtain rfl:p=0:=by omega
  refine bD.val bn (po hs bl ?_ ?_)
  .simpa[sliced]using fN.nil 0 F w T0 r
  .intro k hk;simp[sliced,ba,Zw]at hk
 .simp only[aag,true_and]at fc;obtain⟨rfl,rfl⟩:=fc
  obtain⟨o1,k9,U4,Na⟩:∃o1,sliced (some ⟨g,o0,aaK⟩) p q cap r.size= .slice (some ⟨g,o1,aaK⟩) (q-p) (cap-p)/\o1+(cap-p)*r.size<=cur.size/\(cur.toList.drop o1).take ((q-p)*r.size)=(xs.drop (p*r.size)).take ((q-p)*r.size):=by
   have Yb:p*r.size<=cap*r.size:=Zg _ (by omega);have U5:(cap-p)*r.size=cap*r.size-p*r.size:=Nat.sub_mul ..;unfold sliced;by_cases hc:cap=p
   .refine⟨o0,by rw[aaP hc],by omega,?_⟩
    have:q=p:=by omega
    subst this;simp
   .refine⟨o0+p*r.size,by rw[aaO hc,Option.map_some,bT],by omega,?_⟩;rw[<-Dd,List.drop_take,List.take_take,List.drop_drop]
    congr 1
    omega
  rw[k9]at bn
  have Tv:∀k,ba (.slice (some ⟨g,o1,aaK⟩) (q-p) (cap-p)) k->ba (.slice (some ⟨g,o0,aaK⟩) l.length cap) k:=λk hk=>by simpa[ba,Zw]using hk
  refine bD.val bn (po hs bl ⟨λk hk=>zc k (Tv k hk),(xs.drop (p*r.size)).take ((q-p)*r.size),⟨by rw[P7];simp;omega, .inr ⟨g,o1,cap-p,cur,by rw[P7],qX,hh,by omega,by omega,U4,?_⟩⟩,λi hi=>?_⟩ λk hk=> .inl ⟨o,by simp,_,_,_,bR,M8,Tv k hk⟩)
  .rw[P7];exact Na
  .have U6:i<q-p:=by omega
   have hle:(i+1)*r.size<=(q-p)*r.size:=Zg _ U6;rw[ZH]at hle;have:=hr (p+i) (by omega)
   have hg:((l.take q).drop p)[i]=l[p+i]'(by omega):=by simp
   rw[hg,List.drop_take,List.take_take,Z3 (by omega),List.drop_drop,show p*r.size+i*r.size=(p+i)*r.size from(ZH ..).symm];exact this
theorem De(dr:Bool)(T:aJ P){rd:Operand->Option ag}(dD:∀x d,rd x=some d->af H F w d (ev ρ x)){t:TypeId}{D:ag}{x:Operand}{lo hi:Option Operand}{k:cU->Option R}{q:R}(h:pt dr T rd ob n t D lo hi k=some q)(hs:al U H F w ob n)(hx:af H F w D (ev ρ x)):
 ∃e,k e=some q/\bK P U H F w ρ ob n ⟨some d, .slice t x lo hi aaK,ty,pos,aft,aaK⟩ e:=by
 unfold pt at h;split at h
 case h_2=>cases h
 rename_i e hu;have ht:=T.und_ok _ _ hu;split at h
 case h_2=>cases h
 rename_i re P8;obtain⟨ti,z,h1,_,_,h4,_⟩:=T.row_ok _ _ P8;split at h
 case h_2=>cases h
 rename_i a ha;split at h
 case h_2=>cases h
 rename_i b hb;have Pk:=Bx (w:=w) (H:=H) (F:=F) (ρ:=ρ) dD ha;have qX:=Bx (w:=w) (H:=H) (F:=F) (ρ:=ρ) dD hb
 have KH:∀{r:Row}{l m:List r.den},bN F w (.slice r) [ev ρ x] l->r.size=re.size->eG l (a.getD 0) (b.getD (l.length:Int))=some m->bK P U H F w ρ ob n ⟨some d, .slice t x lo hi aaK,ty,pos,aft,aaK⟩ {dst:= .val aaM (.leaf (.slice r) m)}:=by
  intro r l m hv hz hm;obtain⟨p,q',ep,eq,JX,hq,rfl⟩:=pe hm;have cV:=hv;obtain⟨A,cap,he,hc,FL,_⟩:=hv;simp only[Z8,and_true]at he;have bn:=qZ (P:=P) (w:=w) (d:=d) (ty:=ty) (pos:=pos) (aft:=aft) ht h1 he Pk qX (by omega) (by omega) (by omega) hc;rw[ep,eq,Y4,Y4,h4,<-hz]at bn;rw[he]at cV;exact bj hs bn (aw.kz (cV.cut JX hq))
 split at h
 .rename_i r l fc;obtain⟨hz,h⟩:=ay h;obtain⟨m,hm,hk⟩:=bind_some h;exact⟨_,hk,KH (fD hs fc hx) (beq_true hz) hm⟩
 .rename_i fc;obtain⟨m,hm,hk⟩:=bind_some h;have hv:ev ρ x=_:=fD hs fc hx;unfold eG at hm;split at hm
  case isFalse=>cases hm
  rename_i hc
  have ea:a.getD 0=0:=by have:=hc.2.1;have:=hc.2.2;simp at this;omega
  have eb:b.getD ((0:Nat):Int)=0:=by have:=hc.2.1;have:=hc.2.2;simp at this⊢;omega
  have bn:=qZ (P:=P) (w:=w) (d:=d) (ty:=ty) (pos:=pos) (aft:=aft) ht h1 hv Pk qX (by omega) (by omega) (by omega) (YY _);rw[ea,eb]at bn;exact⟨_,hk,bj hs bn ⟨_,rfl,rfl,λ_=>rfl⟩⟩
 .rename_i o s T0 r l fc;obtain⟨hv,bR,dc⟩:=fD hs fc hx
  cases P9:(YZ r.size re.size&&YZ T0 e&&(lo.isNone||dr))with
  |true=>
   rw[P9,cond_true]at h;obtain⟨ze,Yc⟩:=bO P9;obtain⟨zd,hT⟩:=bO ze;have M2:=beq_true zd;obtain⟨m,hm,hk⟩:=bind_some h;exact⟨_,hk,Dc ht h1 (h4.trans M2.symm) rfl hs bR hv Pk qX hm⟩
  |false=>
   rw[P9,cond_false]at h;obtain⟨zd,h'⟩:=ay h;clear h;have M2:=beq_true zd;obtain⟨m,hm,hk⟩:=bind_some h';obtain⟨p,q',ep,eq,JX,hq,rfl⟩:=pe hm;obtain⟨A,cap,he,hc,FL,_⟩:=dc.reads;have bn:=qZ (P:=P) (w:=w) (d:=d) (ty:=ty) (pos:=pos) (aft:=aft) ht h1 he Pk qX (by omega) (by omega) (by omega) hc;rw[ep,eq,Y4,Y4,h4,<-M2]at bn;obtain⟨v',cV,bL⟩:=hs.obj _ _ _ bR;refine⟨_,hk,bj hs bn ⟨_,⟨_,rfl,A,cap,T0,l,p,q',by rw[hv,he],bL.con,JX,hq,rfl,rfl⟩,rfl,λ_=>rfl⟩⟩
 .cases h
noncomputable def KI(T:aJ P)(ob:Nat->Option (Nat×Th))(o:BinOp)(t:TypeId)(X Y:ag):Option ag:=
 match X,Y with
 | .val aaM (.leaf .bool a), .val aaM (.leaf .bool b)=>match find T.und t with
   |some .bool=>match o with
    | .eql=>some (cR (decide (a=b)))
    | .neq=>some (cR (!decide (a=b)))
    |_=>aaK
   |_=>aaK
 | .val aaM (.leaf .str a), .val aaM (.leaf .str b)=>match o with
   | .eql=>some (cR (decide (a=b)))
   | .neq=>some (cR (!decide (a=b)))
   |_=>aaK
 | .val aaL u, .val aaL v=>match find T.eqs t with
   |some r=>match flat ob r u with
    |some x=>match flat ob r v with
     |some y=>match o with
      | .eql=>some (cR (ku r x y))
      | .neq=>some (cR (!(ku r x y)))
      |_=>aaK
     |none=>aaK
    |none=>aaK
   |none=>aaK
 |_,_=>aaK
theorem IE(T:aJ P){o:BinOp}{t u:TypeId}{X Y D:ag}{x y:Operand}(h:KI T ob o t X Y=some D)(hs:al U H F w ob n)(hx:af H F w X (ev ρ x))(hy:af H F w Y (ev ρ y)):
 bK P U H F w ρ ob n ⟨some d, .binOp o t x y u,ty,pos,aft,aaK⟩ {dst:=D}:=by
 unfold KI at h;split at h
 .rename_i a b;split at h
  case h_2=>cases h
  rename_i hu;have hu:=T.und_ok _ _ hu;have ha:ev ρ x= .bool a:=aw.bool hx;have hb:ev ρ y= .bool b:=aw.bool hy
  split at h<;>cases h
  .exact aB hs (CC hu ha hb) (aw.dR ..)
  .exact aB hs (CD hu ha hb) (aw.dR ..)
 .rename_i a b;have ha:ev ρ x= .string a:=aw.str hx;have hb:ev ρ y= .string b:=aw.str hy
  split at h<;>cases h
  .exact aB hs (CE ha hb) (aw.dR ..)
  .exact aB hs (CF ha hb) (aw.dR ..)
 .rename_i u v;split at h
  case h_2=>cases h
  rename_i r hr;obtain⟨K,dd,hE,hd,hg,hD⟩:=T.eqs_ok _ _ hr;split at h
  case h_2=>cases h
  rename_i a ha;split at h
  case h_2=>cases h
  rename_i b hb;obtain⟨c1,g1,e1,_⟩:=hx;obtain⟨c2,g2,e2,_⟩:=hy;have r1:=eM hs ha g1;have r2:=eM hs hb g2
  split at h<;>cases h
  .exact aB hs (CU hE hd hg hD e1 e2 r1 r2) (aw.dR ..)
  .exact aB hs (CV hE hd hg hD e1 e2 r1 r2) (aw.dR ..)
 .cases h
def KJ(a b:ByteArray):Option ByteArray:=if a.size+b.size<=9223372036854775807 then some (a++b)else aaK
def zI(o:BinOp)(X Y:ag):Option (ByteArray×ByteArray):=
 match o,X,Y with
 | .add, .val aaM (.leaf .str a), .val aaM (.leaf .str b)=>some (a,b)
 |_,_,_=>aaK
theorem KL{t u:TypeId}{o:BinOp}{X Y:ag}{x y:Operand}{a b c:ByteArray}(h:zI o X Y=some (a,b))(hc:KJ a b=some c)(hs:al U H F w ob n)(hx:af H F w X (ev ρ x))(hy:af H F w Y (ev ρ y)):
 bK P U H F w ρ ob n ⟨some d, .binOp o t x y u,ty,pos,aft,aaK⟩ {dst:= .val aaM (.leaf .str c)}:=by
 unfold zI at h
 split at h<;>cases h
 unfold KJ at hc;split at hc
 case isFalse=>cases hc
 rename_i hle;obtain rfl:=YU hc;have ha:ev ρ x= .string a:=aw.str hx;have hb:ev ρ y= .string b:=aw.str hy;refine bj hs (v:= .string (a++b)) ?_ (aw.kz rfl)
 have:¬(9223372036854775807:Int)<(a.size:Int)+(b.size:Int):=by omega
 simp[execOp,eqGuard,binOp,Op.stringOp,ha,hb,IntKind.max,IntKind.signed,IntKind.bits,this]
noncomputable def Df(T:aJ P)(ob:Nat->Option (Nat×Th))(o:BinOp)(t:TypeId)(lit:Bool)(X Y:ag)(k:cU->Option R):Option R:=
 match asInt X with
 |some (kx,a)=>match asInt Y with
  |some (ky,b)=>match o with
   | .shl=>bif lit then(bif !decide (b<0)then k {dst:=ju kx (Fz kx a b)}else aaK)else(ph kx a b).bind λc=>k {dst:=ju kx c}
   | .shr=>bif lit then(bif !decide (b<0)then k {dst:=ju kx (bW kx a b)}else aaK)else(zC kx a b).bind λc=>k {dst:=ju kx c}
   |o=>bif decide (kx=ky)then
    (match o with
    | .quo=>bif lit then(bif decide (b≠0)then k {dst:=ju kx (kx.wrap (Z6 a b))}else aaK)else(MX a b).bind λc=>k {dst:=ju kx (kx.wrap c)}
    | .rem=>bif lit then(bif decide (b≠0)then k {dst:=ju kx (aaq a b)}else aaK)else(MY a b).bind λc=>k {dst:=ju kx c}
    |_=>match arith o kx a b with
     |some D=>k {dst:=D}
     |none=>aaK)else aaK
  |none=>aaK
 |none=>match zI o X Y with
  |some (a,b)=>(KJ a b).bind λc=>k {dst:= .val aaM (.leaf .str c)}
  |none=>match KI T ob o t X Y with
   |some D=>k {dst:=D}
   |none=>aaK
theorem IF(T:aJ P){o:BinOp}{t u:TypeId}{lit:Bool}{X Y:ag}{x y:Operand}{k:cU->Option R}{q:R}(h:Df T ob o t lit X Y k=some q)(hs:al U H F w ob n)(hx:af H F w X (ev ρ x))(hy:af H F w Y (ev ρ y)):
 ∃e,k e=some q/\bK P U H F w ρ ob n ⟨some d, .binOp o t x y u,ty,pos,aft,aaK⟩ e:=by
 unfold Df at h;split at h
 .rename_i kx a hX;split at h
  case h_2=>cases h
  rename_i ky b hY;have ha:=fk hX hx;have hb:=fk hY hy;split at h
  .cases lit with
   |true=>
    rw[cond_true]at h;obtain⟨cq,h⟩:=ay h;exact⟨_,h,aB hs (wT ha hb (by simpa using cq)) (aw.gy ..)⟩
   |false=>
    rw[cond_false]at h;obtain⟨c,hc,h⟩:=bind_some h;unfold ph at hc;split at hc
    .cases hc
    .rename_i cq;obtain rfl:=YU hc;exact⟨_,h,aB hs (wT ha hb cq) (aw.gy ..)⟩
  .cases lit with
   |true=>
    rw[cond_true]at h;obtain⟨cq,h⟩:=ay h;exact⟨_,h,aB hs (wU ha hb (by simpa using cq)) (aw.gy ..)⟩
   |false=>
    rw[cond_false]at h;obtain⟨c,hc,h⟩:=bind_some h;unfold zC at hc;split at hc
    .cases hc
    .rename_i cq;obtain rfl:=YU hc;exact⟨_,h,aB hs (wU ha hb cq) (aw.gy ..)⟩
  obtain⟨hk,h'⟩:=ay h;clear h;have hk:=aaQ hk;subst hk;revert h';intro h;split at h
  .cases lit with
   |true=>
    rw[cond_true]at h;obtain⟨cq,h⟩:=ay h;exact⟨_,h,FC (aaQ cq) hs ha hb⟩
   |false=>
    rw[cond_false]at h;obtain⟨c,hc,h⟩:=bind_some h;unfold MX at hc;split at hc
    .cases hc
    .rename_i cq;obtain rfl:=YU hc;exact⟨_,h,FC cq hs ha hb⟩
  .cases lit with
   |true=>
    rw[cond_true]at h;obtain⟨cq,h⟩:=ay h;exact⟨_,h,FD (aaQ cq) hs ha hb⟩
   |false=>
    rw[cond_false]at h;obtain⟨c,hc,h⟩:=bind_some h;unfold MY at hc;split at hc
    .cases hc
    .rename_i cq;obtain rfl:=YU hc;exact⟨_,h,FD cq hs ha hb⟩
  .split at h
   case h_2=>cases h
   rename_i D hD;exact⟨_,h,FB hD hs ha hb⟩
 .split at h
  .rename_i a b P4;obtain⟨c,hc,h⟩:=bind_some h;exact⟨_,h,KL P4 hc hs hx hy⟩
  .split at h
   case h_2=>cases h
   rename_i D hD;exact⟨_,h,IE T hD hs hx hy⟩
def Qa(o:UnOp)(X:ag):Option ag:=
 match o with
 | .not=>match asBool X with
   |some b=>some (cR (!b))
   |none=>aaK
 | .neg=>match asInt X with
   |some (k,a)=>some (ju k (k.wrap (0-a)))
   |none=>aaK
 |_=>aaK
theorem KM{o:UnOp}{t:TypeId}{X D:ag}{x:Operand}(h:Qa o X=some D)(hs:al U H F w ob n)(hx:af H F w X (ev ρ x)):
 bK P U H F w ρ ob n ⟨some d, .unOp o t x,ty,pos,aft,aaK⟩ {dst:=D}:=by
 unfold Qa at h;split at h
 .split at h<;>cases h
  rename_i b hb;exact aB hs (Fe (kA hb hx)) (aw.dR ..)
 .split at h<;>cases h
  rename_i k a ha;exact aB hs (Ff (fk ha hx)) (aw.gy ..)
 .cases h
def FM(T:aJ P)(s t:TypeId)(X:ag):Option ag:=
 match find T.und s with
 |some _=>match find T.und t with
  |some (.int k)=>match asInt X with
   |some (_,a)=>some (ju k (k.wrap a))
   |none=>aaK
  |some .str=>match wR X with
   |some a=>some (P1 a)
   |none=>aaK
  |_=>aaK
 |none=>aaK
theorem FN(T:aJ P){s t:TypeId}{X D:ag}{x:Operand}(h:FM T s t X=some D)(hs:al U H F w ob n)(hx:af H F w X (ev ρ x)):
 bK P U H F w ρ ob n ⟨some d, .convert s t x,ty,pos,aft,aaK⟩ {dst:=D}:=by
 unfold FM at h;split at h
 case h_2=>cases h
 rename_i ks U7;obtain⟨dd,tQ,_⟩:=(T.und_ok _ _ U7).agg;split at h
 .rename_i k Qb
  split at h<;>cases h
  rename_i k' a ha;exact aB hs (CG tQ (T.und_ok _ _ Qb) (fk ha hx)) (aw.gy ..)
 .rename_i Qb
  split at h<;>cases h
  rename_i a ha;have hv:=rE ha hx;have Qc:P.underlying t=some .string:=T.und_ok _ _ Qb;refine bj hs (v:= .string a) ?_ (aw.mkStr ..);simp[execOp,convert,run_underlying tQ,run_underlying Qc,hv]
 .cases h
def rN(D:ag)(i:Nat):Option ag:=
 match D with
 | .tup ds=>match ds[i]? with
   |some (a,t)=>some (.val a t)
   |none=>aaK
 |_=>aaK
theorem oy.get:{ds:List (Bool×Tree)}->{vs:List Value}->{i:Nat}->{a:Bool}->{t:Tree}->oy H F w ds vs->ds[i]? =some (a,t)->∃v,vs[i]? =some v/\aw H F w a t v
 |[],_,_,_,_,_,h=>by cases h
 |d::ds,_,0,a,t,hh,h=>by
  obtain⟨v,us,rfl,h1,h2⟩:=hh
  obtain rfl:d=(a,t):=by simpa using h
  exact⟨v,rfl,h1⟩
 |d::ds,_,i+1,a,t,hh,h=>by
  obtain⟨v,us,rfl,h1,h2⟩:=hh;obtain⟨v',e,hv⟩:=oy.get h2 (by simpa using h);exact⟨v',by simpa using e,hv⟩
theorem w8{D D':ag}{i:Nat}{x:Operand}(h:rN D i=some D')(hs:al U H F w ob n)(hx:af H F w D (ev ρ x)):
 bK P U H F w ρ ob n ⟨some d, .extract x i,ty,pos,aft,aaK⟩ {dst:=D'}:=by
 unfold rN at h;split at h
 case h_2=>cases h
 split at h<;>cases h
 rename_i ds a t hd;obtain⟨vs,e,ht⟩:=hx;obtain⟨v,hv,jL⟩:=ht.get hd;exact aB hs (vb e (by simpa using hv)) jL
def rb(mx:Bool)(X Y:ag):Option ag:=
 match asInt X,asInt Y with
 |some (k,a),some (k',b)=>bif decide (k=k')then some (ju k (bif mx then(if a<b then b else a)else(if b<a then b else a)))else aaK
 |_,_=>aaK
theorem rO{mx:Bool}{t t':TypeId}{X Y D:ag}{x y:Operand}(h:rb mx X Y=some D)(hs:al U H F w ob n)(hx:af H F w X (ev ρ x))(hy:af H F w Y (ev ρ y)):
 bK P U H F w ρ ob n ⟨some d, .call {callee:= .builtin (bif mx then .max else .min),args:= #[x,y],argTypes:= #[t,t']},ty,pos,aft,aaK⟩ {dst:=D}:=by
 unfold rb at h;split at h
 case h_2=>cases h
 rename_i k a k' b ha hb;obtain⟨hk,h'⟩:=ay h;clear h;have hk:=aaQ hk;subst hk;obtain rfl:=YU h';have ha:=fk ha hx;have hb:=fk hb hy
 cases mx with
 |true=>exact aB hs (CI ha hb) (aw.gy ..)
 |false=>exact aB hs (CJ ha hb) (aw.gy ..)
theorem Dg{D:ag}{x:Operand}(hs:al U H F w ob n)(hx:af H F w D (ev ρ x)):bK P U H F w ρ ob n ⟨some d, .move x,ty,pos,aft,aaK⟩ {dst:=D}:=aB hs (CB rfl) hx
theorem w9{D:ag}{x:Operand}(hs:al U H F w ob n)(hx:af H F w D (ev ρ x)):bK P U H F w ρ ob n ⟨some d, .assign x,ty,pos,aft,aaK⟩ {dst:=D}:=aB hs (wN rfl) hx
def vj(T:aJ P)(t:TypeId)(f:Nat)(X:ag):Option ag:=
 match find T.und t with
 |some (.struct fs)=>match fs[f]? with
  |some (ft,off)=>match find T.und ft with
   |some kk=>match X with
    | .val aaL u=>match u.get (oz fs.length f)with
      |some (s,cN)=>bif YZ cN off&&jv T ft kk s.size then some (.val (gJ kk) s)else aaK
      |none=>aaK
    |_=>aaK
   |none=>aaK
  |none=>aaK
 |_=>aaK
theorem zJ(T:aJ P){t:TypeId}{f:Nat}{X D:ag}{x:Operand}(h:vj T t f X=some D)(hs:al U H F w ob n)(hx:af H F w X (ev ρ x)):
 bK P U H F w ρ ob n ⟨some d, .field t x f,ty,pos,aft,aaK⟩ {dst:=D}:=by
 unfold vj at h;split at h
 case h_2=>cases h
 rename_i fs hu;obtain⟨arr,EP,Iz⟩:=T.und_ok _ _ hu;split at h
 case h_2=>cases h
 rename_i ft off hf;obtain⟨fd,Mq,rfl,rfl⟩:=wW Iz hf;split at h
 case h_2=>cases h
 rename_i kk U8;obtain⟨dd,tQ,sW⟩:=(T.und_ok _ _ U8).agg;split at h
 case h_2=>cases h
 rename_i u;split at h
 case h_2=>cases h
 rename_i s cN hg;obtain⟨hb,rfl⟩:=oA h;obtain⟨EQ,Mr⟩:=bO hb;obtain rfl:=beq_true EQ;have hz:=gz T Mr;obtain⟨cs,nG,e,_⟩:=hx;obtain⟨g1,g2⟩:=nG.get hg;have hl:=g1.length;have e':ev ρ x= .agg cs.toArray:=e
 have Nb:∃v,(part fd.type cs.toArray fd.offset).run P w= .ok v w/\aw H F w (gJ kk) s v:=by
  cases ha:gJ kk with
  |true=>
   rw[aaP ha]at hz;obtain⟨r,hr,Ia⟩:=hz;obtain⟨ti,z,h1,_,_,h4,_⟩:=T.row_ok _ _ hr;refine⟨.agg ((cs.drop fd.offset).take s.size).toArray,?_,_,g1,rfl,by simp⟩;unfold part;rw[Zs,dG tQ,sW,ha];simp[sizeOf,typeInfo,h1,h4,Ia]
  |false=>
   rw[aaO (by simp[ha])]at hz
   have ai:fd.offset<cs.length:=by omega
   refine⟨cs[fd.offset],?_,_,g1,?_,λ_=>?_⟩
   .unfold part;rw[Zs,dG tQ,sW,ha];simp[ai]
   .rw[hz,List.take_one,List.head?_drop,YX ai];rfl
   .rw[hz,List.take_one,List.head?_drop,YX ai];rfl
 obtain⟨v,hv,jL⟩:=Nb;refine bj hs (v:=v) ?_ jL;simp[execOp,Instr.field,run_underlying EP,Mq,e',asAgg,hv]
end
end
section
open Go Go.RowKit Go.MapKept
noncomputable def bk{α:Type}(K:Row):List (K.den×α)->K.den->Option α
 |[],_=>aaK
 |p::l,k=>if bV K p.1 k=aaL then some p.2 else bk K l k
noncomputable def kE{α:Type}(K:Row):List (K.den×α)->K.den->α->List (K.den×α)
 |[],k,v=>[(k,v)]
 |p::l,k,v=>if bV K p.1 k=aaL then(p.1,v)::l else p::kE K l k v
theorem fE{K:Row}{a b:K.den}{u v:Value}(ha:gH K a=some u)(hb:gH K b=some v):bV K a b=aaL↔u=v:=by
 unfold gH at ha
 split at ha<;>first|cases ha|skip
 all_goals
  simp only[gH,Y3]at hb;subst hb;simp[bV]
def xc{P:Program}(T:aJ P)(kt:TypeId):Row->Bool
 | .int k=>match find T.und kt with
   |some (.int k')=>decide (k=k')
   |_=>aaM
 | .bool=>match find T.und kt with
   |some .bool=>aaL
   |_=>aaM
 | .str=>match find T.und kt with
   |some .str=>aaL
   |_=>aaM
 |_=>aaM
section
variable {P:Program} {ρ:Nat->Value} {w w':World} {H H':aj} {F F':Nat->Prop} {U:Nat->Prop} {ob:Nat->Option (Nat×Th)} {n:Nat} {R:Type}
variable {op:Op} {ty:TypeId} {pos:String} {aft:Array Edge} {d:Nat}
theorem rP(T:aJ P){kt:TypeId}{K:Row}(h:xc T kt K=aaL):∃d,P.underlying kt=some d/\(∀x v,gH K x=some v->IsKey d v)/\(∀x v,bN F w K [v] x->gH K x=some v):=by
 unfold xc at h;split at h
 .split at h
  .rename_i k _ k' hu;obtain rfl:=aaQ h;refine⟨_,T.und_ok _ _ hu,λx v hx=>?_,λx v hr=>?_⟩
   .obtain rfl:=YU hx;rfl
   .have Bp:[v]=[ZS k x]:=hr;simp only[Z8,and_true]at Bp;rw[Bp];rfl
  .cases h
 .split at h
  .rename_i hu;refine⟨_,T.und_ok _ _ hu,λx v hx=>?_,λx v hr=>?_⟩
   .obtain rfl:=YU hx;trivial
   .have Bp:[v]=[Value.bool x]:=hr;simp only[Z8,and_true]at Bp;rw[Bp];rfl
  .cases h
 .split at h
  .rename_i hu;refine⟨_,T.und_ok _ _ hu,λx v hx=>?_,λx v hr=>?_⟩
   .obtain rfl:=YU hx;trivial
   .have Bp:[v]=[Value.string x]:=hr;simp only[Z8,and_true]at Bp;rw[Bp];rfl
  .cases h
 .cases h
theorem pu{K:Row}{agg:Bool}{V:Row}{dd:TypeDesc}{x:K.den}{kv:Value}(hK:∀x v,gH K x=some v->IsKey dd v)(hx:gH K x=some kv):{es:List MapEntry}->{l:List (K.den×V.den)}->(i:Nat)->ec H F w K agg V es l->
 (ZW dd kv es i=some aaK/\bk K l x=aaK/\(∀e∈es,e.key≠kv)/\∀H' F' w' y(e:MapEntry),e.key=kv->H.le H'->Step F w F' w'->aw H' F' w' agg (.leaf V y) e.val->ec H' F' w' K agg V (es++[e]) (kE K l x y))\/
 ∃j e y,ZW dd kv es i=some (some (i+j,e.val))/\es[j]? =some e/\e.key=kv/\bk K l x=some y/\aw H F w agg (.leaf V y) e.val/\
  ∀H' F' w' y(f:MapEntry->MapEntry),(f e).key=kv->H.le H'->Step F w F' w'->aw H' F' w' agg (.leaf V y) (f e).val->ec H' F' w' K agg V (es.modify j f) (kE K l x y)
 |[],l,i,h=>by
  obtain rfl:l=[]:=h;refine .inl ⟨rfl,rfl,by simp,λH' F' w' y e he hH hs hv=>⟨x,y,[],rfl,by rw[he];exact hx,hv,rfl⟩⟩
 |e::es,l,i,h=>by
  obtain⟨k,y,l',rfl,h1,h2,h3⟩:=h;obtain⟨r,hr,FO⟩:=sameNow_of_keys (hK x kv hx) (hK k _ h1);have CZ:=fE h1 hx
  cases r with
  |true=>
   have Qd:kv=e.key:=FO.1 rfl;have hq:bV K k x=aaL:=CZ.2 Qd.symm;refine .inr ⟨0,e,y,by simp[ZW,hr],rfl,Qd.symm,by simp[bk,hq],h2,λH' F' w' y' f hf hH hs hv=>?_⟩;refine⟨k,y',l',by simp[kE,hq],?_,hv,h3.keep hH hs⟩
   show gH K k=some (f e).key
   rw[hf,h1,Qd]
  |false=>
   have cq:¬e.key=kv:=λq=>by have:=FO.2 q.symm;cases this
   have hq:¬bV K k x=aaL:=λq=>cq (CZ.1 q)
   rcases pu hK hx (i+1) h3 with⟨a1,a2,a3,a4⟩|⟨j,e',z,a1,a2,a3,a4,a5,a6⟩
   .refine .inl ⟨by simp[ZW,hr,a1],by simp[bk,hq,a2],λe' he'=>?_,λH' F' w' y' e' he' hH hs hv=>?_⟩
    .rcases Y6.1 he' with rfl|he'
     .exact cq
     .exact a3 e' he'
    .exact⟨k,y,_,by simp[kE,hq],h1,h2.keep hH hs,a4 H' F' w' y' e' he' hH hs hv⟩
   .refine .inr ⟨j+1,e',z,by simp[ZW,hr,a1];omega,by simpa using a2,a3,by simp[bk,hq,a4],a5,λH' F' w' y' f hf hH hs hv=>?_⟩;refine⟨k,y,_,by simp[kE,hq],?_,?_,a6 H' F' w' y' f hf hH hs hv⟩
    .exact h1
    .exact h2.keep hH hs
noncomputable def asKey(ob:Nat->Option (Nat×Th))(K:Row):ag->Option K.den
 | .val aaM t=>flat ob K t
 |_=>aaK
theorem rQ(hs:al U H F w ob n){K:Row}{D:ag}{x:K.den}{v:Value}(h:asKey ob K D=some x)(hd:af H F w D v):bN F w K [v] x:=by
 unfold asKey at h;split at h
 .obtain⟨cs,h1,_,h3⟩:=hd;rw[h3 rfl]at h1;exact eM hs h h1
 .cases h
def By(ob:Nat->Option (Nat×Th)):ag->Option (Nat×Nat×Th)
 | .val aaM (.own o)=>match ob o with
   |some (s, .map T K agg V l)=>some (o,s, .map T K agg V l)
   |_=>aaK
 |_=>aaK
theorem xd(hs:al U H F w ob n){D:ag}{o s:Nat}{t:Th}{v:Value}(h:By ob D=some (o,s,t))(hd:af H F w D v):∃T K agg V l b es clock,t= .map T K agg V l/\ob o=some (s,t)/\H.val o=some v/\v= .map (some b)/\
 w.heap[b]? =some (.map es clock)/\Stamped es clock/\ec H F w K agg V es.toList l:=by
 unfold By at h;split at h
 .rename_i o';split at h
  .rename_i s' T K agg V l bR;simp only[Y3,ZV]at h;obtain⟨rfl,rfl,rfl⟩:=h;obtain⟨cs,⟨u,hu,_,e⟩,_,h3⟩:=hd;rw[h3 rfl]at e
   obtain rfl:v=u:=by simpa using e
   obtain⟨v',cV,bL⟩:=hs.obj _ _ _ bR;rw[hu]at cV;obtain rfl:=YU cV;obtain⟨b,es,clock,e,h1,h2,h3⟩:=bL.ok;exact⟨T,K,agg,V,l,b,es,clock,rfl,bR,hu,e,h1,h2,h3⟩
  .cases h
 .cases h
def kF(T:aJ P)(n:Nat)(t:TypeId)(k:cU->Option R):Option R:=
 match find T.und t with
 |some (.map kt vt)=>match find T.row kt with
  |some K=>match find T.row vt with
   |some V=>match find T.und vt with
    |some kk=>k {dst:= .val aaM (.own n),make:=[(n,(n, .map t K (gJ kk) V []))]}
    |none=>aaK
   |none=>aaK
  |none=>aaK
 |_=>aaK
theorem xe(T:aJ P){t:TypeId}{k:cU->Option R}{q:R}(h:kF T n t k=some q)(hs:al U H F w ob n):
 ∃e,k e=some q/\bK P U H F w ρ ob n ⟨some d, .makeMap t aaK,ty,pos,aft,aaK⟩ e:=by
 unfold kF at h;split at h
 case h_2=>cases h
 split at h
 case h_2=>cases h
 rename_i K _;split at h
 case h_2=>cases h
 rename_i V _;split at h
 case h_2=>cases h
 rename_i kk _
 have bn:(execOp (ev ρ) ⟨some d, .makeMap t aaK,ty,pos,aft,aaK⟩).run P w= .ok (.value (.map (some w.heap.size))) (w.alloc (.map #[] 0)):=by
  simp[execOp,Instr.makeMap,Za]
 refine⟨_,h,bD.val bn ?_⟩
 have hv:((H.aV n (.map t K (gJ kk) V [])).bS n (.map (some w.heap.size))).val n=some (.map (some w.heap.size)):=by simp[aj.bS]
 refine iX.new (v0:= .map (some w.heap.size)) hs rfl rfl (kC _) ⟨_, #[],0,rfl,(heap_alloc w _).1,stamped_empty 0,rfl⟩ (λk hk=>?_) (jT hv rfl);simp only[fp,Value.map.injEq,Y3]at hk;subst hk;exact⟨λe=>by have:=hs.lt _ e;omega,by simp, .inl (YY _)⟩
noncomputable def iq(T:aJ P)(ob:Nat->Option (Nat×Th))(n:Nat)(t:TypeId)(M X Y:ag)(k:cU->Option R):Option R:=
 match find T.und t with
 |some (.map kt _)=>match By ob M with
  |some (o,_, .map T0 K agg V l)=>bif xc T kt K then(match asKey ob K X with
   |some x=>match Y with
    | .val dh tr=>bif (bif agg then dh else !dh)then(match flat ob V tr with
      |some y=>k {dst:= .dead,eat:=[o],make:=[(o,(n, .map T0 K agg V (kE K l x y)))]}
      |none=>aaK)else aaK
    |_=>aaK
   |none=>aaK)else aaK
  |_=>aaK
 |_=>aaK
theorem pw{KN kt et:TypeId}{dd:TypeDesc}{b clock:Nat}{es:Array MapEntry}{key val:Value}(hm:P.underlying KN=some (.map kt et))(hd:P.underlying kt=some dd)(hb:w.heap[b]? =some (.map es clock))(hk:IsKey dd key):
 (ZW dd key es.toList 0=some aaK->(aab KN (.map (some b)) key val).run P w= .ok () {w with heap:=w.heap.setIfInBounds b (.map (es.push {key,val,born:=clock}) (clock+1))})/\
 (∀j e,ZW dd key es.toList 0=some (some (j,e))->((es[j]?).map (·.key)).getD key=key->(aab KN (.map (some b)) key val).run P w= .ok () {w with heap:=w.heap.setIfInBounds b (.map (es.modify j λe=>{e with key,val}) clock)}):=by
 refine⟨λh1=>?_,λj e h1 h2=>?_⟩
 .simp[aab,run_underlying hm,ZN hb,aac hd hk,aaj hd h1,aah _ hb,Za]
 .simp[aab,run_underlying hm,ZN hb,aac hd hk,aaj hd h1,h2,run_keyThatStays hk,aah _ hb,Za]
theorem td(T:aJ P){t:TypeId}{M X Y:ag}{m x y:Operand}{k:cU->Option R}{q:R}(h:iq T ob n t M X Y k=some q)(hs:al U H F w ob n)(hm:af H F w M (ev ρ m))(hx:af H F w X (ev ρ x))(hy:af H F w Y (ev ρ y)):
 ∃e,k e=some q/\bK P U H F w ρ ob n ⟨aaK, .mapUpdate t m x y,ty,pos,aft,aaK⟩ e:=by
 unfold iq at h;split at h
 case h_2=>cases h
 rename_i kt vt hu;split at h
 case h_2=>cases h
 rename_i o s T0 K agg V l oD;obtain⟨hk,h'⟩:=ay h;clear h;split at h'
 case h_2=>cases h'
 rename_i a ha;split at h'
 case h_2=>cases h'
 rename_i dh tr;obtain⟨nM,h⟩:=ay h';clear h'
 have nM:agg=dh:=by cases agg<;>cases dh<;>simp_all
 subst nM;split at h
 case h_2=>cases h
 rename_i b hb;refine⟨_,h,?_⟩;obtain⟨dd,hd,hK,hR⟩:=rP (F:=F) (w:=w) T hk;obtain⟨T1,K1,Qe,V1,l1,r,es,clock,e0,bR,hv,jK,hh,dZ,px⟩:=xd hs oD hm;cases e0;have kG:=hR _ _ (rQ hs ha hx)
 have k9:aw H F w agg (.leaf V b) (ev ρ y):=by
  obtain⟨cs,h1,h2⟩:=hy;exact⟨cs,eM hs hb h1,h2⟩
 have Qf:r<w.heap.size:=(Zx.1 hh).1
 have fin:∀o',(aab t (.map (some r)) (ev ρ x) (ev ρ y)).run P w= .ok () {w with heap:=w.heap.setIfInBounds r o'}->
  (∀w',(∀k,k≠r->w'.heap[k]? =w.heap[k]?)->∃iK ki,o'= .map iK ki/\Stamped iK ki/\ec (H.aV n (.map T0 K agg V (kE K l a b))) F w' K agg V iK.toList (kE K l a b))->
  bK P U H F w ρ ob n ⟨aaK, .mapUpdate t m x y,ty,pos,aft,aaK⟩ {dst:= .dead,eat:=[o],make:=[(o,(n, .map T0 K agg V (kE K l a b)))]}:=by
  intro o' bn FP;refine bD.unit (w':={w with heap:=w.heap.setIfInBounds r o'}) ?_ ?_
  .simp[execOp,jK,bn,Za]
  .have ir:∀k,k≠r->(w.heap.setIfInBounds r o')[k]? =w.heap[k]? :=(heap_set hh).2;obtain⟨iK,ki,rfl,g1,g2⟩:=FP {w with heap:=w.heap.setIfInBounds r o'} ir;refine iX.q7 (t':= .map T0 K agg V (kE K l a b)) (w':={w with heap:=w.heap.setIfInBounds r (.map iK ki)}) hs bR hv rfl (λk hk=>hk) ⟨rfl,⟨rfl,YY _⟩,rfl,by simp,λk hk hn=>ir k λe=>hn (by subst e;exact jK)⟩ ⟨r,iK,ki,jK,(heap_set hh).1,g1,g2⟩ trivial
 have xf:H.le (H.aV n (.map T0 K agg V (kE K l a b))):=aj.ei (hs.fresh n (YY _) (by omega)).2
 have cQ:∀w':World,(∀k,k≠r->w'.heap[k]? =w.heap[k]?)->Step F w F w':=by
  intro w' hw b hb;refine⟨hb,hw b λe=>?_⟩;subst e;obtain⟨v',cV,bL⟩:=hs.obj _ _ _ bR;rw[hv]at cV;obtain rfl:=YU cV;exact bL.no b jK hb
 obtain⟨r1,r2⟩:=pw (val:=ev ρ y) (T.und_ok _ _ hu) hd hh (hK _ _ kG)
 rcases pu hK kG 0 px with⟨a1,a2,a3,a4⟩|⟨j,e,z,a1,a2,a3,a4,a5,a6⟩
 .refine fin _ (r1 a1) λw' hw=>⟨_,_,rfl,stamped_push dZ a3,?_⟩
  rw[Array.toList_push];exact a4 _ F w' b _ rfl xf (cQ w' hw) (k9.keep xf (cQ w' hw))
 .rw[Zy]at a1
  have hj:es[j]? =some e:=by simpa using a2
  refine fin _ (r2 j _ a1 (by rw[hj];exact a3)) λw' hw=>⟨_,_,rfl,stamped_modify dZ _ _ (λ_ _=>rfl) (λe' _ he'=>?_),?_⟩
  .rw[hj]at he';cases he';exact a3.symm
  .rw[Array.toList_modify];exact a6 _ F w' b _ rfl xf (cQ w' hw) (k9.keep xf (cQ w' hw))
noncomputable def lI{α:Type}(K:Row):List (K.den×α)->K.den->List (K.den×α)
 |[],_=>[]
 |p::l,k=>if bV K p.1 k=aaL then l else p::lI K l k
theorem tZ{K:Row}{agg:Bool}{V:Row}{dd:TypeDesc}{x:K.den}{kv:Value}(hK:∀x v,gH K x=some v->IsKey dd v)(hx:gH K x=some kv):{es:List MapEntry}->{l:List (K.den×V.den)}->(i:Nat)->ec H F w K agg V es l->
 (ZW dd kv es i=some aaK/\lI K l x=l)\/
 ∃(j:Nat)(e:MapEntry),ZW dd kv es i=some (some (i+j,e.val))/\j<es.length/\∀H' F' w',H.le H'->Step F w F' w'->ec H' F' w' K agg V (es.eraseIdx j) (lI K l x)
 |[],l,i,h=>by
  obtain rfl:l=[]:=h;exact .inl ⟨rfl,rfl⟩
 |e::es,l,i,h=>by
  obtain⟨k,y,l',rfl,h1,h2,h3⟩:=h;obtain⟨r,hr,FO⟩:=sameNow_of_keys (hK x kv hx) (hK k _ h1);have CZ:=fE h1 hx
  cases r with
  |true=>
   have hq:bV K k x=aaL:=CZ.2 (FO.1 rfl).symm;exact .inr ⟨0,e,by simp[ZW,hr],by simp,λH' F' w' hH hs=>by simpa[lI,hq]using h3.keep hH hs⟩
  |false=>
   have hq:¬bV K k x=aaL:=λq=>by have:=FO.2 (CZ.1 q).symm;cases this
   rcases tZ hK hx (i+1) h3 with⟨a1,a2⟩|⟨j,e',a1,a2,a3⟩
   .exact .inl ⟨by simp[ZW,hr,a1],by simp[lI,hq,a2]⟩
   .exact .inr ⟨j+1,e',by simp[ZW,hr,a1];omega,by simpa using a2,λH' F' w' hH hs=>⟨k,y,_,by simp[lI,hq],h1,h2.keep hH hs,a3 H' F' w' hH hs⟩⟩
noncomputable def mL(T:aJ P)(ob:Nat->Option (Nat×Th))(n:Nat)(t:TypeId)(M X:ag)(k:cU->Option R):Option R:=
 match find T.und t with
 |some (.map kt _)=>match By ob M with
  |some (o,_, .map T0 K agg V l)=>bif xc T kt K then(match asKey ob K X with
   |some x=>k {dst:= .dead,eat:=[o],make:=[(o,(n, .map T0 K agg V (lI K l x)))]}
   |none=>aaK)else aaK
  |_=>aaK
 |_=>aaK
theorem zK(T:aJ P){t t':TypeId}{M X:ag}{m x:Operand}{k:cU->Option R}{q:R}{dst:Option Nat}(h:mL T ob n t M X k=some q)(hs:al U H F w ob n)(hm:af H F w M (ev ρ m))(hx:af H F w X (ev ρ x)):
 ∃e,k e=some q/\bK P U H F w ρ ob n ⟨dst, .call {callee:= .builtin .delete,args:= #[m,x],argTypes:= #[t,t']},ty,pos,aft,aaK⟩ e:=by
 unfold mL at h;split at h
 case h_2=>cases h
 rename_i kt vt hu;split at h
 case h_2=>cases h
 rename_i o s T0 K agg V l oD;obtain⟨hk,h'⟩:=ay h;clear h;split at h'
 case h_2=>cases h'
 rename_i a ha;refine⟨_,h',?_⟩;obtain⟨dd,hd,hK,hR⟩:=rP (F:=F) (w:=w) T hk;obtain⟨T1,K1,Qe,V1,l1,r,es,clock,e0,bR,hv,jK,hh,dZ,px⟩:=xd hs oD hm;cases e0;have kG:=hR _ _ (rQ hs ha hx);have xf:H.le (H.aV n (.map T0 K agg V (lI K l a))):=aj.ei (hs.fresh n (YY _) (by omega)).2
 have fin:∀iK,(Builtin.delete_ #[t,t'] ty #[.map (some r),ev ρ x]).run P w= .ok (.tuple #[]) {w with heap:=w.heap.setIfInBounds r (.map iK clock)}->Stamped iK clock->
  (∀w',Step F w F w'->ec (H.aV n (.map T0 K agg V (lI K l a))) F w' K agg V iK.toList (lI K l a))->
  bK P U H F w ρ ob n ⟨dst, .call {callee:= .builtin .delete,args:= #[m,x],argTypes:= #[t,t']},ty,pos,aft,aaK⟩ {dst:= .dead,eat:=[o],make:=[(o,(n, .map T0 K agg V (lI K l a)))]}:=by
  intro iK bn KO FP;have ir:∀k,k≠r->(w.heap.setIfInBounds r (.map iK clock))[k]? =w.heap[k]? :=(heap_set hh).2;refine bD.val (v:= .tuple #[]) (w':={w with heap:=w.heap.setIfInBounds r (.map iK clock)}) (by simp[execOp,resolve,invoke,builtin,jK,bn,Za]) ?_;refine iX.q7 (t':= .map T0 K agg V (lI K l a)) (w':={w with heap:=w.heap.setIfInBounds r (.map iK clock)}) hs bR hv rfl (λk hk=>hk) ⟨rfl,⟨rfl,YY _⟩,rfl,by simp,λk hk hn=>ir k λe=>hn (by subst e;exact jK)⟩ ⟨r,iK,clock,jK,(heap_set hh).1,KO,FP _ λb hb=>?_⟩ trivial;refine⟨hb,ir b λe=>?_⟩;subst e;obtain⟨v',cV,bL⟩:=hs.obj _ _ _ bR;rw[hv]at cV;obtain rfl:=YU cV;exact bL.no b jK hb
 rcases tZ hK kG 0 px with⟨a1,a2⟩|⟨j,e,a1,a2,a3⟩
 .refine fin es ?_ dZ λw' hw=>?_
  .simp[Builtin.delete_,run_underlying (T.und_ok _ _ hu),ZN hh,aac hd (hK _ _ kG),aaj hd a1,aah _ hh,Za]
  .rw[a2];exact px.keep (by rw[a2]at xf;exact xf) hw
 .rw[Zy]at a1
  refine fin (es.eraseIdxIfInBounds j) ?_ (MapKept.stamped_erase dZ j) λw' hw=>?_
  .simp[Builtin.delete_,run_underlying (T.und_ok _ _ hu),ZN hh,aac hd (hK _ _ kG),aaj hd a1,aah _ hh,Za]
  .have hj:j<es.size:=by simpa using a2
   have:(es.eraseIdxIfInBounds j).toList=es.toList.eraseIdx j:=by
    unfold Array.eraseIdxIfInBounds;rw[dif_pos hj,Array.toList_eraseIdx]
   rw[this];exact a3 _ F w' xf hw
theorem xg{t:TypeId}{agg:Bool}{V:Row}(h:vg P t agg V)(h1:agg=aaM->V.size=1):∃z,(zeroValue t).run P w= .ok z w/\aw H F w agg (.leaf V V.zero) z:=by
 obtain⟨z,hz,e⟩:=h
 cases hi:P.info? t with
 |none=>rw[hi]at hz;cases hz
 |some ti=>
  rw[hi]at hz;refine⟨z,?_,V.dw,bN.zero F w V,e,λha=>?_⟩
  .have hz':ti.zero=some z:=hz;simp[zeroValue,typeInfo,hi,hz',Za]
  .have hl:V.dw.length=V.size:=(bN.zero F w V).length;rw[h1 ha]at hl;subst ha;rw[cond_false]at e
   match hv:V.dw,hl with
   |[u],_=>rw[hv]at e;rw[e];rfl
theorem Bz{K:Row}{agg:Bool}{V:Row}:{es:List MapEntry}->{l:List (K.den×V.den)}->es.length=l.length->(∀i(h:i<l.length),∃(e:MapEntry)(cs:List Value),es[i]? =some e/\gH K l[i].1=some e.key/\bN F w V cs l[i].2/\e.val=(bif agg then .agg cs.toArray else cs.headD undef)/\(agg=aaM->cs=[e.val]))->ec H F w K agg V es l
 |[],[],_,_=>rfl
 |[],_::_,h,_=>by cases h
 |_::_,[],h,_=>by cases h
 |e::es,(k,x)::l,hl,h=>by
  obtain⟨e',cs,h1,h2,h3,h4,h5⟩:=h 0 (by simp)
  obtain rfl:e=e':=by simpa using h1
  exact⟨k,x,l,rfl,h2,⟨cs,h3,h4,h5⟩,Bz (by simpa using hl) λi hi=>by
   obtain⟨e',nH,q1,q2,q3,q4⟩:=h (i+1) (by simpa using hi)
   exact⟨e',nH,by simpa only[List.getElem?_cons_succ]using q1,q2,q3,q4⟩⟩
theorem BA{K:Row}{agg:Bool}{V:Row}:{es:List MapEntry}->{l:List (K.den×V.den)}->ec H F w K agg V es l->es.length=l.length/\∀i(h:i<l.length),∃(e:MapEntry)(cs:List Value),es[i]? =some e/\gH K l[i].1=some e.key/\bN F w V cs l[i].2/\e.val=(bif agg then .agg cs.toArray else cs.headD undef)/\(agg=aaM->cs=[e.val])
 |[],l,h=>by obtain rfl:l=[]:=h;exact⟨rfl,λi h=>by simp at h⟩
 |e::es,l,h=>by
  obtain⟨k,x,l',rfl,h1,⟨cs,h2,h3,h4⟩,h5⟩:=h;obtain⟨g1,g2⟩:=BA h5;refine⟨by simp[g1],λi hi=>?_⟩
  cases i with
  |zero=>exact⟨e,cs,rfl,h1,h2,h3,h4⟩
  |succ i=>
   obtain⟨e',nH,q1,q2,q3,q4⟩:=g2 i (by simpa using hi);exact⟨e',nH,by simpa only[List.getElem?_cons_succ]using q1,q2,q3,q4⟩
structure Nc where
 K:Row
 agg:Bool
 V:Row
 l:List (K.den×V.den)
def zL(ob:Nat->Option (Nat×Th)):ag->Option Nc
 | .val aaM (.leaf (.map K agg V) l)=>some ⟨K,agg,V,l⟩
 | .val aaM (.own o)=>match ob o with
   |some (_, .map _ K agg V l)=>some ⟨K,agg,V,l⟩
   |some (_, .fmap _ K agg V l)=>some ⟨K,agg,V,l⟩
   |_=>aaK
 |_=>aaK
theorem BC{K:Row}{agg:Bool}{V:Row}{l:List (K.den×V.den)}{v:Value}(h:bN F w (.map K agg V) [v] l):(v= .map aaK/\l=[])\/∃b es clock,v= .map (some b)/\w.heap[b]? =some (.map es clock)/\Stamped es clock/\ec H F w K agg V es.toList l:=by
 obtain⟨u,e,h⟩:=h
 obtain rfl:v=u:=by simpa using e
 refine h.imp id λ⟨b,es,clock,h1,h2,h3,h4,h5,h6⟩=>⟨b,es,clock,h1,h3,h4,Bz (by simpa using h5) λi hi=>by simpa using h6 i hi⟩
theorem Dh(hs:al U H F w ob n){D:ag}{m:Nc}{v:Value}(h:zL ob D=some m)(hd:af H F w D v):(v= .map aaK/\m.l=[])\/∃b es clock,v= .map (some b)/\w.heap[b]? =some (.map es clock)/\Stamped es clock/\ec H F w m.K m.agg m.V es.toList m.l:=by
 unfold zL at h;split at h
 .cases h;exact BC hd.inv
 .rename_i o;obtain⟨cs,⟨u,hu,_,e⟩,_,h3⟩:=hd;rw[h3 rfl]at e
  obtain rfl:v=u:=by simpa using e
  split at h
  .rename_i s T K agg V l bR;cases h;obtain⟨v',cV,bL⟩:=hs.obj _ _ _ bR;rw[hu]at cV;obtain rfl:=YU cV;obtain⟨b,es,clock,e,h1,h2,h3⟩:=bL.ok;exact .inr ⟨b,es,clock,e,h1,h2,h3⟩
  .rename_i s T K agg V l bR;cases h;obtain⟨v',cV,bL⟩:=hs.obj _ _ _ bR;rw[hu]at cV;obtain rfl:=YU cV;exact BC bL.ok
  .cases h
 .cases h
noncomputable def mM(T:aJ P)(ob:Nat->Option (Nat×Th))(t:TypeId)(ok:Bool)(M X:ag)(k:cU->Option R):Option R:=
 match find T.und t with
 |some (.map kt vt)=>match zL ob M with
  |some ⟨K,agg,V,l⟩=>match find T.zer vt with
   |some (dh,V')=>bif xc T kt K&&(bif agg then dh else !dh)&&V'.beq V&&(agg||YZ V.size 1)then(match asKey ob K X with
    |some x=>bif ok then k {dst:= .tup [(agg, .leaf V ((bk K l x).getD V.zero)),(aaM, .leaf .bool (bk K l x).isSome)]}
     else k {dst:= .val agg (.leaf V ((bk K l x).getD V.zero))}
    |none=>aaK)else aaK
   |none=>aaK
  |none=>aaK
 |_=>aaK
theorem zM(T:aJ P){t:TypeId}{ok:Bool}{M X:ag}{m x:Operand}{k:cU->Option R}{q:R}(h:mM T ob t ok M X k=some q)(hs:al U H F w ob n)(hm:af H F w M (ev ρ m))(hx:af H F w X (ev ρ x)):
 ∃e,k e=some q/\bK P U H F w ρ ob n ⟨some d, .lookup t m x ok,ty,pos,aft,aaK⟩ e:=by
 unfold mM at h;split at h
 case h_2=>cases h
 rename_i kt vt hu;split at h
 case h_2=>cases h
 rename_i K agg V l oD;split at h
 case h_2=>cases h
 rename_i dh V' hz;obtain⟨hc,h'⟩:=ay h;clear h;obtain⟨hc,JY⟩:=bO hc;obtain⟨hc,IG⟩:=bO hc;obtain⟨sZ,wP⟩:=bO hc
 have nM:agg=dh:=by cases agg<;>cases dh<;>simp_all
 subst nM;obtain rfl:=Row.eq_of_beq IG;split at h'
 case h_2=>cases h'
 rename_i a ha;obtain⟨dd,hd,hK,hR⟩:=rP (F:=F) (w:=w) T sZ;have kG:=hR _ _ (rQ hs ha hx)
 have iA:agg=aaM->V'.size=1:=λe=>by subst e;exact beq_true (by simpa using JY)
 obtain⟨z,ze,zd⟩:=xg (w:=w) (H:=H) (F:=F) (T.zer_ok _ _ _ hz) iA
 have main:∃v,(aaE t (ev ρ m) (ev ρ x) ok).run P w= .ok (if ok then .tuple #[v, .bool (bk K l a).isSome]else v) w/\aw H F w agg (.leaf V' ((bk K l a).getD V'.zero)) v:=by
  have Qg:=hK _ _ kG;have BD:=T.und_ok _ _ hu
  rcases Dh hs oD hm with⟨jK,hl⟩|⟨r,es,clock,jK,hh,dZ,px⟩
  .dsimp only at hl;subst hl;refine⟨z,?_,zd⟩;rw[jK];have hf:=aaj (w:=w) hd (show ZW dd (ev ρ x) [] 0=some aaK from rfl)
   cases ok<;>simp[aaE,run_underlying BD,aac hd Qg,hf,ze,bk,Za]
  .dsimp only at px
   rcases pu hK kG 0 px with⟨a1,a2,_⟩|⟨j,e,y,a1,_,_,a4,a5,_⟩
   .refine⟨z,?_,by rw[a2];exact zd⟩;rw[jK,a2];simp[aaE,run_underlying BD,ZN hh,aac hd Qg,aaj hd a1,ze,Za]
   .refine⟨e.val,?_,by rw[a4];exact a5⟩;rw[jK,a4];simp[aaE,run_underlying BD,ZN hh,aac hd Qg,aaj hd a1,Za]
 obtain⟨v,bn,jL⟩:=main
 cases ok with
 |true=>
  refine⟨_,h',bj hs (v:= .tuple #[v, .bool (bk K l a).isSome]) (by simp[execOp,bn,Za]) ⟨[v, .bool (bk K l a).isSome],rfl,_,_,rfl,jL,_,_,rfl,aw.dR ..,rfl⟩⟩
 |false=>exact⟨_,h',bj hs (v:=v) (by simp[execOp,bn,Za]) jL⟩
def jU(s:ByteArray)(i:Int):Option Int:=(if 0<=i then s[i.toNat]? else aaK).map λb=>(b.toNat:Int)
theorem xh{e:Row}:{m:Nat}->{r:Row}->{x:r.den}->{l:List e.den}->{cs:List Value}->iY m r x e=some l->bN F w r cs x->l.length=m/\cs.length=m*e.size/\∀i(h:i<l.length),bN F w e ((cs.drop (i*e.size)).take e.size) l[i]
 |0,r,x,l,cs,h,_=>by unfold iY at h;cases h
 |1,r,x,l,cs,h,ha=>by
  unfold iY at h;split at h
  case isFalse=>cases h
  rename_i hb;obtain rfl:=Row.eq_of_beq hb;obtain rfl:=YU h;have hl:=ha.length;refine⟨rfl,by simp[hl],λi hi=>?_⟩
  obtain rfl:i=0:=by simp at hi;omega
  rw[Nat.zero_mul,List.drop_zero,<-hl,Zh];exact ha
 |m+2, .pair a b,x,l,cs,h,ha=>by
  unfold iY at h;split at h
  case isFalse=>cases h
  rename_i hb;obtain rfl:=Row.eq_of_beq hb;split at h
  case h_2=>cases h
  rename_i l' hl;obtain rfl:=YU h;obtain⟨c1,c2,rfl,h1,h2⟩:=ha;have EO:=h1.length;obtain⟨g1,g2,g3⟩:=xh hl h2;refine⟨by simp[g1],by rw[Zf,EO,g2,show m+2=(m+1)+1 from rfl,ZH (m+1) 1,Nat.one_mul];omega,λi hi=>?_⟩
  cases i with
  |zero=>
   rw[Nat.zero_mul,List.drop_zero,List.take_append_of_le_length (by omega),<-EO,Zh];exact h1
  |succ i=>
   have:=g3 i (by simpa using hi);rw[show(i+1)*a.size=c1.length+i*a.size from by rw[ZH];omega,<-List.drop_drop,List.drop_left];exact this
 |m+2, .int _,_,_,_,h,_=>by unfold iY at h;cases h
 |m+2, .bool,_,_,_,h,_=>by unfold iY at h;cases h
 |m+2, .str,_,_,_,h,_=>by unfold iY at h;cases h
 |m+2, .slice _,_,_,_,h,_=>by unfold iY at h;cases h
 |m+2, .iU,_,_,_,h,_=>by unfold iY at h;cases h
 |m+2, .nul _,_,_,_,h,_=>by unfold iY at h;cases h
 |m+2, .map ..,_,_,_,h,_=>by unfold iY at h;cases h
def mN(T:aJ P)(ob:Nat->Option (Nat×Th))(t:TypeId)(D:ag)(i:Int)(k:cU->Option R):Option R:=
 match find T.und t with
 |some .str=>match wR D with
  |some s=>(jU s i).bind λc=>k {dst:=ju .u8 c}
  |none=>aaK
 |some (.array m e)=>match find T.row t with
  |some r=>match find T.row e with
   |some re=>match find T.und e with
    |some kk=>match D with
     | .val aaL tr=>match flat ob r tr with
       |some x=>match iY m r x re with
        |some l=>bif gJ kk||YZ re.size 1 then(idx l i).bind λy=>k {dst:= .val (gJ kk) (.leaf re y)}else aaK
        |none=>aaK
       |none=>aaK
     |_=>aaK
    |none=>aaK
   |none=>aaK
  |none=>aaK
 |_=>aaK
theorem zN(T:aJ P){t:TypeId}{D:ag}{x y:Operand}{kd:IntKind}{i:Int}{k:cU->Option R}{q:R}(h:mN T ob t D i k=some q)(hs:al U H F w ob n)(hx:af H F w D (ev ρ x))(hy:ev ρ y= .int kd i):
 ∃e,k e=some q/\bK P U H F w ρ ob n ⟨some d, .index t x y,ty,pos,aft,aaK⟩ e:=by
 unfold mN at h;split at h
 .rename_i hu;have hu:=T.und_ok _ _ hu;split at h
  case h_2=>cases h
  rename_i s hS;obtain⟨c,hc,hk⟩:=bind_some h;have hv:=rE hS hx;unfold jU at hc;obtain⟨b,hb,rfl⟩:=Option.map_eq_some_iff.1 hc;refine⟨_,hk,bj hs (v:= .int .u8 b.toNat) ?_ (aw.gy ..)⟩;have BD:P.underlying t=some .string:=hu;simp[execOp,Instr.index,asIntOf,run_underlying BD,hv,hy,hb]
 .rename_i m e hu;have hu:P.underlying t=some (.array m e):=T.und_ok _ _ hu;split at h
  case h_2=>cases h
  rename_i r hr;split at h
  case h_2=>cases h
  rename_i re P8;split at h
  case h_2=>cases h
  rename_i kk CZ;split at h
  case h_2=>cases h
  rename_i tr;split at h
  case h_2=>cases h
  rename_i z hz;split at h
  case h_2=>cases h
  rename_i l hl;obtain⟨Tw,h'⟩:=ay h;clear h;obtain⟨a,ha,hk⟩:=bind_some h';obtain⟨cs,hh,hv,_⟩:=hx;rw[cond_true]at hv;obtain⟨g1,g2,g3⟩:=xh hl (eM hs hz hh);obtain⟨j,hj,ai,rfl⟩:=ef ha;obtain⟨ti,z0,h1,_,_,h4,_⟩:=T.row_ok _ _ P8;obtain⟨dd,tQ,sW⟩:=(T.und_ok _ _ CZ).agg;have oE:=g3 j ai
  have iA:(j+1)*re.size<=cs.length:=by rw[g2];exact Zg _ (by omega)
  rw[ZH]at iA;refine⟨_,hk,?_⟩
  cases nM:gJ kk with
  |true=>
   refine bj hs (v:= .agg ((cs.drop (j*re.size)).take re.size).toArray) ?_ ⟨_,oE,rfl,by simp⟩;subst hj;simp[execOp,Instr.index,asIntOf,run_underlying hu,hv,hy,show j<m by omega,part,Zs,dG tQ,sW,nM,sizeOf,typeInfo,h1,h4,List.extract_eq_take_drop]
  |false=>
   rw[nM,Bool.false_or]at Tw;have jf:=beq_true Tw;have hlen:=oE.length;rw[jf,Nat.mul_one]at oE iA;rw[jf]at hlen
   obtain⟨v,tW⟩:∃v,(cs.drop j).take 1=[v]:=by
    match hq:(cs.drop j).take 1,ua:((cs.drop j).take 1).length with
    |[v],_=>exact⟨v,rfl⟩
    |[],_=>rw[Nat.mul_one,hq]at hlen;cases hlen
    |_::_::_,_=>rw[Nat.mul_one,hq]at hlen;cases hlen
   rw[tW]at oE
   have Iu:cs[j]? =some v:=by
    have:(cs.drop j)[0]? =some v:=by
     have h0:((cs.drop j).take 1)[0]? =some v:=by rw[tW];rfl
     rwa [List.getElem?_take_of_lt (by omega)]at h0
    simpa using this
   refine bj hs (v:=v) ?_ (aw.kz oE);subst hj;simp[execOp,Instr.index,asIntOf,run_underlying hu,hv,hy,show j<m by omega,part,Zs,dG tQ,sW,nM,sizeOf,typeInfo,h1,h4,jf,Iu]
 .cases h
end
end
section
def Di(T:TypeId):(e:DR)->List e.row.den->Th
 | .leaf r,y=> .own T r y
 | .sl T' e,y=> .deep T (.sl T' e) y aaK
 | .pair a b,y=> .deep T (.pair a b) y aaK
section
variable {P:Program} {ρ:Nat->Value} {w w':World} {H H':aj} {F F':Nat->Prop} {U:Nat->Prop} {ob:Nat->Option (Nat×Th)} {n:Nat} {R:Type}
variable {op:Op} {ty:TypeId} {pos:String} {aft:Array Edge} {d:Nat}
theorem rR(T:TypeId)(e:DR)(y:List e.row.den):(Di T e y).base=Di T e y:=by cases e<;>rfl
theorem py{T:TypeId}{e:DR}{u:Value}{y:List e.row.den}{A:Nat->Prop}(h:gI F w (.sl T e) u y A):fg H F w A u (Di T e y)/\(∀k,fp A u (Di T e y) k->A k)/\u.oneCell'=aaL:=by
 obtain⟨lh,Ss,h1,h2,h3,h4⟩:=h;have jf:=h1.one
 cases e with
 |leaf r=>
  have hl:lh=y:=List.ext_getElem h2 λi a b=>(h3 i a b).1
  subst hl;exact⟨h1,λk hk=>h4.ba k hk,jf⟩
 |sl T' e=>exact⟨⟨lh,Ss,h1,h2,h3,h4⟩,λk hk=>hk,jf⟩
 |pair a b=>exact⟨⟨lh,Ss,h1,h2,h3,h4⟩,λk hk=>hk,jf⟩
theorem rS{T:TypeId}{e:DR}{u:Value}{y:List e.row.den}{A:Nat->Prop}(h:fg H F w A u (Di T e y)):gI F w (.sl T e) u y (λk=>fp A u (Di T e y) k):=by
 cases e with
 |leaf r=>
  have h':iL F w T r u y:=h;refine⟨y,λ_ _=>False,h',rfl,λi a b=>⟨rfl,λ_ h=>h⟩,⟨λk=>?_,λ_ _ _ _ _ _ h=>h.elim,λ_ _ _ h=>h.elim⟩⟩
  show ba u k↔_
  simp
 |sl T' e=>exact h
 |pair a b=>exact h
theorem rc{d:DR}{r:Row}(q:dV d (.leaf r)){x':d.low.den}{x:d.row.den}{S:Nat->Prop}(h:gI F w d x' x S):q.lo.get x'=q.hi.get x:=by
 obtain⟨A,B,h1,_⟩:=h.out q;exact h1.1
theorem rT:{d e:DR}->{T:TypeId}->{r:Row}->(p:dV d (.sl T e))->(q:dV d (.leaf r))->{x':d.low.den}->{x:d.row.den}->{S:Nat->Prop}->iV F w p x' x S->q.lo.get x'=q.hi.get x
 |_,_,_,_, .fst p, .fst q,_,_,_,h=>by obtain⟨A,B,h1,_⟩:=h;exact rT p q h1
 |_,_,_,_, .fst p, .snd q,_,_,_,h=>by obtain⟨A,B,_,h2,_⟩:=h;exact rc q h2
 |_,_,_,_, .snd p, .fst q,_,_,_,h=>by obtain⟨A,B,h1,_⟩:=h;exact rc q h1
 |_,_,_,_, .snd p, .snd q,_,_,_,h=>by obtain⟨A,B,_,h2,_⟩:=h;exact rT p q h2
theorem FQ{d:DR}{h:Option rz}{i:Nat}{x':d.low.den}{x:d.row.den}{S:Nat->Prop}{r:Row}(q:dV d (.leaf r))(hr:k6 H F w d h i x' x S):q.lo.get x'=q.hi.get x:=by
 cases h with
 |none=>exact rc q hr
 |some h=>
  by_cases hi:h.i=(i:Int)
  .obtain⟨T',e,p,_,h2,_⟩:=hr.2 hi;exact rT p q h2
  .exact rc q (hr.1 hi)
theorem oF{d:DR}{r:Row}(q:dV d (.leaf r)){x':d.low.den}{x:d.row.den}{S:Nat->Prop}(y:r.den)(h:gI F w d x' x S):gI F w d (q.lo.set x' y) (q.hi.set x y) S:=by
 obtain⟨A,B,h1,h2,h3⟩:=h.out q;exact h2.put q (y':=y) (A:=A) ⟨rfl,h1.2⟩ h3
theorem pz:{d e:DR}->{T:TypeId}->{r:Row}->(p:dV d (.sl T e))->(q:dV d (.leaf r))->{x':d.low.den}->{x:d.row.den}->{S:Nat->Prop}->(y:r.den)->iV F w p x' x S->iV F w p (q.lo.set x' y) (q.hi.set x y) S/\p.lo.get (q.lo.set x' y)=p.lo.get x'
 |_,_,_,_, .fst p, .fst q,_,_,_,y,h=>by
  obtain⟨A,B,h1,h2,h3⟩:=h;obtain⟨g1,g2⟩:=pz p q y h1;exact⟨⟨A,B,g1,h2,h3⟩,g2⟩
 |_,_,_,_, .fst p, .snd q,_,_,_,y,h=>by
  obtain⟨A,B,h1,h2,h3⟩:=h;exact⟨⟨A,B,h1,oF q y h2,h3⟩,rfl⟩
 |_,_,_,_, .snd p, .fst q,_,_,_,y,h=>by
  obtain⟨A,B,h1,h2,h3⟩:=h;exact⟨⟨A,B,oF q y h1,h2,h3⟩,rfl⟩
 |_,_,_,_, .snd p, .snd q,_,_,_,y,h=>by
  obtain⟨A,B,h1,h2,h3⟩:=h;obtain⟨g1,g2⟩:=pz p q y h2;exact⟨⟨A,B,h1,g1,h3⟩,g2⟩
theorem Dj{d:DR}{h:Option rz}{i:Nat}{x':d.low.den}{x:d.row.den}{S:Nat->Prop}{r:Row}(q:dV d (.leaf r))(y:r.den)(hr:k6 H F w d h i x' x S):k6 H F w d h i (q.lo.set x' y) (q.hi.set x y) S:=by
 cases h with
 |none=>exact oF q y hr
 |some h=>
  refine⟨λhi=>oF q y (hr.1 hi),λhi=>?_⟩;obtain⟨T',e,p,h1,h2,h3⟩:=hr.2 hi;obtain⟨g1,g2⟩:=pz p q y h2;exact⟨T',e,p,h1,g1,by rw[g2];exact h3⟩
theorem al.low(hs:al U H F w ob n){o s:Nat}{T:TypeId}{dr:DR}{l:List dr.row.den}{h:Option rz}(ho:ob o=some (s, .deep T dr l h)){v:Value}(hv:H.val o=some v):
 ∃(lh:List dr.low.den)(Ss:Nat->Nat->Prop),fN 0 F w T dr.low v lh/\lh.length=l.length/\(∀i(h1:i<lh.length)(h2:i<l.length),k6 H F w dr h i lh[i] l[i] (Ss i))/\kw Ss l.length (ba v) (H.sub s):=by
 obtain⟨v',cV,bL⟩:=hs.obj _ _ _ ho;rw[hv]at cV;obtain rfl:=YU cV;obtain⟨lh,Ss,h1,h2,h3,h4⟩:=bL.ok;exact⟨lh,Ss,⟨λk hk=>bL.no k (h4.ba k hk),h1⟩,h2,h3,h4⟩
theorem Path.vk:{r s:Row}->(p:Path r s)->(x:r.den)->(y:s.den)->p.get (p.set x y)=y
 |_,_, .here,_,_=>rfl
 |_,_, .fst p,x,y=>Path.vk p x.1 y
 |_,_, .snd p,x,y=>Path.vk p x.2 y
theorem iV.FR:{d e:DR}->(p:dV d e)->{x':d.low.den}->{x:d.row.den}->{S:Nat->Prop}->(y':e.low.den)->iV F w p x' x S->iV F w p (p.lo.set x' y') x S
 |_,_, .here,_,_,_,_,h=>h
 |_,_, .fst p,_,_,_,y',h=>by
  obtain⟨A,B,h1,h2,h3⟩:=h;exact⟨A,B,h1.FR p y',h2,h3⟩
 |_,_, .snd p,_,_,_,y',h=>by
  obtain⟨A,B,h1,h2,h3⟩:=h;exact⟨A,B,h1,h2.FR p y',h3⟩
def nN(m:Nat->Prop)(Ss:Nat->Nat->Prop)(c:Nat)(k:Nat):Prop:=m k\/∃i,i<c/\Ss i k
theorem kw.less{Ss:Nat->Nat->Prop}{c:Nat}{m S:Nat->Prop}(h:kw Ss c m S)(j:Nat){B:Nat->Prop}(hB:∀k,B k->Ss j k):kw (λi=>if i=j then B else Ss i) c m (nN m (λi=>if i=j then B else Ss i) c):=by
 have sub:∀i k,(if i=j then B else Ss i) k->Ss i k:=by
  intro i k hk;by_cases e:i=j
  .subst e;rw[aaP rfl]at hk;exact hB k hk
  .rwa [aaO e]at hk
 exact⟨λk=>Iff.rfl,λi i' k h1 h2 cq h3 h4=>h.two i i' k h1 h2 cq (sub i k h3) (sub i' k h4),λi k h1 h2=>h.out i k h1 (sub i k h2)⟩
theorem kw.xi{Ss:Nat->Nat->Prop}{c:Nat}{m S:Nat->Prop}(h:kw Ss c m S)(j:Nat){B:Nat->Prop}(hB:∀k,B k->Ss j k):∀k,nN m (λi=>if i=j then B else Ss i) c k->S k:=by
 rintro k (hk|⟨i,hi,hk⟩)
 .exact h.ba k hk
 .by_cases e:i=j
  .subst e;rw[aaP rfl]at hk;exact h.part hi k (hB k hk)
  .rw[aaO e]at hk;exact h.part hi k hk
theorem IH{α β:Type}{rel:Nat->α->β->(Nat->Prop)->Prop}{lh:List α}{l:List β}{Ss:Nat->Nat->Prop}{j:Nat}{x':α}{x:β}{B:Nat->Prop}(h:∀i(h1:i<lh.length)(h2:i<l.length),i≠j->rel i lh[i] l[i] (Ss i))(hj:rel j x' x B):
 ∀i(h1:i<(lh.set j x').length)(h2:i<(l.set j x).length),rel i (lh.set j x')[i] (l.set j x)[i] ((λi=>if i=j then B else Ss i) i):=by
 intro i h1 h2;by_cases e:i=j
 .subst e;simp only[List.getElem_set_self,if_true];exact hj
 .simp only[List.getElem_set_ne (Ne.symm e),aaO e];exact h i (by simpa using h1) (by simpa using h2) e
theorem aj.mO{H:aj}{n:Nat}{S:Nat->Prop}{t:Th}(h:H.con n=aaK):H.le ((H.de n S).aV n t):=(aj.C5 h).trans (aj.ei h)
theorem iX.vl(hs:al U H F w ob n){o s:Nat}{t t':Th}{v0:Value}(ho:ob o=some (s,t))(hv:H.val o=some v0)(hb:t'.base=t'){eat:List Nat}(U9:o∈eat)(S':Nat->Prop)(FG:∀k,fp S' v0 t' k->bE H ob eat k){D:ag}{v:Value}
 (bl:Ext (bE H ob eat) w w')(jL:fg ((H.de n S').aV n t') F w' S' v0 t')(hd:af ((H.de n S').aV n t') F w' D v):jc H F w ob n {dst:=D,eat:=eat,make:=[(o,(n,t'))]} v w':=by
 obtain⟨v1,q8,bL⟩:=hs.obj _ _ _ ho;rw[hv]at q8;obtain rfl:=YU q8;have hf:=hs.fresh n (YY _) (by omega)
 have eH:((H.de n S').aV n t').sub n=S':=by simp[aj.aV,aj.de]
 refine⟨(H.de n S').aV n t',F,⟨aj.mO hf.2,bl,λ_ h=>h,λ_ h=> .inl h,λb hb=>Zv (hs.lt b hb) bl.size⟩,λm hm=>?_,hd,⟨λo' s' q hq=>?_,λo1 o2 s1 s2 q1 q2 u1 u2 cq h1 h2=>?_⟩,λo' h=>?_⟩
 .refine⟨id,λh=>?_⟩;simp[aj.aV,aj.de,show m≠n from by omega,h]
 .obtain⟨rfl,e⟩:=bB hq;obtain⟨rfl,rfl⟩:=aan e;refine⟨v0,hv,bL.one,by simp[aj.aV,hb],by rw[eH];exact jL,λk hk=>?_⟩;rw[eH]at hk;have:=FG k hk;exact⟨hs.dx k this,Zv (hs.rA k this) bl.size, .inr this⟩
 .exact absurd ((bB h1).1.trans (bB h2).1.symm) cq
 .left
  obtain⟨y,hy⟩:=ZC.1 h;rw[(bB hy).1];exact U9
def nO(T:aJ P)(ob:Nat->Option (Nat×Th))(n:Nat)(t:TypeId)(D:ag)(k:cU->Option R):Option R:=
 match find T.und t with
 |none=>aaK
 |some kk=>match D with
  | .dlm o d0 i p off=>match ob o with
    |some (_, .deep T0 dr l h)=>bif d0.beq dr then(match dr.path p with
     |some ⟨.leaf r,q⟩=>bif YZ q.lo.off off&&jv T t kk r.size then(idx l i).bind λx=>k {dst:= .val (gJ kk) (.leaf r (q.hi.get x))}else aaK
     |some ⟨.sl T' e',q⟩=>bif YZ q.lo.off off&&jv T t kk 1&& !gJ kk then(match h with
       |none=>(idx l i).bind λx=>k {dst:= .val aaM (.own n),eat:=[o],make:=[(o,(n, .deep T0 dr l (some ⟨i,p,n,n+1⟩))),(n,(n+1,Di T' e' (q.hi.get x)))]}
       |some hh=>bif k8 hh.p p then(if decide (hh.i=i)=aaL then(idx l i).bind λ_=>k {dst:= .val aaM (.own hh.o)}else aaK)else aaK)else aaK
     |_=>aaK)else aaK
    |_=>aaK
  |_=>aaK
theorem xj(hs:al U H F w ob n){o s:Nat}{T0 T':TypeId}{dr e':DR}{l:List dr.row.den}{i:Int}{p:List Bool}{q:dV dr (.sl T' e')}(hq:dr.path p=some ⟨_,q⟩)(bR:ob o=some (s, .deep T0 dr l aaK)){v:Value}(hv:H.val o=some v)
 {j:Nat}(JZ:i=(j:Nat))(hj:j<l.length){lh:List dr.low.den}{Ss:Nat->Nat->Prop}(hm:iL F w T0 dr.low v lh)(hlen:lh.length=l.length)(rU:∀i(h1:i<lh.length)(h2:i<l.length),k6 H F w dr aaK i lh[i] l[i] (Ss i))(cL:kw Ss l.length (ba v) (H.sub s)):
 jc H F w ob n {dst:= .val aaM (.own n),eat:=[o],make:=[(o,(n, .deep T0 dr l (some ⟨i,p,n,n+1⟩))),(n,(n+1,Di T' e' (q.hi.get l[j])))]} (q.lo.get (lh[j]'(by omega))) w:=by
 have Ie:j<lh.length:=by omega
 obtain⟨v1,q8,bL⟩:=hs.obj _ _ _ bR;rw[hv]at q8;obtain rfl:=YU q8;obtain⟨A,B,hA,hB,h2⟩:=gI.out q (rU j Ie hj);obtain⟨_,m2,m3⟩:=py (H:=H) hA;have Tx:∀k,B k->Ss j k:=h2.right;obtain⟨f1,f2⟩:=hs.fresh n (YY _) (by omega);obtain⟨f3,f4⟩:=hs.fresh (n+1) (by omega) (by omega)
 have zc:o≠n:=λe=>by rw[e,f1]at hv;cases hv
 generalize Mt:Th.deep T0 dr l (some ⟨i,p,n,n+1⟩)=t1;generalize Mu:Di T' e' (q.hi.get l[j])=t2;generalize hu:q.lo.get lh[j]=u;generalize Qh:nN (ba v) (λi=>if i=j then B else Ss i) l.length=So
 have Qi:∀k,So k->H.sub s k:=by rw[<-Qh];exact cL.xi j Tx
 have Va:∀k,A k->H.sub s k:=λk hk=>cL.part hj k (h2.left k hk)
 have Vb:∀k,So k->¬A k:=by
  rw[<-Qh]
  rintro k (hk|⟨i',ik,hk⟩) ha
  .exact cL.out j k hj (h2.left k ha) hk
  .by_cases e:i'=j
   .subst e;rw[aaP rfl]at hk;exact h2.off k ha hk
   .rw[aaO e]at hk;exact cL.two i' j k ik hj e hk (h2.left k ha)
 let H1:aj:=⟨λm=>if m=n then some u else H.val m,λm=>if m=n then some t1 else if m=n+1 then some t2 else H.con m,λm=>if m=n then So else if m=n+1 then A else H.sub m⟩
 have hle:H.le H1:=by
  refine⟨λo v ho=>?_,λs t dZ=>?_,λs t dZ=>?_⟩
  .have:o≠n:=λe=>by rw[e,f1]at ho;cases ho
   simp[H1,this,ho]
  .have a1:s≠n:=λe=>by rw[e,f2]at dZ;cases dZ
   have a2:s≠n+1:=λe=>by rw[e,f4]at dZ;cases dZ
   simp[H1,a1,a2,dZ]
  .have a1:s≠n:=λe=>by rw[e,f2]at dZ;cases dZ
   have a2:s≠n+1:=λe=>by rw[e,f4]at dZ;cases dZ
   simp[H1,a1,a2]
 have Nd:H1.val n=some u:=by simp[H1]
 have eU:∀k,H.sub s k->bE H ob [o] k:=λk hk=>⟨o,by simp,s,_,v,bR,hv,hk⟩
 have jf:u.oneCell'=aaL:=by rw[<-hu];exact m3
 refine⟨H1,F,⟨hle,⟨rfl,⟨rfl,YY _⟩,rfl,YY _,λ_ _ _=>rfl⟩,λ_ h=>h,λ_ h=> .inl h,hs.lt⟩,λm hm=>?_,jT Nd jf,⟨λo' s' t hf=>?_,λo1 o2 s1 s2 q1 q2 u1 u2 cq g1 g2 e1 e2 k hk jd=>?_⟩,λo' ij=>?_⟩
 .have a1:m≠n:=by omega
  have a2:m≠n+1:=by omega
  simp[H1,a1,a2]
 .rw[ax]at hf;split at hf
  .rename_i e;subst e;simp only[Y3,ZV]at hf;obtain⟨rfl,rfl⟩:=hf
   have KP:H1.sub n=So:=by simp[H1]
   refine⟨v,hle.val _ _ hv,bL.one,?_,?_,λk hk=>?_⟩
   .rw[<-Mt];simp[H1,Th.base,Mt]
   .rw[KP,<-Mt,<-Qh];refine⟨lh,_,hm,hlen,λi' a b=>?_,cL.less j Tx⟩;have hr:gI F w dr lh[i'] l[i'] (Ss i'):=rU i' a b;refine⟨λhi=>?_,λhi=>?_⟩
    .have:i'≠j:=λe=>hi (by subst e;exact JZ)
     show gI F w dr lh[i'] l[i'] (if i'=j then B else Ss i')
     rw[aaO this];exact hr
    .have hi:i=(i':Int):=hi
     obtain rfl:i'=j:=by omega
     refine⟨T',e',q,hq,?_,?_⟩
     .show iV F w q lh[i'] l[i'] (if i'=i' then B else Ss i')
      rw[aaP rfl];exact hB
     .rw[hu];exact Nd
   .rw[KP,<-Mt]at hk;have hk:So k:=hk;have:=Qi k hk;exact⟨bL.no k this,bL.lt k this, .inr (eU k this)⟩
  .obtain⟨e0,e⟩:=bB hf;obtain⟨rfl,rfl⟩:=aan e;rw[e0]
   have KP:H1.sub (n+1)=A:=by simp[H1]
   obtain⟨m1,Tz,_⟩:=py (H:=H1) hA;rw[Mu,hu]at m1 Tz;refine⟨u,Nd,jf,?_,by rw[KP];exact m1,λk hk=>?_⟩
   .rw[<-Mu,rR,Mu];simp[H1]
   .rw[KP]at hk;have:=Va k (Tz k hk);exact⟨bL.no k this,bL.lt k this, .inr (eU k this)⟩
 .have key:∀{k},So k->A k->False:=λa b=>Vb _ a b
  have TA:∀k,fp A u t2 k->A k:=by rw[<-Mu,<-hu];exact m2
  have pA:H1.sub n=So:=by simp[H1]
  have TB:H1.sub (n+1)=A:=by simp[H1]
  have two:∀{o' s' t'},find [(o,(n,t1)),(n,(n+1,t2))] o'=some (s',t')->(o'=o/\s'=n/\t'=t1)\/(o'=n/\s'=n+1/\t'=t2):=by
   intro o' s' t' hf;rw[ax]at hf;split at hf
   .rename_i e;simp only[Y3,ZV]at hf;exact .inl ⟨e.symm,hf.1.symm,hf.2.symm⟩
   .obtain⟨e1,e⟩:=bB hf;obtain⟨e2,e3⟩:=aan e;exact .inr ⟨e1,e2,e3⟩
  rcases two g1 with⟨rfl,rfl,rfl⟩|⟨rfl,rfl,rfl⟩<;>rcases two g2 with⟨rfl,rfl,rfl⟩|⟨rfl,rfl,rfl⟩
  .exact cq rfl
  .rw[pA,<-Mt]at hk;rw[TB]at jd;rw[Nd]at e2;obtain rfl:=YU e2;exact key (show So k from hk) (TA k jd)
  .rw[pA,<-Mt]at jd;rw[TB]at hk;rw[Nd]at e1;obtain rfl:=YU e1;exact key (show So k from jd) (TA k hk)
  .exact cq rfl
 .obtain⟨y,hy⟩:=ZC.1 ij;rw[ax]at hy;split at hy
  .rename_i e;exact .inl (by rw[<-e];simp)
  .exact .inr (by rw[(bB hy).1];exact YY _)
theorem vm{α β:Type}{l:List α}{lh:List β}(h:lh.length=l.length){i:Int}{x:α}(hi:idx l i=some x):∃j,i=(j:Nat)/\∃(h1:j<lh.length)(h2:j<l.length),x=l[j]/\idx lh i=some lh[j]:=by
 obtain⟨j,hj,ai,rfl⟩:=ef hi;refine⟨j,hj,by omega,ai,rfl,?_⟩;subst hj
 have II:j<lh.length:=by omega
 simp[idx,II]
theorem Dk(T:aJ P){t:TypeId}{D:ag}{x:Operand}{k:cU->Option R}{q:R}(h:nO T ob n t D k=some q)(hs:al U H F w ob n)(hx:af H F w D (ev ρ x)):
 ∃e,k e=some q/\bK P U H F w ρ ob n ⟨some d, .load t x,ty,pos,aft,aaK⟩ e:=by
 unfold nO at h;split at h
 .cases h
 rename_i kk hu;split at h
 case h_2=>cases h
 rename_i o d0 i p off;split at h
 case h_2=>cases h
 rename_i s T0 dr l hh bR;obtain⟨hd,h'⟩:=ay h;clear h;obtain rfl:=DR.eq_of_beq hd;obtain⟨g,o0,qq,m,cap,e1,e2,e5⟩:=hx;obtain⟨lh,Ss,dc,hlen,rU,cL⟩:=hs.low bR e1;split at h'
 .rename_i r tV vi;obtain⟨h1,h2⟩:=ay h';obtain⟨h1,h3⟩:=bO h1;obtain rfl:=beq_true h1;obtain⟨a,ha,hk⟩:=bind_some h2;obtain⟨j,hj,g1,g2,rfl,k0⟩:=vm hlen ha;have pb:=(dc.at rfl e2 k0).path tV.lo _ rfl;rw[FQ tV (rU j g1 g2)]at pb;obtain⟨es,hl,IB,hr⟩:=pb;exact⟨_,hk,kB T hu e5 hs (s:= .leaf r _) hr IB (gz T h3)⟩
 .rename_i T' e' tV vi;obtain⟨h1,h2⟩:=ay h';obtain⟨h1,h4⟩:=bO h1;obtain⟨h1,h3⟩:=bO h1;obtain rfl:=beq_true h1
  have nM:gJ kk=aaM:=by simpa using h4
  obtain⟨dd,tQ,sW⟩:=(T.und_ok _ _ hu).agg
  have run:∀{j:Nat}(g1:j<lh.length),idx lh i=some lh[j]->(execOp (ev ρ) ⟨some d, .load t x,ty,pos,aft,aaK⟩).run P w= .ok (.value (tV.lo.get lh[j])) w:=by
   intro j g1 k0;have pb:=(dc.at rfl e2 k0).path tV.lo _ rfl;obtain⟨es,hl,IB,hr,_⟩:=pb;rw[hr]at IB;exact tL tQ (sW.trans nM) e5 (IB 0 _ rfl)
  split at h2
  .obtain⟨a,ha,hk⟩:=bind_some h2;obtain⟨j,hj,g1,g2,rfl,k0⟩:=vm hlen ha;exact⟨_,hk,bD.val (run g1 k0) (xj hs vi bR e1 hj g2 dc.2 hlen rU cL)⟩
  .rename_i hh;obtain⟨hp,h3⟩:=ay h2;have hp:=nL hp;split at h3
   case isFalse=>cases h3
   rename_i hi;have hi:hh.i=i:=aaQ hi;obtain⟨a,ha,hk⟩:=bind_some h3;obtain⟨j,hj,g1,g2,rfl,k0⟩:=vm hlen ha;obtain⟨Vc,Vd,Ve,k1,_,k3⟩:=(rU j g1 g2).2 (hi.trans hj);rw[hp,vi]at k1;cases k1;refine⟨_,hk,bj hs (run g1 k0) (jT k3 ?_)⟩;have pb:=(dc.at rfl e2 k0).path tV.lo _ rfl;obtain⟨es,_,_,_,A,m',c,BD⟩:=pb;rw[BD];rfl
 .cases h'
def Nf(T:TypeId):(e:DR)->Th->Option (List e.row.den)
 | .leaf r, .own T1 r1 y=>bif YZ T1 T then(if h:r1.beq r=aaL then some (fU (r:= .slice r1) (s:= .slice r) (aaV Row.slice (Row.eq_of_beq h)) y)else aaK)else aaK
 | .sl T2 e2, .deep T1 (.sl T3 e3) y aaK=>bif YZ T1 T then(if h:(DR.sl T3 e3).beq (.sl T2 e2)=aaL then some (DR.eq_of_beq h▸y)else aaK)else aaK
 | .pair a b, .deep T1 (.pair a1 b1) y aaK=>bif YZ T1 T then(if h:(DR.pair a1 b1).beq (.pair a b)=aaL then some (DR.eq_of_beq h▸y)else aaK)else aaK
 |_,_=>aaK
theorem zO{T:TypeId}{e:DR}{t:Th}{y:List e.row.den}(h:Nf T e t=some y):t=Di T e y:=by
 unfold Nf at h;split at h
 .obtain⟨h1,h2⟩:=ay h;split at h2
  .rename_i hb;obtain rfl:=Row.eq_of_beq hb;obtain rfl:=YU h2;rw[beq_true h1];rfl
  .cases h2
 .obtain⟨h1,h2⟩:=ay h;split at h2
  .rename_i hb;cases DR.eq_of_beq hb;obtain rfl:=YU h2;rw[beq_true h1];rfl
  .cases h2
 .obtain⟨h1,h2⟩:=ay h;split at h2
  .rename_i hb;cases DR.eq_of_beq hb;obtain rfl:=YU h2;rw[beq_true h1];rfl
  .cases h2
 .cases h
def vn(h:Option rz)(i:Int)(p:List Bool):Bool:=
 match h with
 |none=>aaL
 |some h=>k8 h.p p&&decide (h.i=i)
theorem xk{h:Option rz}{i:Int}{p:List Bool}(hh:vn h i p=aaL){dr e:DR}{T:TypeId}{q:dV dr (.sl T e)}(hq:dr.path p=some ⟨_,q⟩){j:Nat}(hj:i=(j:Nat)){x':dr.low.den}{x:dr.row.den}{S:Nat->Prop}(hr:k6 H F w dr h j x' x S):
 ∃B,(∀k,B k->S k)/\iV F w q x' x B:=by
 cases h with
 |none=>
  obtain⟨A,B,_,h2,h3⟩:=gI.out q (show gI F w dr x' x S from hr);exact⟨B,h3.right,h2⟩
 |some h=>
  have h':(k8 h.p p&&decide (h.i=i))=aaL:=hh;obtain⟨h1,h2⟩:=bO h';obtain⟨T',e',q',k1,k2,_⟩:=hr.2 ((aaQ h2).trans hj);rw[nL h1,hq]at k1;cases k1;exact⟨S,λ_ h=>h,k2⟩
theorem rV{h:Option rz}{i:Int}{p:List Bool}(hh:vn h i p=aaL){dr:DR}{j:Nat}(hj:i≠(j:Nat)){x':dr.low.den}{x:dr.row.den}{S:Nat->Prop}(hr:k6 H F w dr h j x' x S):gI F w dr x' x S:=by
 cases h with
 |none=>exact hr
 |some h=>
  have h':(k8 h.p p&&decide (h.i=i))=aaL:=hh;obtain⟨h1,h2⟩:=bO h';exact hr.1 (λe=>hj ((aaQ h2).symm.trans e))
end
end
end Go.Proofs.YtbladfbbhijpmaaGreat
