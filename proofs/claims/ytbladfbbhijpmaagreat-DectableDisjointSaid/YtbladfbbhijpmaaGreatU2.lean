/- Joined texts: Path Effs2 Effs3 Effs4 Effs5 Effs6. -/
import Derived.Test.YtbladfbbhijpmaaGreatU1
import Derived.Carry
open _root_.Bool renaming false->Yy,true->Yx,and_eq_true->Xz
open _root_.Option renaming none->Yw,isSome_iff_exists->Xo
open _root_.List renaming append_assoc->W7,drop_append_of_le_length->XC,drop_of_length_le->XK,length_append->WZ,take_length->W3,length_take->XE,replicate->Xb,getElem?_eq_getElem->WJ,mem_cons->WS
open _root_.Nat renaming beq->WI,eq_of_beq_eq_true->Xw,zero_add->Xl,add_mul->Xu,le_refl->WH,le_trans->Xa,min_eq_left->XN,mul_le_mul_right->W1,lt_of_lt_of_le->Xg
open _root_.Option.some renaming inj->WD,injEq->WL
open _root_.Prod.mk renaming inj->X9,injEq->XF
open _root_.Array renaming toArray_toList->Xq,getElem?_eq_some_iff->Xj
open _root_.Go.Instr renaming fill->Yl,findNow->XG,lookup->Yq,mapUpdate->XY
open _root_.Int renaming eq_ofNat_of_zero_le->WR,toNat_natCast->WN,tdiv->XR,tmod->Yd
open _root_.Go.Result renaming andThen_ok->Xp,andThen->WT
open _root_.Go.Sem renaming run_bind->Xd
open _root_.Go.Value renaming ownBlock->Xh,int->XD
open _root_.List.cons renaming injEq->XT
open _root_.Go.Value.slice renaming injEq->X2
open _root_.Go.MapKept renaming run_checkKey->XZ,run_findKey->X5,run_getObj_map->Xy,run_setObj_map->X4
namespace Go.Proofs.YtbladfbbhijpmaaGreat
open Go Go.RowKit
set_option maxRecDepth 100000
set_option linter.unusedSimpArgs false
set_option linter.unusedVariables false
set_option linter.defProp false
section
def Tree.split:Tree->Option (Tree×Tree)
 | .leaf (.pair a b) x=>some (.leaf a x.1, .leaf b x.2)
 | .pair a b=>some (a,b)
 |_=>Yw
def Tree.get:Tree->List Bool->Option (Tree×Nat)
 |t,[]=>some (t,0)
 |t,d::p=>match t.split with
  |none=>Yw
  |some (a,b)=>match d with
   |false=>Tree.get a p
   |true=>match Tree.get b p with
    |none=>Yw
    |some (s,off)=>some (s,a.size+off)
def Tree.put:Tree->List Bool->Tree->Option Tree
 |_,[],u=>some u
 |t,d::p,u=>match t.split with
  |none=>Yw
  |some (a,b)=>match d with
   |false=>match Tree.put a p u with
    |none=>Yw
    |some a'=>some (.pair a' b)
   |true=>match Tree.put b p u with
    |none=>Yw
    |some b'=>some (.pair a b')
def nB:Nat->Nat->List Bool
 |0,_=>[]
 |1,_=>[]
 |_+2,0=>[Yy]
 |m+2,f+1=>Yx::nB (m+1) f
section
variable {H:ai} {F:Nat->Prop} {w:World}
theorem Holds.split{t a b:Tree}{cs:List Value}(hs:t.split=some (a,b))(h:Holds H F w t cs):∃c1 c2,cs=c1++c2/\Holds H F w a c1/\Holds H F w b c2/\t.size=a.size+b.size:=by
 unfold Tree.split at hs
 split at hs<;>cases hs
 .obtain⟨c1,c2,e,h1,h2⟩:=h;exact⟨c1,c2,e,h1,h2,rfl⟩
 .obtain⟨c1,c2,e,h1,h2⟩:=h;exact⟨c1,c2,e,h1,h2,rfl⟩
theorem Holds.get:{p:List Bool}->{t s:Tree}->{off:Nat}->{cs:List Value}->t.get p=some (s,off)->Holds H F w t cs->Holds H F w s ((cs.drop off).take s.size)/\off+s.size<=cs.length
 |[],t,s,off,cs,hg,h=>by
  obtain⟨rfl,rfl⟩:=X9 (WD hg);have hl:=h.length;refine⟨?_,by omega⟩;rw[List.drop_zero,<-hl,W3];exact h
 |d::p,t,s,off,cs,hg,h=>by
  unfold Tree.get at hg
  cases rM:t.split with
  |none=>rw[rM]at hg;cases hg
  |some ab=>
   obtain⟨a,b⟩:=ab;rw[rM]at hg;obtain⟨c1,c2,rfl,h1,h2,_⟩:=h.split rM;have CU:=h1.length
   cases d with
   |false=>
    obtain⟨g1,g2⟩:=Holds.get hg h1;refine⟨?_,by rw[WZ];omega⟩;rw[XC (by omega),List.take_append_of_le_length (by rw[List.length_drop];omega)];exact g1
   |true=>
    cases hb:b.get p with
    |none=>simp only[hb]at hg;cases hg
    |some so=>
     obtain⟨s',cC⟩:=so;simp only[hb,WL,XF]at hg;obtain⟨rfl,rfl⟩:=hg;obtain⟨g1,g2⟩:=Holds.get hb h2;refine⟨?_,by rw[WZ];omega⟩;rw[<-CU,List.drop_append,XK (by omega),List.nil_append,show c1.length+cC-c1.length=cC from by omega];exact g1
theorem Holds.put{u:Tree}{vs:List Value}(hu:Holds H F w u vs):{p:List Bool}->{t s t':Tree}->{off:Nat}->{cs:List Value}->t.get p=some (s,off)->t.put p u=some t'->s.size=u.size->Holds H F w t cs->
 Holds H F w t' (cs.take off++vs++cs.drop (off+u.size))
 |[],t,s,t',off,cs,hg,hp,hz,h=>by
  obtain⟨rfl,rfl⟩:=X9 (WD hg);obtain rfl:=WD hp;have hl:=h.length;rw[List.take_zero,List.nil_append,Xl,XK (by omega),List.append_nil];exact hu
 |d::p,t,s,t',off,cs,hg,hp,hz,h=>by
  unfold Tree.get at hg;unfold Tree.put at hp
  cases rM:t.split with
  |none=>rw[rM]at hg;cases hg
  |some ab=>
   obtain⟨a,b⟩:=ab;rw[rM]at hg hp;obtain⟨c1,c2,rfl,h1,h2,_⟩:=h.split rM;have CU:=h1.length
   cases d with
   |false=>
    cases hq:a.put p u with
    |none=>simp only[hq]at hp;cases hp
    |some a'=>
     simp only[hq,WL]at hp;subst hp;have h3:=Holds.put hu hg hq hz h1;have g2:=(Holds.get hg h1).2;refine⟨_,c2,?_,h3,h2⟩;rw[List.take_append_of_le_length (by omega),XC (by omega)];simp[W7]
   |true=>
    cases hb:b.get p with
    |none=>simp only[hb]at hg;cases hg
    |some so=>
     obtain⟨s',cC⟩:=so;simp only[hb,WL,XF]at hg;obtain⟨rfl,rfl⟩:=hg
     cases hq:b.put p u with
     |none=>simp only[hq]at hp;cases hp
     |some b'=>
      simp only[hq,WL]at hp;subst hp;have h3:=Holds.put hu hb hq hz h2;refine⟨c1,_,?_,h1,h3⟩
      rw[<-CU,List.take_append,List.take_of_length_le (by omega),List.drop_append,XK (by omega),show c1.length+cC-c1.length=cC from by omega,
       show c1.length+cC+u.size-c1.length=cC+u.size from by omega]
      simp[W7]
end
def CQ.beq:CQ->CQ->Bool
 | .map, .map=>Yx
 | .ptr, .ptr=>Yx
 | .func, .func=>Yx
 |_,_=>Yy
theorem CQ.eq_of_beq{a b:CQ}(h:a.beq b=Yx):a=b:=by cases a<;>cases b<;>first|rfl|cases h
def Row.beq:Row->Row->Bool
 | .int k, .int k'=>decide (k=k')
 | .bool, .bool=>Yx
 | .str, .str=>Yx
 | .gP, .gP=>Yx
 | .nul a, .nul b=>a.beq b
 | .map a x b, .map c y d=>a.beq c&&(bif x then y else !y)&&b.beq d
 | .slice a, .slice b=>a.beq b
 | .pair a b, .pair c d=>a.beq c&&b.beq d
 |_,_=>Yy
theorem Row.eq_of_beq:{r s:Row}->r.beq s=Yx->r=s
 | .int k, .int k',h=>by rw[YC (show decide (k=k')=Yx from h)]
 | .bool, .bool,_=>rfl
 | .str, .str,_=>rfl
 | .gP, .gP,_=>rfl
 | .nul a, .nul b,h=>by rw[CQ.eq_of_beq (show a.beq b=Yx from h)]
 | .map a x b, .map c y d,h=>by
   have h':(a.beq c&&(bif x then y else !y)&&b.beq d)=Yx:=h;rw[Xz,Xz]at h'
   have mJ:x=y:=by cases x<;>cases y<;>simp_all
   rw[Row.eq_of_beq h'.1.1,Row.eq_of_beq h'.2,mJ]
 | .slice a, .slice b,h=>by rw[Row.eq_of_beq (show a.beq b=Yx from h)]
 | .pair a b, .pair c d,h=>by
   have h':(a.beq c&&b.beq d)=Yx:=h;rw[Xz]at h';rw[Row.eq_of_beq h'.1,Row.eq_of_beq h'.2]
def ff{r s:Row}(h:r=s)(x:r.den):s.den:=h▸x
theorem Row.beq_refl:(r:Row)->r.beq r=Yx
 | .int k=>by simp[Row.beq]
 | .bool=>rfl
 | .str=>rfl
 | .gP=>rfl
 | .nul a=>by cases a<;>rfl
 | .map a x b=>by
   show(a.beq a&&(bif x then x else !x)&&b.beq b)=Yx
   rw[Row.beq_refl a,Row.beq_refl b]
   cases x<;>rfl
 | .slice a=>Row.beq_refl a
 | .pair a b=>by
   show(a.beq a&&b.beq b)=Yx
   rw[Row.beq_refl a,Row.beq_refl b];rfl
def DR.beq:DR->DR->Bool
 | .leaf r, .leaf s=>r.beq s
 | .sl T d, .sl T' d'=>WI T T'&&d.beq d'
 | .pair a b, .pair c d=>a.beq c&&b.beq d
 |_,_=>Yy
theorem DR.eq_of_beq:{d e:DR}->d.beq e=Yx->d=e
 | .leaf r, .leaf s,h=>by rw[Row.eq_of_beq (show r.beq s=Yx from h)]
 | .sl T d, .sl T' d',h=>by
   obtain⟨h1,h2⟩:=(Xz _ _▸(show(WI T T'&&d.beq d')=Yx from h):WI T T'=Yx/\d.beq d'=Yx)
   rw[Xw h1,DR.eq_of_beq h2]
 | .pair a b, .pair c d,h=>by
   obtain⟨h1,h2⟩:=(Xz _ _▸(show(a.beq c&&b.beq d)=Yx from h):a.beq c=Yx/\b.beq d=Yx)
   rw[DR.eq_of_beq h1,DR.eq_of_beq h2]
 | .leaf _, .sl ..,h=>by cases h
 | .leaf _, .pair ..,h=>by cases h
 | .sl .., .leaf _,h=>by cases h
 | .sl .., .pair ..,h=>by cases h
 | .pair .., .leaf _,h=>by cases h
 | .pair .., .sl ..,h=>by cases h
theorem DR.beq_refl:(d:DR)->d.beq d=Yx
 | .leaf r=>Row.beq_refl r
 | .sl T d=>by show(WI T T&&d.beq d)=Yx;rw[DR.beq_refl d,Bool.and_true];exact Nat.beq_refl T
 | .pair a b=>by show(a.beq a&&b.beq b)=Yx;rw[DR.beq_refl a,DR.beq_refl b];rfl
def kg:List Bool->List Bool->Bool
 |[],[]=>Yx
 |a::p,b::q=>(bif a then b else !b)&&kg p q
 |_,_=>Yy
theorem mM:{p q:List Bool}->kg p q=Yx->p=q
 |[],[],_=>rfl
 |a::p,b::q,h=>by
  have h':((bif a then b else !b)&&kg p q)=Yx:=h;rw[Xz]at h';rw[mM h'.2];have:=h'.1
  cases a<;>cases b<;>simp_all
 |[],_::_,h=>by cases h
 |_::_,[],h=>by cases h
def flat(ob:Nat->Option (Nat×Th)):(r:Row)->Tree->Option r.den
 |r, .leaf s x=>if h:s.beq r=Yx then some (ff (Row.eq_of_beq h) x)else Yw
 | .slice e, .own o=>match ob o with
   |some (_, .oh _ s l)=>if h:s.beq e=Yx then some (ff (r:= .slice s) (s:= .slice e) (YH Row.slice (Row.eq_of_beq h)) l)else Yw
   |some (_, .fdeep _ d l)=>if h:d.row.beq e=Yx then some (ff (r:= .slice d.row) (s:= .slice e) (YH Row.slice (Row.eq_of_beq h)) l)else Yw
   |_=>Yw
 | .slice _, .nil=>some []
 | .map K agg V, .own o=>match ob o with
   |some (_, .fmap _ K' cV V' l)=>if h:(Row.map K' cV V').beq (.map K agg V)=Yx then some (ff (Row.eq_of_beq h) l)else Yw
   |_=>Yw
 | .slice e, .view o s r m=>match ob o with
   |some (s', .oh ..)=>bif WI s' s then(if h:r.beq e=Yx then some (ff (r:= .slice r) (s:= .slice e) (YH Row.slice (Row.eq_of_beq h)) m)else Yw)else Yw
   |_=>Yw
 | .pair a b, .pair t u=>match flat ob a t with
   |none=>Yw
   |some x=>match flat ob b u with
    |none=>Yw
    |some y=>some (x,y)
 |_,_=>Yw
section
variable {U:Nat->Prop} {H:ai} {F:Nat->Prop} {w:World} {ob:Nat->Option (Nat×Th)} {n:Nat}
theorem sr(hs:ak U H F w ob n){o s:Nat}{T:TypeId}{r0 r:Row}{l0:List r0.den}{m:List r.den}{v:Value}(ho:ob o=some (s, .oh T r0 l0))(h:gR H o s r m v):bD F w (.slice r) [v] m:=by
 obtain⟨A,cap,T',l,a,b,h1,h2,h3,h4,rfl,rfl⟩:=h;obtain⟨v',cM,bF⟩:=hs.obj _ _ _ ho;rw[h1]at cM;obtain rfl:=WD cM;have e:=bF.con;rw[h2]at e;simp only[Th.base,WL,Th.own.injEq]at e;obtain⟨rfl,rfl,e⟩:=e;obtain rfl:=eq_of_heq e;exact bD.cut bF.ok h3 h4
theorem dS(hs:ak U H F w ob n):{r:Row}->{t:Tree}->{x:r.den}->{cs:List Value}->flat ob r t=some x->Holds H F w t cs->bD F w r cs x
 |r, .leaf s x0,x,cs,hf,h=>by
  unfold flat at hf;split at hf
  .rename_i e;obtain rfl:=Row.eq_of_beq e;obtain rfl:=WD hf;exact h
  .cases hf
 | .slice e, .own o,x,cs,hf,h=>by
   unfold flat at hf;split at hf
   .rename_i s0 T s l o9;split at hf
    .rename_i e;obtain rfl:=Row.eq_of_beq e;obtain rfl:=WD hf;obtain⟨v,hv,_,rfl⟩:=h;obtain⟨v',cM,bF⟩:=hs.obj _ _ _ o9;rw[hv]at cM;obtain rfl:=WD cM;exact bF.ok
    .cases hf
   .rename_i s0 T d l o9;split at hf
    .rename_i e;obtain rfl:=Row.eq_of_beq e;obtain rfl:=WD hf;obtain⟨v,hv,_,rfl⟩:=h;obtain⟨v',cM,bF⟩:=hs.obj _ _ _ o9;rw[hv]at cM;obtain rfl:=WD cM;exact bF.ok
    .cases hf
   .cases hf
 | .map K agg V, .own o,x,cs,hf,h=>by
   unfold flat at hf;split at hf
   .rename_i s0 T K' cV V' l o9;split at hf
    .rename_i e;cases Row.eq_of_beq e;obtain rfl:=WD hf;obtain⟨v,hv,_,rfl⟩:=h;obtain⟨v',cM,bF⟩:=hs.obj _ _ _ o9;rw[hv]at cM;obtain rfl:=WD cM;exact bF.ok
    .cases hf
   .cases hf
 | .slice e, .nil,x,cs,hf,h=>by
   unfold flat at hf;obtain rfl:=WD hf;rw[show cs=_ from h];exact bD.nil F w e
 | .slice e, .view o s r m,x,cs,hf,h=>by
   unfold flat at hf;split at hf
   .rename_i s' T r' l' o9
    cases hb:WI s' s with
    |false=>rw[hb]at hf;cases hf
    |true=>
     rw[hb,cond_true]at hf;obtain rfl:=Xw hb;split at hf
     .rename_i e;obtain rfl:=Row.eq_of_beq e;obtain rfl:=WD hf;obtain⟨v,rfl,h⟩:=h;exact sr hs o9 h
     .cases hf
   .cases hf
 | .pair a b, .pair t u,x,cs,hf,h=>by
   obtain⟨c1,c2,rfl,h1,h2⟩:=h;unfold flat at hf
   cases ha:flat ob a t with
   |none=>simp only[ha]at hf;cases hf
   |some p=>
    cases hb:flat ob b u with
    |none=>simp only[ha,hb]at hf;cases hf
    |some q=>
     simp only[ha,hb,WL]at hf;subst hf;exact⟨c1,c2,rfl,dS hs ha h1,dS hs hb h2⟩
 | .int _, .own _,_,_,hf,_=>by unfold flat at hf;cases hf
 | .bool, .own _,_,_,hf,_=>by unfold flat at hf;cases hf
 | .str, .own _,_,_,hf,_=>by unfold flat at hf;cases hf
 | .gP, .own _,_,_,hf,_=>by unfold flat at hf;cases hf
 | .nul _, .own _,_,_,hf,_=>by unfold flat at hf;cases hf
 | .pair _ _, .own _,_,_,hf,_=>by unfold flat at hf;cases hf
 | .int _, .nil,_,_,hf,_=>by unfold flat at hf;cases hf
 | .bool, .nil,_,_,hf,_=>by unfold flat at hf;cases hf
 | .str, .nil,_,_,hf,_=>by unfold flat at hf;cases hf
 | .gP, .nil,_,_,hf,_=>by unfold flat at hf;cases hf
 | .nul _, .nil,_,_,hf,_=>by unfold flat at hf;cases hf
 | .map .., .nil,_,_,hf,_=>by unfold flat at hf;cases hf
 | .pair _ _, .nil,_,_,hf,_=>by unfold flat at hf;cases hf
 | .int _, .view ..,_,_,hf,_=>by unfold flat at hf;cases hf
 | .bool, .view ..,_,_,hf,_=>by unfold flat at hf;cases hf
 | .str, .view ..,_,_,hf,_=>by unfold flat at hf;cases hf
 | .gP, .view ..,_,_,hf,_=>by unfold flat at hf;cases hf
 | .nul _, .view ..,_,_,hf,_=>by unfold flat at hf;cases hf
 | .map .., .view ..,_,_,hf,_=>by unfold flat at hf;cases hf
 | .pair _ _, .view ..,_,_,hf,_=>by unfold flat at hf;cases hf
 | .int _, .junk _,_,_,hf,_=>by unfold flat at hf;cases hf
 | .bool, .junk _,_,_,hf,_=>by unfold flat at hf;cases hf
 | .str, .junk _,_,_,hf,_=>by unfold flat at hf;cases hf
 | .slice _, .junk _,_,_,hf,_=>by unfold flat at hf;cases hf
 | .gP, .junk _,_,_,hf,_=>by unfold flat at hf;cases hf
 | .nul _, .junk _,_,_,hf,_=>by unfold flat at hf;cases hf
 | .map .., .junk _,_,_,hf,_=>by unfold flat at hf;cases hf
 | .pair _ _, .junk _,_,_,hf,_=>by unfold flat at hf;cases hf
 | .int _, .pair _ _,_,_,hf,_=>by unfold flat at hf;cases hf
 | .bool, .pair _ _,_,_,hf,_=>by unfold flat at hf;cases hf
 | .str, .pair _ _,_,_,hf,_=>by unfold flat at hf;cases hf
 | .gP, .pair _ _,_,_,hf,_=>by unfold flat at hf;cases hf
 | .nul _, .pair _ _,_,_,hf,_=>by unfold flat at hf;cases hf
 | .map .., .pair _ _,_,_,hf,_=>by unfold flat at hf;cases hf
 | .slice _, .pair _ _,_,_,hf,_=>by unfold flat at hf;cases hf
end
def Row.vw:Row->Tree
 | .slice _=> .nil
 | .pair a b=> .pair a.vw b.vw
 |r=> .leaf r r.zero
theorem Row.iY(H:ai)(F:Nat->Prop)(w:World):(r:Row)->Holds H F w r.vw r.da
 | .int _=>rfl
 | .bool=>rfl
 | .str=>rfl
 | .slice _=>rfl
 | .gP=>⟨rfl,Yw,0,0,rfl⟩
 | .nul _=>rfl
 | .map .. =>⟨_,rfl, .inl ⟨rfl,rfl⟩⟩
 | .pair a b=>⟨_,_,rfl,Row.iY H F w a,Row.iY H F w b⟩
end
end Go.Proofs.YtbladfbbhijpmaaGreat
section
open _root_.Bool renaming false->Yy,true->Yx
open _root_.Option renaming none->Yw,isSome_iff_exists->Xo
open _root_.Go.Addr.mk renaming injEq->X8
open _root_.Array renaming toArray_toList->Xq
open _root_.Int renaming toNat_natCast->WN
open _root_.List renaming getElem?_drop->WV,getElem?_take->W5
open _root_.Nat renaming add_mul->Xu,add_zero->XL,beq->WI,blt->Xt,eq_of_beq_eq_true->Xw,le_refl->WH,lt_of_lt_of_le->Xg
open _root_.Option.some renaming inj->WD,injEq->WL
open _root_.Prod.mk renaming inj->X9,injEq->XF
open _root_.Go.Value renaming oneCell'->X1
open _root_.Go.Value.pointer renaming injEq->Ys
namespace Go.Proofs.YtbladfbbhijpmaaGreat
open Go Go.RowKit
section
variable {P:Program} {ρ:Nat->Value} {w w':World} {H H':ai} {F F':Nat->Prop} {U:Nat->Prop} {ob:Nat->Option (Nat×Th)} {n:Nat} {R:Type}
variable {op:Op} {ty:TypeId} {pos:String} {aft:Array Edge} {d:Nat}
theorem ak.box(hs:ak U H F w ob n){o s:Nat}{T:TypeId}{t:Tree}(ho:ob o=some (s, .box T t)){b:Nat}(hb:H.val o=some (.pointer (some ⟨b,0,Yw⟩))):
 ∃es,w.heap[b]? =some (.cells es.toArray T (0,0))/\Holds H F w t es:=by
 obtain⟨v,hv,hi⟩:=hs.obj _ _ _ ho;rw[hb]at hv;obtain rfl:=WD hv;obtain⟨b',es,e,h1,h2⟩:=hi.ok;simp only[Ys,WL,X8,and_true]at e;subst e;exact⟨es,h1,h2⟩
theorem ak.own(hs:ak U H F w ob n){o s:Nat}{T:TypeId}{r:Row}{l:List r.den}(ho:ob o=some (s, .own T r l)){v:Value}(hv:H.val o=some v):e7 0 F w T r v l:=by
 obtain⟨v',cM,hi⟩:=hs.obj _ _ _ ho;rw[hv]at cM;obtain rfl:=WD cM;exact⟨hi.no,hi.ok⟩
theorem vx{fs:List (TypeId×Nat)}{arr:Array Field}(ha:arr.toList.map (λf=>(f.type,f.offset))=fs){f:Nat}{ft:TypeId}{off:Nat}(hf:fs[f]? =some (ft,off)):∃fd,arr[f]? =some fd/\fd.type=ft/\fd.offset=off:=by
 subst ha;rw[List.getElem?_map]at hf
 cases hq:arr.toList[f]? with
 |none=>rw[hq]at hf;cases hf
 |some fd=>
  rw[hq]at hf;simp only[Option.map_some,WL,XF]at hf;exact⟨fd,by rw[<-Array.getElem?_toList];exact hq,hf.1,hf.2⟩
def sub(r:Row)(x:r.den)(p:List Bool):Option ((s:Row)×s.den×Nat):=
 match Tree.get (.leaf r x) p with
 |some (.leaf s y,off)=>some ⟨s,y,off⟩
 |_=>Yw
theorem xT{r s:Row}{x:r.den}{y:s.den}{p:List Bool}{off b k:Nat}(h:sub r x p=some ⟨s,y,off⟩)(ha:At F w r b k x):At F w s b (k+off) y:=by
 unfold sub at h;split at h
 .rename_i s' y' cC hg;simp only[WL,Sigma.mk.injEq]at h;obtain⟨rfl,h⟩:=h;obtain⟨rfl,rfl⟩:=X9 (eq_of_heq h);obtain⟨es,hl,hc,hr⟩:=ha;obtain⟨g1,g2⟩:=Holds.get (H:=⟨λ_=>Yw,λ_=>Yw,λ_ _=>False⟩) (F:=F) (w:=w) (cs:=es) hg hr;have NZ:bD F w s' ((es.drop cC).take s'.size) y':=g1;refine⟨_,NZ.length,λj u hu=>?_,NZ⟩;rw[W5]at hu;split at hu
  .rw[WV]at hu;rw[Nat.add_assoc];exact hc _ u hu
  .cases hu
 .cases h
def xU(T:aF P)(t:TypeId)(f:Nat)(D:ag):Option ag:=
 match find T.und t with
 |some (.struct fs)=>match fs[f]? with
  |some (ft,off)=>match find T.row ft with
   |some _=>match D with
    | .ptr o p k=>some (.ptr o (p++nB fs.length f) (k+off))
    | .at r x=>match sub r x (nB fs.length f)with
      |some ⟨s,y,cC⟩=>bif WI cC off then some (.at s y)else Yw
      |none=>Yw
    | .elem o s r i x p k=>some (.elem o s r i x (p++nB fs.length f) (k+off))
    | .dlm o d i p k=>some (.dlm o d i (p++nB fs.length f) (k+off))
    |_=>Yw
   |none=>Yw
  |none=>Yw
 |_=>Yw
theorem beq_true{m k:Nat}(h:WI m k=Yx):m=k:=Xw h
theorem nC{α:Type}{b:Bool}{x:α}{y:α}(h:(bif b then some x else Yw)=some y):b=Yx/\x=y:=by
 cases b with
 |true=>exact⟨rfl,WD h⟩
 |false=>cases h
theorem Bg(T:aF P){t:TypeId}{f:Nat}{D D':ag}{x:Operand}(h:xU T t f D=some D')(hs:ak U H F w ob n)(hx:af H F w D (ev ρ x)):
 bw P U H F w ρ ob n ⟨some d, .fieldAddr t x f,ty,pos,aft,Yw⟩ {dst:=D'}:=by
 unfold xU at h;split at h
 case h_2=>cases h
 rename_i fs hu;obtain⟨arr,CV,GF⟩:=T.und_ok _ _ hu;split at h
 case h_2=>cases h
 rename_i ft off hf;obtain⟨fd,Kn,rfl,rfl⟩:=vx GF hf;split at h
 case h_2=>cases h
 rename_i r' CW;have su:=T.row_ok _ _ CW;split at h
 .obtain rfl:=WD h;obtain⟨b,h1,h2⟩:=hx;exact ay hs (iT (r:=r') fd.offset CV Kn su rfl h2) ⟨b,h1,rfl⟩
 .split at h
  .rename_i s y cC dN;obtain⟨h1,rfl⟩:=nC h;obtain rfl:=beq_true h1;obtain⟨b,k,h2,h3,h4⟩:=hx;exact ay hs (iT (r:=r') fd.offset CV Kn su rfl h2) ⟨b,_,rfl,h3,xT dN h4⟩
  .cases h
 .obtain rfl:=WD h;obtain⟨g,o0,q,T',m,cap,l,h1,h2,h3,h4,h5⟩:=hx;exact ay hs (iT (r:=r') fd.offset CV Kn su rfl h5) ⟨g,o0,q,T',m,cap,l,h1,h2,h3,h4,by rw[Nat.add_assoc]⟩
 .obtain rfl:=WD h;obtain⟨g,o0,q,m,cap,h1,h2,h5⟩:=hx;exact ay hs (iT (r:=r') fd.offset CV Kn su rfl h5) ⟨g,o0,q,m,cap,h1,h2,by rw[Nat.add_assoc]⟩
 .cases h
theorem bD.elemAt{r:Row}{v:Value}{l:List r.den}(h:bD F w (.slice r) [v] l){i:Int}{y:r.den}(hi:idx l i=some y):
 ∃b off cap k,v= .slice (some ⟨b,off,Yw⟩) l.length cap/\i=(k:Nat)/\k<l.length/\F b/\At F w r b (off+k*r.size) y:=by
 obtain⟨A,cap,hv,_,_,h4⟩:=h;obtain⟨k,hk,av,rfl⟩:=dB hi;obtain⟨b,off,es,rfl,hF,pD,hc,hr⟩:=h4 k av;exact⟨b,off,cap,k,by simpa using hv,hk,av,hF,es,pD,hc,hr⟩
inductive DH where
 |read (r:Row) (l:List r.den)
 |own (o s:Nat) (T:TypeId) (r:Row) (l:List r.den)
 |nil
 |view (o s:Nat) (r:Row) (l:List r.den)
 |deep (o s:Nat) (T:TypeId) (d:DR) (l:List d.row.den) (h:Option qj)
def pJ(ob:Nat->Option (Nat×Th)):ag->Option DH
 | .val Yy (.leaf (.slice r) l)=>some (.read r l)
 | .val Yy .nil=>some .nil
 | .val Yy (.own o)=>match ob o with
   |some (s, .own T r l)=>some (.own o s T r l)
   |some (_, .oh _ r l)=>some (.read r l)
   |some (_, .fdeep _ d l)=>some (.read d.row l)
   |some (s, .deep T d l h)=>some (.deep o s T d l h)
   |_=>Yw
 | .val Yy (.view o s r m)=>match ob o with
   |some (s', .oh ..)=>bif WI s' s then some (.read r m)else some (.view o s r m)
   |_=>some (.view o s r m)
 |_=>Yw
def GG(U:Nat->Prop)(H:ai)(F:Nat->Prop)(w:World)(ob:Nat->Option (Nat×Th))(v:Value):DH->Prop
 | .read r l=>bD F w (.slice r) [v] l
 | .own o s T r l=>H.val o=some v/\ob o=some (s, .own T r l)/\e7 0 F w T r v l
 | .nil=>v= .slice Yw 0 0
 | .view o s r m=>gR H o s r m v
 | .deep o s T d l h=>H.val o=some v/\ob o=some (s, .deep T d l h)/\Bb U H F w v s (.deep T d l h)
theorem eQ(hs:ak U H F w ob n){D:ag}{k:DH}{v:Value}(h:pJ ob D=some k)(hd:af H F w D v):GG U H F w ob v k:=by
 unfold pJ at h;split at h
 .cases h;exact au.inv hd
 .cases h;obtain⟨cs,h1,_,h3⟩:=hd;have qm:cs=_:=h1;rw[h3 rfl]at qm;simpa[GG]using qm
 .rename_i o;obtain⟨cs,⟨u,hu,CV,e⟩,_,h3⟩:=hd;rw[h3 rfl]at e
  obtain rfl:v=u:=by simpa using e
  split at h
  .rename_i s T r l o9;cases h;exact⟨hu,o9,hs.own o9 hu⟩
  .rename_i s T r l o9;cases h;obtain⟨v',cM,hi⟩:=hs.obj _ _ _ o9;rw[hu]at cM;obtain rfl:=WD cM;exact hi.ok
  .rename_i s T d l o9;cases h;obtain⟨v',cM,hi⟩:=hs.obj _ _ _ o9;rw[hu]at cM;obtain rfl:=WD cM;exact hi.ok
  .rename_i s T d l h' o9;cases h;obtain⟨v',cM,hi⟩:=hs.obj _ _ _ o9;rw[hu]at cM;obtain rfl:=WD cM;exact⟨hu,o9,hi⟩
  .cases h
 .rename_i o s r m;obtain⟨cs,⟨u,e,hu⟩,_,h3⟩:=hd;rw[h3 rfl]at e
  obtain rfl:v=u:=by simpa using e
  split at h
  .rename_i s' T r' l' o9
   cases hb:WI s' s with
   |false=>rw[hb]at h;cases h;exact hu
   |true=>
    rw[hb]at h;obtain rfl:=Xw hb;cases h;exact sr hs o9 hu
  .cases h;exact hu
 .cases h
def gT:Nat->(r:Row)->r.den->(e:Row)->Option (List e.den)
 |1,r,x,e=>if h:r.beq e=Yx then some [ff (Row.eq_of_beq h) x]else Yw
 |m+2, .pair a b,x,e=>if h:a.beq e=Yx then(match gT (m+1) b x.2 e with
  |some l=>some (ff (Row.eq_of_beq h) x.1::l)
  |none=>Yw)else Yw
 |_,_,_,_=>Yw
theorem zL{e:Row}{b:Nat}:{m:Nat}->{r:Row}->{x:r.den}->{l:List e.den}->{off:Nat}->gT m r x e=some l->At F w r b off x->l.length=m/\∀i(h:i<l.length),At F w e b (off+i*e.size) l[i]
 |0,r,x,l,off,h,_=>by unfold gT at h;cases h
 |1,r,x,l,off,h,ha=>by
  unfold gT at h;split at h
  case isFalse=>cases h
  rename_i hb;obtain rfl:=Row.eq_of_beq hb;obtain rfl:=WD h;refine⟨rfl,λi hi=>?_⟩
  obtain rfl:i=0:=by simp at hi;omega
  rw[Nat.zero_mul,XL];exact ha
 |m+2, .pair a b',x,l,off,h,ha=>by
  unfold gT at h;split at h
  case isFalse=>cases h
  rename_i hb;obtain rfl:=Row.eq_of_beq hb;split at h
  case h_2=>cases h
  rename_i l' hl;obtain rfl:=WD h;obtain⟨g1,g2⟩:=zL hl (ha.snd _ rfl);refine⟨by simp[g1],λi hi=>?_⟩
  cases i with
  |zero=>
   rw[Nat.zero_mul,XL];exact ha.fst
  |succ i=>
   have:=g2 i (by simpa using hi);rw[show off+(i+1)*a.size=off+a.size+i*a.size from by rw[Xu];omega];exact this
 |m+2, .int _,_,_,_,h,_=>by unfold gT at h;cases h
 |m+2, .bool,_,_,_,h,_=>by unfold gT at h;cases h
 |m+2, .str,_,_,_,h,_=>by unfold gT at h;cases h
 |m+2, .slice _,_,_,_,h,_=>by unfold gT at h;cases h
 |m+2, .gP,_,_,_,h,_=>by unfold gT at h;cases h
 |m+2, .nul _,_,_,_,h,_=>by unfold gT at h;cases h
 |m+2, .map ..,_,_,_,h,_=>by unfold gT at h;cases h
theorem mu{t e:TypeId}{x y:Operand}{kd:IntKind}{a:Int}{ti:TypeInfo}{m jx off i:Nat}(size:Nat)(ht:P.underlying t=some (.array m e))(hi:P.info? e=some ti)(ir:ti.size=size)
 (hx:ev ρ x= .pointer (some ⟨jx,off,Yw⟩))(hy:ev ρ y= .int kd a)(ha:a=(i:Int))(av:i<m):
 Pure P ρ ⟨some d, .indexAddr t x y,ty,pos,aft,Yw⟩ (.pointer (some ⟨jx,off+i*size,Yw⟩)):=λw=>by
 subst ir;subst ha;simp[execOp,Instr.indexAt,Instr.sureAddr,asIntOf,run_underlying ht,sizeOf,typeInfo,hi,hx,hy,av,bK]
theorem zM{α:Type}{b:Bool}{x:Option α}{y:α}(h:(bif b then x else Yw)=some y):b=Yx/\x=some y:=by
 cases b with
 |true=>exact⟨rfl,h⟩
 |false=>cases h
def lK(T:aF P)(m:Nat)(e:TypeId)(D:ag)(i:Int)(k:cI->Option R):Option R:=
 match find T.row e with
 |some re=>match D with
  | .at r x=>match gT m r x re with
    |some l=>(idx l i).bind λy=>k {dst:= .at re y}
    |none=>Yw
  | .ptr o p off=>match i with
    | .ofNat j=>bif Xt j m then k {dst:= .ptr o (p++nB m j) (off+j*re.size)}else Yw
    | .negSucc _=>Yw
  |_=>Yw
 |none=>Yw
theorem xV(T:aF P){t:TypeId}{m:Nat}{e:TypeId}(hu:P.underlying t=some (.array m e)){D:ag}{x y:Operand}{kd:IntKind}{i:Int}{k:cI->Option R}{q:R}(h:lK T m e D i k=some q)(hs:ak U H F w ob n)(hx:af H F w D (ev ρ x))(hy:ev ρ y= .int kd i):
 ∃e,k e=some q/\bw P U H F w ρ ob n ⟨some d, .indexAddr t x y,ty,pos,aft,Yw⟩ e:=by
 unfold lK at h;split at h
 case h_2=>cases h
 rename_i re hr;obtain⟨ti,z,h1,_,_,h4,_⟩:=T.row_ok _ _ hr;split at h
 case h_3=>cases h
 case h_2=>
  split at h
  case h_2=>cases h
  rename_i o p off _ j;obtain⟨av,hk⟩:=zM h
  have av:j<m:=by simpa using av
  obtain⟨b,hb,hv⟩:=hx;exact⟨_,hk,ay hs (mu re.size hu h1 h4 hv hy rfl av) ⟨b,hb,rfl⟩⟩
 rename_i r v;split at h
 case h_2=>cases h
 rename_i l hl;obtain⟨a,ha,hk⟩:=bind_some h;obtain⟨b,off,hv,hF,pT⟩:=hx;obtain⟨g1,g2⟩:=zL hl pT;obtain⟨j,hj,av,rfl⟩:=dB ha;exact⟨_,hk,ay hs (mu re.size hu h1 h4 hv hy hj (by omega)) ⟨b,_,rfl,hF,g2 j av⟩⟩
def ol(T:aF P)(ob:Nat->Option (Nat×Th))(t:TypeId)(D:ag)(i:Int)(k:cI->Option R):Option R:=
 match find T.und t with
 |some (.slice e)=>match find T.row e with
  |some re=>match pJ ob D with
   |some (.read r l)=>bif WI r.size re.size then(idx l i).bind λx=>k {dst:= .at r x}else Yw
   |some (.own o s _ r l)=>bif WI r.size re.size then(idx l i).bind λx=>k {dst:= .elem o s r i x [] 0}else Yw
   |some (.deep o _ _ d l _)=>bif WI d.low.size re.size then(idx l i).bind λ_=>k {dst:= .dlm o d i [] 0}else Yw
   |_=>Yw
  |none=>Yw
 |some (.array m e)=>lK T m e D i k
 |_=>Yw
theorem Bh(T:aF P){t:TypeId}{D:ag}{x y:Operand}{kd:IntKind}{i:Int}{k:cI->Option R}{q:R}(h:ol T ob t D i k=some q)(hs:ak U H F w ob n)(hx:af H F w D (ev ρ x))(hy:ev ρ y= .int kd i):
 ∃e,k e=some q/\bw P U H F w ρ ob n ⟨some d, .indexAddr t x y,ty,pos,aft,Yw⟩ e:=by
 unfold ol at h;split at h
 case h_3=>cases h
 case h_2=>rename_i m e hu;exact xV T (T.und_ok _ _ hu) h hs hx hy
 rename_i e hu;have hu:=T.und_ok _ _ hu;split at h
 case h_2=>cases h
 rename_i re hr;obtain⟨ti,z,h1,_,_,h4,_⟩:=T.row_ok _ _ hr;split at h
 .rename_i r l eA
  cases hz:WI r.size re.size with
  |false=>rw[hz]at h;cases h
  |true=>
   rw[hz,cond_true]at h;have hz:=beq_true hz;obtain⟨a,ha,hk⟩:=bind_some h;have eA:=eQ hs eA hx;obtain⟨b,off,cap,j,hv,hj,av,hF,pT⟩:=bD.elemAt eA ha;refine⟨_,hk,ay hs (iy r.size hu h1 (h4.trans hz.symm) hv hy hj av) ⟨b,_,rfl,hF,pT⟩⟩
 .rename_i o s T' r l eA
  cases hz:WI r.size re.size with
  |false=>rw[hz]at h;cases h
  |true=>
   rw[hz,cond_true]at h;have hz:=beq_true hz;obtain⟨a,ha,hk⟩:=bind_some h;obtain⟨hv,bH,cS⟩:=eQ hs eA hx;obtain⟨v',cM,bF⟩:=hs.obj _ _ _ bH;obtain⟨j,hj,av,Sz⟩:=dB ha;obtain⟨_,xs,xy,_⟩:=cS
   rcases xy.2 with⟨Bi,h0⟩|⟨g,o0,cap,cur,tR,_,_,_⟩
   .omega
   .have hp:=iy (P:=P) (d:=some d) (ty:=ty) (pos:=pos) (aft:=aft) r.size hu h1 (h4.trans hz.symm) tR hy hj av;refine⟨_,hk,ay hs hp ⟨g,o0,j,T',l.length,cap,l,?_,hj,bF.con,ha,rfl⟩⟩;rw[<-tR];exact hv
 .rename_i o s T' d' l hh eA;obtain⟨hz,h⟩:=zM h;have hz:=beq_true hz;obtain⟨a,ha,hk⟩:=bind_some h;obtain⟨hv,bH,bF⟩:=eQ hs eA hx;obtain⟨j,hj,av,Sz⟩:=dB ha;obtain⟨lh,_,⟨xs,xy,_⟩,Km,_⟩:=bF.ok
  rcases xy.2 with⟨Bi,h0⟩|⟨g,o0,cap,cur,tR,_,_,_⟩
  .omega
  .have hp:=iy (P:=P) (d:=some d) (ty:=ty) (pos:=pos) (aft:=aft) d'.low.size hu h1 (h4.trans hz.symm) tR hy hj (by omega);refine⟨_,hk,ay hs hp ⟨g,o0,j,lh.length,cap,?_,hj,rfl⟩⟩;rw[<-tR];exact hv
 .cases h
theorem qs{b:Nat}{T:TypeId}{es:List Value}(hh:w.heap[b]? =some (.cells es.toArray T (0,0)))(j:Nat):w.cell? ⟨b,j,Yw⟩=es[j]? :=by
 rw[cell_of_row w b j _ T (0,0) hh];simp
theorem jA(T:aF P){t:TypeId}{kk:CR}(hu:find T.und t=some kk){x:Operand}{b off:Nat}{s:Tree}{cs:List Value}(hx:ev ρ x= .pointer (some ⟨b,off,Yw⟩))(hs:ak U H F w ob n)
 (hh:Holds H F w s cs)(hc:∀j u,cs[j]? =some u->w.cell? ⟨b,off+j,Yw⟩=some u)
 (hz:if fJ kk=Yx then∃r,find T.row t=some r/\r.size=s.size else s.size=1):
 bw P U H F w ρ ob n ⟨some d, .load t x,ty,pos,aft,Yw⟩ {dst:= .val (fJ kk) s}:=by
 obtain⟨dd,sj,rG⟩:=(T.und_ok _ _ hu).agg;have hl:=hh.length
 cases ha:fJ kk with
 |true=>
  rw[YB ha]at hz;obtain⟨r,hr,Gc⟩:=hz;obtain⟨ti,z,h1,_,_,h4,_⟩:=T.row_ok _ _ hr;exact aS hs (AX sj (rG.trans ha) h1 (by omega) hx hc) ⟨cs,hh,rfl,by simp⟩
 |false=>
  rw[YA (by simp[ha])]at hz
  obtain⟨v,rfl⟩:∃v,cs=[v]:=by
   match cs,hl.trans hz with
   |[v],_=>exact⟨v,rfl⟩
  exact aS hs (sd sj (rG.trans ha) hx (hc 0 v rfl)) ⟨[v],hh,rfl,λ_=>rfl⟩
def iC(T:aF P)(t:TypeId)(kk:CR)(m:Nat):Bool:=
 bif fJ kk then(match find T.row t with|some r=>WI r.size m|none=>Yy)else WI m 1
theorem fy(T:aF P){t:TypeId}{kk:CR}{m:Nat}(h:iC T t kk m=Yx):if fJ kk=Yx then∃r,find T.row t=some r/\r.size=m else m=1:=by
 unfold iC at h
 cases ha:fJ kk with
 |true=>
  rw[ha,cond_true]at h;rw[YB rfl];split at h
  .rename_i r hr;exact⟨r,hr,beq_true h⟩
  .cases h
 |false=>
  rw[ha,cond_false]at h;rw[YA (by simp)];exact beq_true h
def sv(T:aF P)(ob:Nat->Option (Nat×Th))(t:TypeId)(D:ag)(k:cI->Option R):Option R:=
 match find T.und t with
 |none=>Yw
 |some kk=>match D with
  | .at r x=>bif iC T t kk r.size then k {dst:= .val (fJ kk) (.leaf r x)}else Yw
  | .ptr o p off=>match ob o with
    |some (_, .box _ tr)=>match tr.get p with
     |some (s,cC)=>bif WI cC off&&iC T t kk s.size then k {dst:= .val (fJ kk) s}else Yw
     |none=>Yw
    |_=>Yw
  | .elem o s r i x p off=>match ob o with
    |some (s', .own _ r' l)=>bif WI s' s then
      (match sub r x p with
      |some ⟨q,y,cC⟩=>bif WI cC off&&iC T t kk q.size then k {dst:= .val (fJ kk) (.leaf q y)}else Yw
      |none=>Yw)
     else(idx l i).bind λx'=>match sub r' x' p with
      |some ⟨q,y,cC⟩=>bif WI cC off&&iC T t kk q.size&&WI r'.size r.size then k {dst:= .val (fJ kk) (.leaf q y)}else Yw
      |none=>Yw
    |_=>Yw
  |_=>Yw
theorem ax{α:Type}{b:Bool}{x:Option α}{y:α}(h:(bif b then x else Yw)=some y):b=Yx/\x=some y:=by
 cases b with
 |true=>exact⟨rfl,h⟩
 |false=>cases h
theorem bC{a b:Bool}(h:(a&&b)=Yx):a=Yx/\b=Yx:=by simpa using h
theorem zN(hs:ak U H F w ob n){o s':Nat}{T':TypeId}{r':Row}{i:Int}{x':r'.den}{l:List r'.den}{g o0 q m cap:Nat}(bH:ob o=some (s', .own T' r' l))(hv:H.val o=some (.slice (some ⟨g,o0,Yw⟩) m cap))(hq:i=(q:Nat))(hi:idx l i=some x'):
 At F w r' g (o0+q*r'.size) x':=(hs.own bH hv).at rfl hq hi
theorem DJ(T:aF P){t:TypeId}{D:ag}{x:Operand}{k:cI->Option R}{q:R}(h:sv T ob t D k=some q)(hs:ak U H F w ob n)(hx:af H F w D (ev ρ x)):
 ∃e,k e=some q/\bw P U H F w ρ ob n ⟨some d, .load t x,ty,pos,aft,Yw⟩ e:=by
 unfold sv at h;split at h
 .cases h
 rename_i kk hu;split at h
 .rename_i r y;obtain⟨h1,h2⟩:=ax h;obtain⟨b,off,e,hF,es,hl,hc,hr⟩:=hx;exact⟨_,h2,jA T hu e hs (s:= .leaf r y) hr hc (fy T h1)⟩
 .rename_i o p off;split at h
  .rename_i SA T0 tr bH;split at h
   .rename_i s cC hg;obtain⟨h1,h2⟩:=ax h;obtain⟨h1,h3⟩:=bC h1;obtain rfl:=beq_true h1;obtain⟨b,hb,e⟩:=hx;obtain⟨es,hh,If⟩:=hs.box bH hb;obtain⟨g1,g2⟩:=If.get hg;refine⟨_,h2,jA T hu e hs g1 (λj u hj=>?_) (fy T h3)⟩;rw[qs hh];rw[W5]at hj;split at hj
    .rwa [WV]at hj
    .cases hj
   .cases h
  .cases h
 .rename_i o s r i y p off;split at h
  .rename_i s' T0 r' l bH;obtain⟨g,o0,qq,T',m,cap,l0,e1,e2,e3,e4,e5⟩:=hx
   cases Gd:WI s' s with
   |true=>
    rw[Gd,cond_true]at h;obtain rfl:=beq_true Gd;obtain⟨v,hv,bF⟩:=hs.obj _ _ _ bH;have hc:=bF.con;rw[e3]at hc
    obtain⟨rfl,vo⟩:T'=T0/\(⟨r,l0⟩:(r:Row)×List r.den)=⟨r',l⟩:=by
     have:=WD hc;simp only[Th.base,Th.own.injEq]at this;obtain⟨a,b,c⟩:=this;subst b;exact⟨a,by rw[eq_of_heq c]⟩
    cases vo;split at h
    .rename_i q' y' cC dN;obtain⟨h1,h2⟩:=ax h;obtain⟨h1,h3⟩:=bC h1;obtain rfl:=beq_true h1;obtain⟨es,hl,GH,hr⟩:=xT dN (zN hs bH e1 e2 e4);exact⟨_,h2,jA T hu e5 hs (s:= .leaf q' y') hr GH (fy T h3)⟩
    .cases h
   |false=>
    rw[Gd,cond_false]at h;obtain⟨x',Gb,h⟩:=bind_some h;split at h
    .rename_i q' y' cC dN;obtain⟨h1,h2⟩:=ax h;obtain⟨h1,h4⟩:=bC h1;obtain⟨h1,h3⟩:=bC h1;obtain rfl:=beq_true h1;have h4:=beq_true h4;obtain⟨es,hl,GH,hr⟩:=xT dN (zN hs bH e1 e2 Gb);rw[h4]at GH;exact⟨_,h2,jA T hu e5 hs (s:= .leaf q' y') hr GH (fy T h3)⟩
    .cases h
  .cases h
 .cases h
end
end Go.Proofs.YtbladfbbhijpmaaGreat
namespace Go.Proofs.YtbladfbbhijpmaaGreat
open Go Go.RowKit
def xW:(r:Row)->List Bool->Option ((s:Row)×Path r s)
 |r,[]=>some ⟨r, .here⟩
 | .pair a b,d::p=>match d with
   |false=>match xW a p with
    |some ⟨s,q⟩=>some ⟨s, .fst q⟩
    |none=>Yw
   |true=>match xW b p with
    |some ⟨s,q⟩=>some ⟨s, .snd q⟩
    |none=>Yw
 |_,_::_=>Yw
section
variable {P:Program} {ρ:Nat->Value} {w w':World} {H H':ai} {F F':Nat->Prop} {U:Nat->Prop} {ob:Nat->Option (Nat×Th)} {n:Nat} {R:Type}
variable {op:Op} {ty:TypeId} {pos:String} {aft:Array Edge} {d:Nat}
def ai.aK(H:ai)(s:Nat)(t:Th):ai:=⟨H.val,λm=>if m=s then some t else H.con m,H.sub⟩
def ai.bI(H:ai)(o:Nat)(v:Value):ai:=⟨λm=>if m=o then some v else H.val m,H.con,H.sub⟩
def ai.cT(H:ai)(s:Nat)(S:Nat->Prop):ai:=⟨H.val,H.con,λm=>if m=s then S else H.sub m⟩
theorem ai.dD{H:ai}{s:Nat}{t:Th}(h:H.con s=Yw):H.le (H.aK s t):=⟨λ_ _ h=>h,λm q hq=>by
 by_cases e:m=s
 .subst e;rw[h]at hq;cases hq
 .simp[ai.aK,e,hq],λ_ _ _=>rfl⟩
theorem ai.Bj{H:ai}{s:Nat}{S:Nat->Prop}(h:H.con s=Yw):H.le (H.cT s S):=⟨λ_ _ h=>h,λ_ _ h=>h,λm t hm=>by
 have:m≠s:=λe=>by rw[e,h]at hm;cases hm
 simp[ai.cT,this]⟩
theorem ai.lL{H:ai}{s:Nat}{t:Value}(h:H.val s=Yw):H.le (H.bI s t):=⟨λm q hq=>by
 by_cases e:m=s
 .subst e;rw[h]at hq;cases hq
 .simp[ai.bI,e,hq],λ_ _ h=>h,λ_ _ _=>rfl⟩
theorem bf{α:Type}{o o':Nat}{x y:α}(h:find [(o,x)] o'=some y):o'=o/\y=x:=by
 rw[aw]at h;split at h
 .rename_i e;exact⟨e.symm,(WD h).symm⟩
 .cases h
theorem gS.pZ(hs:ak U H F w ob n){o s:Nat}{t t':Th}{v0:Value}(ho:ob o=some (s,t))(hv:H.val o=some v0)(hb:t'.base=t')(DK:∀k,fp (H.sub n) v0 t' k->fp (H.sub s) v0 t k){D:ag}{v:Value}
 (aU:Ext (fp (H.sub s) v0 t) w w')(iP:eC (H.aK n t') F w' (H.sub n) v0 t')(hd:af (H.aK n t') F w' D v):gW H F w ob n {dst:=D,eat:=[o],make:=[(o,(n,t'))]} v w':=by
 obtain⟨v1,p3,bF⟩:=hs.obj _ _ _ ho;rw[hv]at p3;obtain rfl:=WD p3
 have dZ:∀k,fp (H.sub s) v0 t k->bn H ob [o] k:=λk hk=>⟨o,by simp,s,t,v0,ho,hv,hk⟩
 refine⟨H.aK n t',F,⟨ai.dD (hs.fresh n (WH _) (by omega)).2,⟨aU.os,aU.tape,aU.output,aU.size,λk hk hn=>aU.block k hk λe=>hn (dZ k e)⟩,λ_ h=>h,λ_ h=> .inl h,λb hb=>Xg (hs.lt b hb) aU.size⟩,λm hm=>?_,hd,⟨λo' s' q hq=>?_,λo1 o2 s1 s2 q1 q2 u1 u2 bY h1 h2=>?_⟩,λo' h=>?_⟩
 .refine⟨id,λh=>?_⟩;simp[ai.aK,show m≠n from by omega,h]
 .obtain⟨rfl,e⟩:=bf hq;obtain⟨rfl,rfl⟩:=X9 e;refine⟨v0,hv,bF.one,by simp[ai.aK,hb],iP,λk hk=>⟨bF.no k (DK k hk),Xg (bF.lt k (DK k hk)) aU.size, .inr (dZ k (DK k hk))⟩⟩
 .exact absurd ((bf h1).1.trans (bf h2).1.symm) bY
 .left
  obtain⟨y,hy⟩:=Xo.1 h;rw[(bf hy).1];simp
theorem gS.new(hs:ak U H F w ob n){eat:List Nat}{t:Th}{v0:Value}(hb:t.base=t)(h1:v0.oneCell'=Yx){D:ag}{v:Value}
 (aU:Ext (bn H ob eat) w w')(iP:eC ((H.aK n t).bI n v0) F w' (H.sub n) v0 t)(DK:∀k,fp (H.sub n) v0 t k->¬F k/\k<w'.heap.size/\(w.heap.size<=k\/bn H ob eat k))
 (hd:af ((H.aK n t).bI n v0) F w' D v):gW H F w ob n {dst:=D,eat:=eat,make:=[(n,(n,t))]} v w':=by
 have hf:=hs.fresh n (WH _) (by omega);refine⟨(H.aK n t).bI n v0,F,⟨(ai.dD hf.2).trans (ai.lL (by simp[ai.aK,hf.1])),aU,λ_ h=>h,λ_ h=> .inl h,λb hb=>Xg (hs.lt b hb) aU.size⟩,λm hm=>?_,hd,⟨λo' s' q hq=>?_,λo1 o2 s1 s2 q1 q2 u1 u2 bY h1 h2=>?_⟩,λo' h=>?_⟩
 .simp[ai.aK,ai.bI,show m≠n from by omega]
 .obtain⟨rfl,e⟩:=bf hq;obtain⟨rfl,rfl⟩:=X9 e;exact⟨v0,by simp[ai.bI],h1,by simp[ai.aK,ai.bI,hb],iP,DK⟩
 .exact absurd ((bf h1).1.trans (bf h2).1.symm) bY
 .right
  obtain⟨y,hy⟩:=Xo.1 h;rw[(bf hy).1];exact WH _
def om(T:aF P)(ob:Nat->Option (Nat×Th))(n:Nat)(t:TypeId)(D V:ag)(k:cI->Option R):Option R:=
 match find T.row t with
 |none=>Yw
 |some rt=>match V with
  | .val _ u=>match D with
    | .ptr o p off=>match ob o with
      |some (_, .box T0 tr)=>match tr.get p with
       |some (s,cC)=>bif WI cC off&&WI rt.size s.size&&WI u.size s.size then
         (match tr.put p u with
         |some Ng=>k {dst:= .dead,eat:=[o],make:=[(o,(n, .box T0 Ng))]}
         |none=>Yw)else Yw
       |none=>Yw
      |_=>Yw
    | .elem o s r i x p off=>match ob o with
      |some (s', .own T0 r' l)=>match xW r' p with
       |some ⟨q,sw⟩=>bif WI sw.off off&&WI rt.size q.size&&WI r'.size r.size then
         (match flat ob q u with
         |some y=>bif WI s' s then
           (if h:r.beq r'=Yx then k {dst:= .dead,eat:=[o],make:=[(o,(n, .own T0 r' (be l i (sw.set (ff (Row.eq_of_beq h) x) y))))]}else Yw)
          else(idx l i).bind λx'=>k {dst:= .dead,eat:=[o],make:=[(o,(n, .own T0 r' (be l i (sw.set x' y))))]}
         |none=>Yw)else Yw
       |none=>Yw
      |_=>Yw
    |_=>Yw
  |_=>Yw
theorem au.cells{agg:Bool}{t:Tree}{v:Value}(h:au H F w agg t v):∃cs,Holds H F w t cs/\v.cells.toList=cs:=by
 obtain⟨cs,h1,h2,h3⟩:=h;refine⟨cs,h1,?_⟩
 cases agg with
 |true=>rw[h2];rfl
 |false=>
  have e:=h3 rfl;have SB:=h1.fj v (by rw[e];simp);rw[e]
  cases v<;>first|rfl|simp[X1]at SB
theorem qt(T:aF P){t:TypeId}{rt:Row}(DL:find T.row t=some rt){x y:Operand}{o s':Nat}{T0:TypeId}{r q:Row}{i:Int}{x':r.den}{z:q.den}{l:List r.den}{p:Path r q}{off g o0 j m cap:Nat}{agg:Bool}{u:Tree}
 (hs:ak U H F w ob n)(bH:ob o=some (s', .own T0 r l))(hv:H.val o=some (.slice (some ⟨g,o0,Yw⟩) m cap))(hj:i=(j:Nat))(hi:idx l i=some x')(hx:ev ρ x= .pointer (some ⟨g,o0+j*r.size+off,Yw⟩))(DM:p.off=off)(hz:rt.size=q.size)
 (hf:flat ob q u=some z)(hV:au H F w agg u (ev ρ y)):
 bw P U H F w ρ ob n ⟨Yw, .store t x y,ty,pos,aft,Yw⟩ {dst:= .dead,eat:=[o],make:=[(o,(n, .own T0 r (be l i (p.set x' z))))]}:=by
 obtain⟨ti,z0,h1,_,_,h4,_⟩:=T.row_ok _ _ DL;obtain⟨cs,mH,sx⟩:=hV.cells;have hr:=dS hs hf mH;have cS:=hs.own bH hv;obtain⟨k',hk,av,rfl⟩:=dB hi
 obtain rfl:k'=j:=by omega
 obtain⟨cur,hh,hle,aU,dY⟩:=cS.put rfl av hs.lt p hr;subst DM;refine bj.unit (jX h1 (h4.trans (hz.trans hr.length.symm)) hx rfl sx hr.fj hh hle) ?_;refine gS.pZ (t':= .own T0 r (be l i (p.set l[k'] z))) (D:= .dead) hs bH hv rfl (λ_ h=>h) aU ?_ trivial;have:eC (H.aK n (.own T0 r (be l i (p.set l[k'] z)))) F (w.setRow g (cur.toList.take (o0+k'*r.size+p.off)++cs++cur.toList.drop (o0+k'*r.size+p.off+cs.length)).toArray) (H.sub n) (.slice (some ⟨g,o0,Yw⟩) m cap) (.own T0 r (l.set k' (p.set l[k'] z))):=dY.2;unfold be;rw[hk,WN];exact this
theorem Bk(T:aF P){t:TypeId}{D V:ag}{x y:Operand}{k:cI->Option R}{q:R}(h:om T ob n t D V k=some q)(hs:ak U H F w ob n)(hx:af H F w D (ev ρ x))(hy:af H F w V (ev ρ y)):
 ∃e,k e=some q/\bw P U H F w ρ ob n ⟨Yw, .store t x y,ty,pos,aft,Yw⟩ e:=by
 unfold om at h;split at h
 .cases h
 rename_i rt DL;split at h
 case h_2=>cases h
 rename_i agg u;split at h
 .rename_i o p off;split at h
  case h_2=>cases h
  rename_i s0 T0 tr bH;split at h
  case h_2=>cases h
  rename_i s cC hg;obtain⟨h1,h2⟩:=ax h;obtain⟨h1,xA⟩:=bC h1;obtain⟨h1,xB⟩:=bC h1;obtain rfl:=beq_true h1;have xB:=beq_true xB;have xA:=beq_true xA;split at h2
  case h_2=>cases h2
  rename_i Ng hp;obtain⟨b,hb,e⟩:=hx;obtain⟨es,hh,If⟩:=hs.box bH hb;obtain⟨cs,mH,sx⟩:=au.cells hy;have hl:=mH.length;have hle:=(If.get hg).2;have mL:=Holds.put mH hg hp xA.symm If;obtain⟨ti,z0,g1,_,_,g4,_⟩:=T.row_ok _ _ DL;refine⟨_,h2,bj.unit (jX g1 (by omega) e rfl sx mH.fj hh (by simp;omega)) ?_⟩
  have Nh:¬F b:=by
   obtain⟨v1,p3,bF⟩:=hs.obj _ _ _ bH;rw[hb]at p3;obtain rfl:=WD p3;exact bF.no b rfl
  have aU:Ext (fp (H.sub s0) (.pointer (some ⟨b,0,Yw⟩)) (.box T0 tr)) w (w.setRow b (es.toArray.toList.take cC++cs++es.toArray.toList.drop (cC+cs.length)).toArray):=
   ⟨rfl,⟨rfl,WH _⟩,rfl,by simp,λk _ hk=>setRow_other w b k _ λe=>hk (by simp[fp,e])⟩
  refine gS.pZ (t':= .box T0 Ng) (D:= .dead) hs bH hb rfl (λk hk=>hk) aU ⟨b,_,rfl,setRow_heap w b _ _ T0 (0,0) hh,?_⟩ trivial
  have hk:=mL.keep (H':=H.aK n (.box T0 Ng)) (ai.dD (hs.fresh n (WH _) (by omega)).2) (Step.ext aU hs.lt λk hk=>by
   simp only[fp,Ys,WL,X8,and_true]at hk
   exact hk▸Nh)
  rw[<-hl]at hk;simpa using hk
 .rename_i o s r i x0 p off;split at h
  case h_2=>cases h
  rename_i s' T0 r' l bH;split at h
  case h_2=>cases h
  rename_i q' sw tS;obtain⟨h1,h2⟩:=ax h;obtain⟨h1,xA⟩:=bC h1;obtain⟨h1,xB⟩:=bC h1;have h1:=beq_true h1;have xB:=beq_true xB;have xA:=beq_true xA;split at h2
  case h_2=>cases h2
  rename_i z hf;obtain⟨g,o0,qq,T',m,cap,l0,e1,e2,e3,e4,e5⟩:=hx;rw[<-xA]at e5
  cases Gd:WI s' s with
  |true=>
   rw[Gd,cond_true]at h2;obtain rfl:=beq_true Gd;split at h2
   case isFalse=>cases h2
   rename_i vy;obtain⟨v,hv,bF⟩:=hs.obj _ _ _ bH;have hc:=bF.con;rw[e3]at hc
   obtain⟨rfl,vo⟩:T'=T0/\(⟨r,l0⟩:(r:Row)×List r.den)=⟨r',l⟩:=by
    have:=WD hc;simp only[Th.base,Th.own.injEq]at this;obtain⟨a,b,c⟩:=this;subst b;exact⟨a,by rw[eq_of_heq c]⟩
   cases vo;exact⟨_,h2,qt T DL hs bH e1 e2 e4 e5 h1 xB hf hy⟩
  |false=>
   rw[Gd,cond_false]at h2;obtain⟨x',Gb,h2⟩:=bind_some h2;exact⟨_,h2,qt T DL hs bH e1 e2 Gb e5 h1 xB hf hy⟩
 .cases h
theorem DN(hs:ak U H F w ob n){t:TypeId}{tr:Tree}{cs:List Value}(hh:Holds H F w tr cs):
 gW H F w ob n {dst:= .ptr n [] 0,make:=[(n,(n, .box t tr))]} (.pointer (some ⟨w.heap.size,0,Yw⟩)) (w.alloc (.cells cs.toArray t)):=by
 have aU:Ext (bn H ob []) w (w.alloc (.cells cs.toArray t)):=⟨rfl,⟨rfl,WH _⟩,rfl,by simp,λk hk _=>Below.heap_alloc w _ k hk⟩
 have hf:=hs.fresh n (WH _) (by omega);refine gS.new (v0:= .pointer (some ⟨w.heap.size,0,Yw⟩)) hs rfl rfl aU ⟨_,cs,rfl,heap_alloc_new w _,?_⟩ (λk hk=>?_) ⟨w.heap.size,by simp[ai.bI],rfl⟩
 .exact hh.keep ((ai.dD hf.2).trans (ai.lL (by simp[ai.aK,hf.1]))) (Step.alloc hs.lt _)
 .simp only[fp,Ys,WL,X8,and_true]at hk;subst hk;exact⟨λe=>by have:=hs.lt _ e;omega,by simp, .inl (WH _)⟩
def oo(T:aF P)(n:Nat)(t:TypeId)(k:cI->Option R):Option R:=
 match find T.row t with
 |some r=>k {dst:= .ptr n [] 0,make:=[(n,(n, .box t r.vw))]}
 |none=>Yw
theorem Bl(T:aF P){t:TypeId}{k:cI->Option R}{q:R}(h:oo T n t k=some q)(hs:ak U H F w ob n):
 ∃e,k e=some q/\bw P U H F w ρ ob n ⟨some d, .alloc t,ty,pos,aft,Yw⟩ e:=by
 unfold oo at h;split at h
 case h_2=>cases h
 rename_i r hr;obtain⟨ti,z,h1,h2,h3,_,_⟩:=T.row_ok _ _ hr;refine⟨_,h,bj.val (A4 h1 h2) ?_⟩;have:=DN (t:=t) hs (Row.iY H F w r);rw[<-h3,Xq]at this;exact this
def Bm(n:Nat)(t:TypeId)(V:ag)(k:cI->Option R):Option R:=
 match V with
 | .val _ u=>k {dst:= .ptr n [] 0,make:=[(n,(n, .box t u))]}
 |_=>Yw
theorem GI{t:TypeId}{V:ag}{x:Operand}{k:cI->Option R}{q:R}(h:Bm n t V k=some q)(hs:ak U H F w ob n)(hx:af H F w V (ev ρ x)):
 ∃e,k e=some q/\bw P U H F w ρ ob n ⟨some d, .box t x,ty,pos,aft,Yw⟩ e:=by
 unfold Bm at h;split at h
 case h_2=>cases h
 rename_i agg u;obtain⟨cs,mH,sx⟩:=au.cells hx;refine⟨_,h,bj.val (Gw rfl) ?_⟩;have:=DN (t:=t) hs mH;rw[<-sx,Xq]at this;exact this
end
end Go.Proofs.YtbladfbbhijpmaaGreat
end
namespace Go.Proofs.YtbladfbbhijpmaaGreat
open Go Go.RowKit
set_option maxRecDepth 100000
set_option linter.unusedSimpArgs false
set_option linter.unusedVariables false
set_option linter.defProp false
section
section
variable {P:Program} {ρ:Nat->Value} {w w':World} {H H':ai} {F F':Nat->Prop} {U:Nat->Prop} {ob:Nat->Option (Nat×Th)} {n:Nat} {R:Type}
variable {op:Op} {ty:TypeId} {pos:String} {aft:Array Edge} {d:Nat}
theorem lM{base:Nat}{T:TypeId}{r:Row}{v:Value}{l:List r.den}(h:e7 base F w T r v l):v.oneCell'=Yx:=by
 obtain⟨A,cap,rfl,_⟩:=h.reads;rfl
theorem iZ{H:ai}{o:Nat}{v:Value}(h:H.val o=some v)(h1:v.oneCell'=Yx):af H F w (.val Yy (.own o)) v:=⟨[v],⟨v,h,h1,rfl⟩,rfl,λ_=>rfl⟩
theorem oq(hs:ak U H F w ob n){e:TypeId}{r:Row}{v:Value}{l:List r.den}{eat:List Nat}(aU:Ext (bn H ob eat) w w')(ho:e7 0 F w' e r v l)(hn:∀k,aN v k->bn H ob eat k\/w.heap.size<=k):
 gW H F w ob n {dst:= .val Yy (.own n),eat:=eat,make:=[(n,(n, .own e r l))]} v w':=
 gS.new (v0:=v) hs rfl (lM ho) aU ho.2 (λk hk=>⟨ho.1 k hk,ho.lt k hk,(hn k hk).symm⟩) (iZ (by simp[ai.bI]) (lM ho))
theorem jB{g:Nat->Prop}(o:Obj):Ext g w (w.alloc o):=⟨rfl,⟨rfl,WH _⟩,rfl,by simp,λk hk _=>Below.heap_alloc w _ k hk⟩
def Ni{α:Type}(a b:Int)(z:α):Option (List α):=if 0<=a/\a<=b/\b<=4294967296 then some (Xb a.toNat z)else Yw
def kX:Operand->Operand->Bool
 | .tmp a, .tmp b=>WI a b
 | .const (.int _ a), .const (.int _ b)=>decide (a=b)
 |_,_=>Yy
theorem sy{e t:TypeId}{r:Row}{a b:Int}(ht:P.underlying t=some (.slice e))(su:TI P e r)(hs:ak U H F w ob n){ka kb:IntKind}{x y:Operand}(hx:ev ρ x= .int ka a)(hy:ev ρ y= .int kb b)(h0:0<=a)(h1:a<=b)(h2:b<=4294967296):
 ∃v w',(execOp (ev ρ) ⟨some d, .makeSlice t x y,ty,pos,aft,Yw⟩).run P w= .ok (.value v) w'/\(∀g,Ext g w w')/\e7 0 F w' e r v (Xb a.toNat r.zero)/\∀k,aN v k->w.heap.size<=k:=by
 obtain⟨ti,z,hi,hz,KM,ir,Kj⟩:=su;obtain⟨ca,rfl⟩:=WR h0;obtain⟨cb,rfl⟩:=WR (Int.le_trans h0 h1)
 have hc:cb<=4294967296:=by omega
 have tI:ti.bytes*cb<=281474976710656:=Xa (Nat.mul_le_mul Kj hc) (by omega)
 have pU:(ti.bytes:Int)*(cb:Int)<=281474976710656:=by
  have h:((ti.bytes*cb:Nat):Int)<=281474976710656:=by omega
  rwa [Int.natCast_mul]at h
 have aV:=run_make (P:=P) w t e ti z ht hi hz ka kb ca cb (by omega) (by omega) pU (by omega)
 have SC:z.cells=r.da.toArray:=by rw[<-KM,Xq]
 have SD:r.da.length=r.size:=(bD.zero F w r).length;have nv:=r.size_pos;simp only[WN]at aV;refine⟨.slice (some ⟨w.heap.size,0,Yw⟩) ca cb,w.alloc (.cells (madeCells z.cells (cb*ti.size)) e),by simp[execOp,hx,hy,aV],λ_=>jB _,⟨λq hq=>?_,(madeCells z.cells (cb*ti.size)).toList.take (ca*r.size),?_,?_⟩,λq hq=>?_⟩
 .simp only[aN,Xh,WL]at hq;intro e;have:=hs.lt _ e;omega
 .have hle:ca*r.size<=cb*r.size:=W1 _ (by omega);have KX:=size_madeCells z.cells (cb*ti.size);refine iS.of ⟨by rw[XE,Array.length_toList,KX,ir,XN hle];simp, .inr ⟨w.heap.size,cb,madeCells z.cells (cb*ti.size),by simp,Nat.zero_le _,heap_alloc_new w _,by simp;omega,by simp[maxLen];omega,by rw[KX,ir],by simp⟩⟩
 .intro i av;simp only[WN,List.length_replicate]at av;have hle:(i+1)*r.size<=ca*r.size:=W1 _ av;rw[Xu]at hle;rw[List.drop_take,List.take_take,XN (by omega)];rw[ir,SC,<-SD,Dm _ _ _ (by omega) (by omega)];simpa using bD.zero F _ r
 .simp only[aN,Xh,WL]at hq;omega
theorem vz{e t:TypeId}{r:Row}{a b:Int}(ht:P.underlying t=some (.slice e))(su:TI P e r)(hs:ak U H F w ob n){ka kb:IntKind}{x y:Operand}(hx:ev ρ x= .int ka a)(hy:ev ρ y= .int kb b)(h0:0<=a)(h1:a<=b)(h2:b<=4294967296):
 bw P U H F w ρ ob n ⟨some d, .makeSlice t x y,ty,pos,aft,Yw⟩ {dst:= .val Yy (.own n),make:=[(n,(n, .own e r (Xb a.toNat r.zero)))]}:=by
 obtain⟨v,w',aV,aU,cS,qv⟩:=sy (d:=d) (ty:=ty) (pos:=pos) (aft:=aft) ht su hs hx hy h0 h1 h2;exact bj.val aV (oq hs (aU _) cS λq hq=> .inr (qv q hq))
def qw(T:aF P)(n:Nat)(t:TypeId)(same:Bool)(a b:Int)(k:cI->Option R):Option R:=
 match find T.und t with
 |some (.slice e)=>match find T.row e with
  |some r=>(bif same then sf a r.zero else Ni a b r.zero).bind λl=>k {dst:= .val Yy (.own n),make:=[(n,(n, .own e r l))]}
  |none=>Yw
 |_=>Yw
theorem sz{x y:Operand}(h:kX x y=Yx){a b:Int}{ka kb:IntKind}(hx:ev ρ x= .int ka a)(hy:ev ρ y= .int kb b):a=b:=by
 unfold kX at h;split at h
 .obtain rfl:=beq_true h;rw[hx]at hy;cases hy;rfl
 .simp only[ev,Value.int.injEq]at hx hy;have:=YC h;omega
 .cases h
theorem vA(T:aF P){t:TypeId}{a b:Int}{ka kb:IntKind}{x y:Operand}{k:cI->Option R}{q:R}(h:qw T n t (kX x y) a b k=some q)(hs:ak U H F w ob n)(hx:ev ρ x= .int ka a)(hy:ev ρ y= .int kb b):
 ∃e,k e=some q/\bw P U H F w ρ ob n ⟨some d, .makeSlice t x y,ty,pos,aft,Yw⟩ e:=by
 unfold qw at h;split at h
 case h_2=>cases h
 rename_i e hu;split at h
 case h_2=>cases h
 rename_i r hr;obtain⟨l,hl,hk⟩:=bind_some h;have su:=T.row_ok _ _ hr;have ht:=T.und_ok _ _ hu
 cases DO:kX x y with
 |true=>
  rw[DO,cond_true]at hl;unfold sf at hl;split at hl
  case isFalse=>cases hl
  rename_i hc;obtain rfl:=WD hl;obtain rfl:=sz DO hx hy;exact⟨_,hk,vz ht su hs hx hy hc.1 (Int.le_refl _) hc.2⟩
 |false=>
  rw[DO,cond_false]at hl;unfold Ni at hl;split at hl
  case isFalse=>cases hl
  rename_i hc;obtain rfl:=WD hl;exact⟨_,hk,vz ht su hs hx hy hc.1 hc.2.1 hc.2.2⟩
def N0(ob:Nat->Option (Nat×Th))(r:Row)(D:ag):Option (List r.den):=
 match pJ ob D with
 |some (.read s l)=>if h:s.beq r=Yx then some (ff (r:= .slice s) (s:= .slice r) (YH Row.slice (Row.eq_of_beq h)) l)else Yw
 |some (.own _ _ _ s l)=>if h:s.beq r=Yx then some (ff (r:= .slice s) (s:= .slice r) (YH Row.slice (Row.eq_of_beq h)) l)else Yw
 |some .nil=>some []
 |some (.view ..)=>Yw
 |some (.deep ..)=>Yw
 |none=>Yw
theorem IR(hs:ak U H F w ob n){r:Row}{D:ag}{l:List r.den}{v:Value}(h:N0 ob r D=some l)(hd:af H F w D v):Reads F w r v l:=by
 unfold N0 at h;split at h
 .rename_i s m eA;split at h
  case isFalse=>cases h
  rename_i hb;obtain rfl:=Row.eq_of_beq hb;obtain rfl:=WD h;exact bD.reads (eQ hs eA hd)
 .rename_i o s0 T s m eA;split at h
  case isFalse=>cases h
  rename_i hb;obtain rfl:=Row.eq_of_beq hb;obtain rfl:=WD h;exact(eQ hs eA hd).2.2.reads
 .rename_i eA;obtain rfl:=WD h;have:v=_:=eQ hs eA hd;subst this;exact(bD.nil F w r).reads
 .cases h
 .cases h
 .cases h
def nD:DH->Int
 | .read _ l=>(l.length:Int)
 | .own _ _ _ _ l=>(l.length:Int)
 | .nil=>0
 | .view _ _ _ l=>(l.length:Int)
 | .deep _ _ _ _ l _=>(l.length:Int)
theorem DP{v:Value}{k:DH}(h:GG U H F w ob v k):∃A m cap,v= .slice A m cap/\nD k=(m:Int):=by
 cases k with
 |read r l=>
  obtain⟨A,cap,e,_⟩:=bD.xI h;exact⟨A,_,cap,e,rfl⟩
 |own o s T r l=>
  obtain⟨A,cap,e,_⟩:=h.2.2.reads;exact⟨A,_,cap,e,rfl⟩
 |nil=>exact⟨Yw,0,0,h,rfl⟩
 |view o s r m=>
  obtain⟨A,cap,T,l,a,b,_,_,h3,h4,rfl,rfl⟩:=h;refine⟨_,_,_,rfl,?_⟩;simp only[nD,List.length_drop,XE,XN h4]
 |deep o s T d l hh=>
  obtain⟨lh,_,⟨xs,xy,_⟩,Km,_⟩:=h.2.2.ok
  rcases xy.2 with⟨Bi,h0⟩|⟨g,o0,cap,cur,tR,_,_,_⟩
  .exact⟨Yw,0,0,Bi,by simp only[nD];omega⟩
  .exact⟨_,_,_,tR,by simp only[nD];omega⟩
def Bn(T:aF P)(ob:Nat->Option (Nat×Th))(t:TypeId)(D:ag):Option ag:=
 match find T.und t with
 |some (.slice _)=>match pJ ob D with
  |some k=>some (iB .i64 (nD k))
  |none=>Yw
 |some .str=>match vq D with
  |some s=>some (iB .i64 (s.size:Int))
  |none=>Yw
 |_=>Yw
theorem zO(T:aF P){t:TypeId}{D D':ag}{x:Operand}(h:Bn T ob t D=some D')(hs:ak U H F w ob n)(hx:af H F w D (ev ρ x)):
 bw P U H F w ρ ob n ⟨some d, .call {callee:= .builtin .len,args:= #[x],argTypes:= #[t]},ty,pos,aft,Yw⟩ {dst:=D'}:=by
 unfold Bn at h;split at h
 .rename_i e hu;split at h
  case h_2=>cases h
  rename_i k hk;obtain rfl:=WD h;obtain⟨A,m,cap,e1,e2⟩:=DP (eQ hs hk hx);rw[e2];exact ay hs (Dk rfl (T.und_ok _ _ hu) e1) (au.fx ..)
 .rename_i hu;split at h
  case h_2=>cases h
  rename_i s hk;obtain rfl:=WD h;exact ay hs (AU (T.und_ok _ _ hu) (qp hk hx)) (au.fx ..)
 .cases h
def lN(T:aF P)(ob:Nat->Option (Nat×Th))(n:Nat)(t:TypeId)(X Y:ag)(k:cI->Option R):Option R:=
 match find T.und t with
 |some (.slice e)=>match find T.row e with
  |some r=>match N0 ob r Y with
   |some m=>match pJ ob X with
    |some .nil=>(bW ([]:List r.den) m).bind λl=>k {dst:= .val Yy (.own n),make:=[(n,(n, .own e r l))]}
    |some (.own o _ T0 s l0)=>bif WI T0 e then
      (if h:s.beq r=Yx then(bW (ff (r:= .slice s) (s:= .slice r) (YH Row.slice (Row.eq_of_beq h)) l0) m).bind λl=>k {dst:= .val Yy (.own n),eat:=[o],make:=[(n,(n, .own e r l))]}else Yw)else Yw
    |_=>Yw
   |none=>Yw
  |none=>Yw
 |_=>Yw
theorem xX(T:aF P){t:TypeId}{X Y:ag}{x y:Operand}{k:cI->Option R}{q:R}(h:lN T ob n t X Y k=some q)(hs:ak U H F w ob n)(hx:af H F w X (ev ρ x))(hy:af H F w Y (ev ρ y)):
 ∃e,k e=some q/\bw P U H F w ρ ob n ⟨some d, .call {callee:= .builtin .append,args:= #[x,y],argTypes:= #[t,t]},ty,pos,aft,Yw⟩ e:=by
 unfold lN at h;split at h
 case h_2=>cases h
 rename_i e hu;split at h
 case h_2=>cases h
 rename_i r hr;obtain⟨ti,z,h1,h2,h3,h4,h5⟩:=T.row_ok _ _ hr;have ht:=T.und_ok _ _ hu;split at h
 case h_2=>cases h
 rename_i m hm;have dg:=IR hs hm hy
 have key:∀{l out:List r.den},e7 0 F w e r (ev ρ x) l->bW l m=some out->∃v' w',(execOp (ev ρ) ⟨some d, .call {callee:= .builtin .append,args:= #[x,y],argTypes:= #[t,t]},ty,pos,aft,Yw⟩).run P w= .ok (.value v') w'/\Ext (aN (ev ρ x)) w w'/\e7 0 F w' e r v' out/\(∀k,aN v' k->aN (ev ρ x) k\/w.heap.size<=k):=by
  intro l out ho ha;obtain⟨v',w',aV,he,fZ,NW⟩:=qh ty ht h1 h2 h3 h4 h5 ho dg ha hs.lt (Nat.zero_le _);refine⟨v',w',by simp[execOp,resolve,invoke,builtin,aV],he,fZ,λk hk=>?_⟩
  rcases NW with g|g
  .exact .inl (g▸hk)
  .rw[g]at hk;exact .inr (by omega)
 split at h
 .rename_i eA;obtain⟨l,hl,hk⟩:=bind_some h;have hv:ev ρ x=_:=eQ hs eA hx;obtain⟨v',w',aV,he,fZ,hn⟩:=key (by rw[hv];exact e7.nil 0 F w e r) hl
  have no:∀k,¬aN (ev ρ x) k:=λk hk=>by rw[hv]at hk;simp[aN,Xh]at hk
  exact⟨_,hk,bj.val aV (oq hs ⟨he.os,he.tape,he.output,he.size,λk hk _=>he.block k hk (no k)⟩ fZ λk hk=>(hn k hk).imp (λh=>absurd h (no k)) id)⟩
 .rename_i o s0 T0 s l0 eA;obtain⟨hb,h⟩:=ax h;obtain rfl:=beq_true hb;split at h
  case isFalse=>cases h
  rename_i vy;obtain rfl:=Row.eq_of_beq vy;obtain⟨l,hl,hk⟩:=bind_some h;obtain⟨hv,bH,cS⟩:=eQ hs eA hx;obtain⟨v',w',aV,he,fZ,hn⟩:=key cS hl
  have dZ:∀k,aN (ev ρ x) k->bn H ob [o] k:=λk hk=>⟨o,by simp,_,_,_,bH,hv,hk⟩
  exact⟨_,hk,bj.val aV (oq hs ⟨he.os,he.tape,he.output,he.size,λk hk xz=>he.block k hk λhm=>xz (dZ k hm)⟩ fZ λk hk=>(hn k hk).imp (dZ k) id)⟩
 .cases h
def vB(ob:Nat->Option (Nat×Th))(r:Row):List ag->Option (List r.den)
 |[]=>some []
 | .val _ u::l=>match flat ob r u with
   |some x=>match vB ob r l with
    |some xs=>some (x::xs)
    |none=>Yw
   |none=>Yw
 |_::_=>Yw
def nE(rd:Operand->Option ag):List Operand->Option (List ag)
 |[]=>some []
 |x::xs=>match rd x with
  |some d=>match nE rd xs with
   |some ds=>some (d::ds)
   |none=>Yw
  |none=>Yw
def dp(H:ai)(F:Nat->Prop)(w:World):List ag->List Value->Prop
 |[],vs=>vs=[]
 |d::ds,vs=>∃v us,vs=v::us/\af H F w d v/\dp H F w ds us
theorem jC{rd:Operand->Option ag}(h:∀x d,rd x=some d->af H F w d (ev ρ x)):{xs:List Operand}->{ds:List ag}->nE rd xs=some ds->dp H F w ds (xs.map (ev ρ))
 |[],ds,e=>by obtain rfl:=WD e;rfl
 |x::xs,ds,e=>by
  unfold nE at e
  cases h1:rd x with
  |none=>rw[h1]at e;cases e
  |some d=>
   cases h2:nE rd xs with
   |none=>simp only[h1,h2]at e;cases e
   |some Nj=>
    simp only[h1,h2,WL]at e;subst e;exact⟨_,_,rfl,h _ _ h1,jC h h2⟩
theorem vC(hs:ak U H F w ob n){r:Row}:{ds:List ag}->{l:List r.den}->{vs:List Value}->vB ob r ds=some l->dp H F w ds vs->qi F w r vs l
 |[],l,vs,e,h=>by
  obtain rfl:=WD e;rw[show vs=[]from h];exact .nil
 | .val _ u::ds,l,vs,e,h=>by
   obtain⟨v,us,rfl,h1,h2⟩:=h;unfold vB at e
   cases hf:flat ob r u with
   |none=>rw[hf]at e;cases e
   |some x=>
    cases hg:vB ob r ds with
    |none=>simp only[hf,hg]at e;cases e
    |some xs=>
     simp only[hf,hg,WL]at e;subst e;obtain⟨cs,mH,sx⟩:=au.cells h1;exact .cons sx (dS hs hf mH) (vC hs hg h2)
 | .dead::_,_,_,e,_=>by cases e
 | .undef::_,_,_,e,_=>by cases e
 | .ptr .. ::_,_,_,e,_=>by cases e
 | .at .. ::_,_,_,e,_=>by cases e
 | .elem .. ::_,_,_,e,_=>by cases e
 | .tup _::_,_,_,e,_=>by cases e
 | .dlm .. ::_,_,_,e,_=>by cases e
theorem qx{e t:TypeId}{r:Row}{xs:List Operand}{l:List r.den}{parts:Array (Nat×Operand)}(ht:P.underlying t=some (.slice e))(su:TI P e r)(cA:parts=((xs.zipIdx).map λp=>(p.2,p.1)).toArray)(DO:xs.length*r.size<=16777216)
 (hl:qi F w r (xs.map (ev ρ)) l)(hs:ak U H F w ob n):
 ∃v w',(execOp (ev ρ) ⟨some d, .buildSlice t xs.length parts,ty,pos,aft,Yw⟩).run P w= .ok (.value v) w'/\(∀g,Ext g w w')/\e7 0 F w' e r v l/\∀k,aN v k->w.heap.size<=k:=by
 obtain⟨ti,z,h1,h2,h3,h4,h5⟩:=su
 have SE:(xs.map (ev ρ)).length=xs.length:=by simp
 have Km:=hl.length;have nv:=r.size_pos
 have KL:z.cells.size=r.size:=by rw[<-(bD.zero F w r).length,<-h3];simp
 have nF:(parts.map λ(i,q)=>(i,ev ρ q)).toList=((xs.map (ev ρ)).zipIdx).map λp=>(p.2,p.1):=by
  subst cA;simp[List.zipIdx_map,Function.comp_def]
 generalize hm:xs.length=m at*;generalize xs.map (ev ρ)=vs at*
 have key:∀zz:Array Value,zz.size=m*r.size->∃xC:List Value,Yl (λi=>some (i*r.size,r.size)) zz ((vs.zipIdx).map λp=>(p.2,p.1))=some xC.toArray/\xC.length=l.length*r.size/\∀i(hi:i<l.length),bD F w r ((xC.drop (i*r.size)).take r.size) l[i]:=by
  intro zz KY;obtain⟨xC,a1,a2,a3⟩:=hl.fill 0 [] zz.toList (by simp) (by rw[Array.length_toList,KY,SE]);exact⟨xC,by simpa using a1,a2,a3⟩
 have aV:∃xC:List Value,(execOp (ev ρ) ⟨some d, .buildSlice t m parts,ty,pos,aft,Yw⟩).run P w= .ok (.value (.slice (some ⟨w.heap.size,0,Yw⟩) m m)) (w.alloc (.cells xC.toArray e))/\xC.length=l.length*r.size/\∀i(hi:i<l.length),bD F w r ((xC.drop (i*r.size)).take r.size) l[i]:=by
  by_cases h0:m*r.size=0
  .obtain⟨xC,a1,a2,a3⟩:=key #[] (by simp[h0]);refine⟨xC,?_,a2,a3⟩;simp only[execOp,Instr.buildSlice,Xd,run_underlying ht,Xp];rw[nF]
   have N1:Array.range 0=(#[]:Array Nat):=by rfl
   simp[sizeOf,typeInfo,h1,h4,h0,newRow,N1,a1]
  .obtain⟨xC,a1,a2,a3⟩:=key ((Array.range (m*r.size)).map (z.cells[· %z.cells.size]!)) (by simp);refine⟨xC,?_,a2,a3⟩;simp only[execOp,Instr.buildSlice,Xd,run_underlying ht,Xp];rw[nF];simp[sizeOf,typeInfo,h1,h4,h0,zeroValue,h2,newRow,a1,show¬(16777216<m*r.size)from by omega]
 obtain⟨xC,aV,a2,a3⟩:=aV
 have Ge:m=l.length:=by omega
 have SF:m<=16777216:=Xa (Nat.le_mul_of_pos_right m nv) DO;refine⟨_,_,aV,λg=>jB _,⟨λk hk=>?_,xC,?_,λi hi=>(a3 i hi).step (Step.alloc hs.lt _)⟩,λk hk=>?_⟩
 .simp only[aN,Xh,WL]at hk;intro e;have:=hs.lt _ e;omega
 .have:=World.ownsRow_lit (base:=0) (e:=e) (size:=r.size) w xC.toArray m (Nat.zero_le _) (by simp[maxLen];omega) (by simp[a2,Ge]);rw[Ge]at this⊢;simpa using iS.of this
 .simp only[aN,Xh,WL]at hk;omega
theorem run_build{e t:TypeId}{r:Row}{xs:List Operand}{l:List r.den}{parts:Array (Nat×Operand)}(ht:P.underlying t=some (.slice e))(su:TI P e r)(cA:parts=((xs.zipIdx).map λp=>(p.2,p.1)).toArray)(DO:xs.length*r.size<=16777216)
 (hl:qi F w r (xs.map (ev ρ)) l)(hs:ak U H F w ob n):
 bw P U H F w ρ ob n ⟨some d, .buildSlice t xs.length parts,ty,pos,aft,Yw⟩ {dst:= .val Yy (.own n),make:=[(n,(n, .own e r l))]}:=by
 obtain⟨v,w',h1,h2,h3,h4⟩:=qx (d:=d) (ty:=ty) (pos:=pos) (aft:=aft) ht su cA DO hl hs;exact bj.val h1 (oq hs (h2 _) h3 λk hk=> .inr (h4 k hk))
def zP:Nat->List (Nat×Operand)->Bool
 |_,[]=>Yx
 |k,p::l=>WI p.1 k&&zP (k+1) l
theorem qy:{k:Nat}->{l:List (Nat×Operand)}->zP k l=Yx->l=((l.map (·.2)).zipIdx k).map λp=>(p.2,p.1)
 |_,[],_=>rfl
 |k,p::l,h=>by
  obtain⟨h1,h2⟩:=bC h;have h1:=beq_true h1;have ih:=qy h2;obtain⟨a,b⟩:=p;subst h1;rw[List.map_cons,List.zipIdx_cons,List.map_cons,<-ih]
def fA(T:aF P)(rd:Operand->Option ag)(ob:Nat->Option (Nat×Th))(n:Nat)(t:TypeId)(m:Nat)(parts:Array (Nat×Operand))(k:cI->Option R):Option R:=
 match find T.und t with
 |some (.slice e)=>match find T.row e with
  |some r=>bif zP 0 parts.toList&&WI m parts.toList.length&&Nat.ble (m*r.size) 16777216 then
    (match nE rd (parts.toList.map (·.2))with
    |some ds=>match vB ob r ds with
     |some l=>k {dst:= .val Yy (.own n),make:=[(n,(n, .own e r l))]}
     |none=>Yw
    |none=>Yw)else Yw
  |none=>Yw
 |_=>Yw
theorem qz(T:aF P){rd:Operand->Option ag}(dg:∀x d,rd x=some d->af H F w d (ev ρ x)){t:TypeId}{m:Nat}{parts:Array (Nat×Operand)}{k:cI->Option R}{q:R}(h:fA T rd ob n t m parts k=some q)(hs:ak U H F w ob n):
 ∃e,k e=some q/\bw P U H F w ρ ob n ⟨some d, .buildSlice t m parts,ty,pos,aft,Yw⟩ e:=by
 unfold fA at h;split at h
 case h_2=>cases h
 rename_i e hu;split at h
 case h_2=>cases h
 rename_i r hr;obtain⟨h1,h⟩:=ax h;obtain⟨h1,h3⟩:=bC h1;obtain⟨h1,h2⟩:=bC h1;have h2:=beq_true h2
 have h3:m*r.size<=16777216:=by simpa using h3
 split at h
 case h_2=>cases h
 rename_i ds p4;split at h
 case h_2=>cases h
 rename_i l hl;have KZ:=vC hs hl (jC dg p4)
 have hp:parts=(((parts.toList.map (·.2)).zipIdx).map λp=>(p.2,p.1)).toArray:=by
  rw[<-qy h1,Xq]
 have hm:m=(parts.toList.map (·.2)).length:=by simpa using h2
 refine⟨_,h,?_⟩;have:=run_build (d:=d) (ty:=ty) (pos:=pos) (aft:=aft) (T.und_ok _ _ hu) (T.row_ok _ _ hr) hp (by rw[<-hm];exact h3) KZ hs;rw[<-hm]at this;exact this
def zQ{P:Program}(T:aF P)(fs:List (TypeId×Nat)):Tree->List (Nat×ag)->Option Tree
 |t,[]=>some t
 |t,(f, .val _ u)::l=>match t.get (nB fs.length f)with
  |some (s,off)=>match fs[f]? with
   |some (ft,cC)=>bif WI off cC&&WI u.size s.size&&(match find T.row ft with|some r=>WI r.size u.size|none=>Yy)then
     (match t.put (nB fs.length f) u with
     |some t'=>zQ T fs t' l
     |none=>Yw)else Yw
   |none=>Yw
  |none=>Yw
 |_,_::_=>Yw
def p5(T:aF P):List (TypeId×Nat)->Bool
 |[]=>Yx
 |p::fs=>(match find T.row p.1 with|some _=>Yx|none=>Yy)&&p5 T fs
def place(T:aF P)(fs:List (TypeId×Nat))(i:Nat):Option (Nat×Nat):=
 match fs[i]? with
 |some (ft,off)=>match find T.row ft with
  |some r=>some (off,r.size)
  |none=>Yw
 |none=>Yw
theorem qA(T:aF P):{l:List Field}->{fs:List (TypeId×Nat)}->l.map (λf=>(f.type,f.offset))=fs->p5 T fs=Yx->
 ∃pl:List (Nat×Nat),(l.mapM λ(f:Field)=>(do pure (f.offset,<-sizeOf f.type):Sem (Nat×Nat))).run P w= .ok pl w/\∀i,pl[i]? =place T fs i
 |[],fs,h,_=>by
  subst h;exact⟨[],by simp,λi=>by simp[place]⟩
 |f::l,fs,h,hz=>by
  subst h;obtain⟨h1,h2⟩:=bC hz;obtain⟨pl,K0,Gf⟩:=qA T (l:=l) rfl h2
  cases hr:find T.row f.type with
  |none=>rw[hr]at h1;cases h1
  |some r=>
   obtain⟨ti,z,g1,_,_,g4,_⟩:=T.row_ok _ _ hr;refine⟨(f.offset,r.size)::pl,?_,λi=>?_⟩
   .have xB:(sizeOf f.type).run P w= .ok r.size w:=by simp[sizeOf,typeInfo,g1,g4]
    rw[List.mapM_cons];simp only[Xd,xB,Sem.run_pure,Xp,K0]
   .cases i with
    |zero=>simp[place,hr]
    |succ i=>simpa[place]using Gf i
end
end
section
section
variable {P:Program} {ρ:Nat->Value} {w w':World} {H H':ai} {F F':Nat->Prop} {U:Nat->Prop} {ob:Nat->Option (Nat×Th)} {n:Nat} {R:Type}
variable {op:Op} {ty:TypeId} {pos:String} {aft:Array Edge} {d:Nat}
theorem vD(T:aF P){fs:List (TypeId×Nat)}{pl:List (Nat×Nat)}(hz:p5 T fs=Yx)(Gg:∀i,pl[i]? =place T fs i)(ir:∀ft off r,(ft,off)∈fs->find T.row ft=some r->True):
 {parts:List (Nat×ag)}->{t t':Tree}->{cs:List Value}->{vs:List (Nat×Value)}->zQ T fs t parts=some t'->Holds H F w t cs->parts.map (·.1)=vs.map (·.1)->dp H F w (parts.map (·.2)) (vs.map (·.2))->
 ∃mI,Yl (pl[·]?) cs.toArray vs=some mI.toArray/\Holds H F w t' mI
 |[],t,t',cs,vs,h,hh,h1,h2=>by
  obtain rfl:=WD h
  have:vs=[]:=by simpa using h1.symm
  subst this;exact⟨cs,by simp[Yl],hh⟩
 |(f, .val agg u)::parts,t,t',cs,vs,h,hh,h1,h2=>by
  obtain⟨v,us,e,hv,h3⟩:=h2
  cases vs with
  |nil=>simp at e
  |cons fv vs=>
   obtain⟨f',v'⟩:=fv;simp only[List.map_cons,XT]at h1 e;obtain⟨rfl,h1⟩:=h1;obtain⟨rfl,rfl⟩:=e;unfold zQ at h;split at h
   case h_2=>cases h
   rename_i s off hg;split at h
   case h_2=>cases h
   rename_i ft cC hf;obtain⟨hb,h'⟩:=ax h;clear h;obtain⟨hb,K2⟩:=bC hb;obtain⟨CX,Ko⟩:=bC hb;have CX:=beq_true CX;subst CX;have Ko:=beq_true Ko;split at h'
   case h_2=>cases h'
   rename_i tp hp;obtain⟨c1,rL,sx⟩:=au.cells hv;have hl:=rL.length;have hle:=(hh.get hg).2
   cases hr:find T.row ft with
   |none=>simp only[hr]at K2;cases K2
   |some r=>
    simp only[hr]at K2;have K2:=beq_true K2
    have IS:pl[f]? =some (off,r.size):=by rw[Gg];simp[place,hf,hr]
    rw[oe IS sx (by omega) (by omega)];have mL:=Holds.put rL hg hp Ko.symm hh;rw[show u.size=r.size from by omega]at mL;exact vD T hz Gg ir h' mL h1 h3
 |(_, .dead)::_,_,_,_,_,h,_,_,_=>by cases h
 |(_, .undef)::_,_,_,_,_,h,_,_,_=>by cases h
 |(_, .ptr ..)::_,_,_,_,_,h,_,_,_=>by cases h
 |(_, .at ..)::_,_,_,_,_,h,_,_,_=>by cases h
 |(_, .elem ..)::_,_,_,_,_,h,_,_,_=>by cases h
 |(_, .tup _)::_,_,_,_,_,h,_,_,_=>by cases h
 |(_, .dlm ..)::_,_,_,_,_,h,_,_,_=>by cases h
def ot(T:aF P)(rd:Operand->Option ag)(t:TypeId)(parts:Array (Nat×Operand))(k:cI->Option R):Option R:=
 match find T.und t with
 |some (.struct fs)=>match find T.row t with
  |some r=>bif p5 T fs then
    (match nE rd (parts.toList.map (·.2))with
    |some ds=>match zQ T fs r.vw ((parts.toList.map (·.1)).zip ds)with
     |some tr=>k {dst:= .val Yx tr}
     |none=>Yw
    |none=>Yw)else Yw
  |none=>Yw
 |_=>Yw
theorem fM:{ds:List ag}->{vs:List Value}->dp H F w ds vs->ds.length=vs.length
 |[],_,h=>by rw[show _=[]from h];rfl
 |_::_,_,h=>by obtain⟨v,us,rfl,_,h2⟩:=h;simp[fM h2]
theorem Bo(T:aF P){rd:Operand->Option ag}(dg:∀x d,rd x=some d->af H F w d (ev ρ x)){t:TypeId}{parts:Array (Nat×Operand)}{k:cI->Option R}{q:R}(h:ot T rd t parts k=some q)(hs:ak U H F w ob n):
 ∃e,k e=some q/\bw P U H F w ρ ob n ⟨some d, .build t parts,ty,pos,aft,Yw⟩ e:=by
 unfold ot at h;split at h
 case h_2=>cases h
 rename_i fs hu;obtain⟨arr,CV,GF⟩:=T.und_ok _ _ hu;split at h
 case h_2=>cases h
 rename_i r hr;obtain⟨ti,z,h1,h2,h3,h4,h5⟩:=T.row_ok _ _ hr;obtain⟨hz,h⟩:=ax h;split at h
 case h_2=>cases h
 rename_i ds p4;split at h
 case h_2=>cases h
 rename_i tr K3;have hd:=jC (w:=w) (H:=H) (F:=F) (ρ:=ρ) dg p4;have hlen:=fM hd;obtain⟨pl,K0,Gf⟩:=qA (w:=w) T GF hz
 have hn:∀(a:List Nat)(b:List ag),a.length=b.length->(a.zip b).map (·.1)=a/\(a.zip b).map (·.2)=b:=λa b N2=>⟨List.map_fst_zip (by omega),List.map_snd_zip (by omega)⟩
 have K4:=hn (parts.toList.map (·.1)) ds (by simp at hlen⊢;omega);obtain⟨mI,hf,hh⟩:=vD (w:=w) (H:=H) (F:=F) T hz Gf (λ_ _ _ _ _=>trivial) (vs:=parts.toList.map λ(i,q)=>(i,ev ρ q)) K3 (Row.iY H F w r) (by rw[K4.1];simp[Function.comp_def]) (by rw[K4.2];simpa[Function.comp_def]using hd);refine⟨_,h,aS hs (v:= .agg mI.toArray) ?_ ⟨mI,hh,rfl,by simp⟩⟩
 have SG:z.cells=r.da.toArray:=by rw[<-h3,Xq]
 have Bp:(arr.mapM λ(f:Field)=>(do pure (f.offset,<-sizeOf f.type):Sem (Nat×Nat))).run P w= .ok pl.toArray w:=by
  rw[<-Xq (xs:=arr),List.mapM_toArray];simp only[Sem.run_map,K0];rfl
 have SH:(parts.map λ(i,q)=>(i,ev ρ q)).toList=parts.toList.map λ(i,q)=>(i,ev ρ q):=by simp
 have N3:(λ(x:Nat)=>pl.toArray[x]?)=λx=>pl[x]? :=by funext x;simp
 simp only[execOp,Instr.build,Xd,zeroValue,typeInfo,h1,h2,run_program,Sem.run_pure,Xp,run_underlying CV,SG,SH,Bp,N3,hf]
def GJ(rd:Operand->Option ag):Option Operand->Option (Option Int)
 |none=>some Yw
 |some x=>match rd x with
  |some d=>match asInt d with
   |some (_,i)=>some (some i)
   |none=>Yw
  |none=>Yw
theorem zR{rd:Operand->Option ag}(dg:∀x d,rd x=some d->af H F w d (ev ρ x)){lo:Option Operand}{a:Option Int}(h:GJ rd lo=some a):IQ ρ lo a:=by
 unfold GJ at h;split at h
 .obtain rfl:=WD h;exact .none
 .split at h
  .split at h
   .obtain rfl:=WD h;rename_i hD _ _ _ hi;exact .some (eG hi (dg _ _ hD))
   .cases h
  .cases h
def ou(dr:Bool)(T:aF P)(rd:Operand->Option ag)(ob:Nat->Option (Nat×Th))(n:Nat)(t:TypeId)(D:ag)(lo hi:Option Operand)(k:cI->Option R):Option R:=
 match find T.und t with
 |some (.slice e)=>match find T.row e with
  |some re=>match GJ rd lo with
   |some a=>match GJ rd hi with
    |some b=>match pJ ob D with
     |some (.read r l)=>bif WI r.size re.size then(dQ l (a.getD 0) (b.getD (l.length:Int))).bind λm=>k {dst:= .val Yy (.leaf (.slice r) m)}else Yw
     |some .nil=>(dQ ([]:List re.den) (a.getD 0) (b.getD 0)).bind λ_=>k {dst:= .val Yy .nil}
     |some (.own o s T0 r l)=>bif WI r.size re.size&&WI T0 e&&(lo.isNone||dr)then(dQ l (a.getD 0) (b.getD (l.length:Int))).bind λm=>k {dst:= .val Yy (.own n),eat:=[o],make:=[(n,(n, .own T0 r m))]}
       else bif WI r.size re.size then(dQ l (a.getD 0) (b.getD (l.length:Int))).bind λm=>k {dst:= .val Yy (.view o s r m)}else Yw
     |_=>Yw
    |none=>Yw
   |none=>Yw
  |none=>Yw
 |_=>Yw
theorem Bq{e T0:TypeId}{ti:TypeInfo}{r:Row}{t:TypeId}{x:Operand}{lo hi:Option Operand}{a b:Option Int}{l m:List r.den}{o s:Nat}{v:Value}(ht:P.underlying t=some (.slice e))(h1:P.info? e=some ti)(h4:ti.size=r.size)(hx:ev ρ x=v)
 (hs:ak U H F w ob n)(bH:ob o=some (s, .own T0 r l))(K5:H.val o=some v)(ha:IQ ρ lo a)(hb:IQ ρ hi b)(hm:dQ l (a.getD 0) (b.getD l.length)=some m):
 bw P U H F w ρ ob n ⟨some d, .slice t x lo hi Yw,ty,pos,aft,Yw⟩ {dst:= .val Yy (.own n),eat:=[o],make:=[(n,(n, .own T0 r m))]}:=by
 have hv:=hs.own bH K5;obtain⟨p,q,ep,eq,Ig,hq,rfl⟩:=og hm;obtain⟨A,cap,rfl,hlen,Gy,_⟩:=hv.reads;have aV:=pX (P:=P) (w:=w) (d:=d) (ty:=ty) (pos:=pos) (aft:=aft) ht h1 hx ha hb (by omega) (by omega) (by omega) hlen;rw[ep,eq,WN,WN,h4]at aV;obtain⟨xz,xs,⟨xL,N4⟩,hr⟩:=hv
 have N5:((l.take q).drop p).length=q-p:=by simp;omega
 have hmul:q*r.size<=l.length*r.size:=W1 _ hq;have Re:p*r.size<=q*r.size:=W1 _ Ig;have Rf:(q-p)*r.size=q*r.size-p*r.size:=Nat.sub_mul ..
 have aU:Ext (bn H ob [o]) w w:=⟨rfl,⟨rfl,WH _⟩,rfl,WH _,λ_ _ _=>rfl⟩
 rcases N4 with⟨Bi,h0⟩|⟨g,o0,Dn,cur,eA,pU,hh,VP,VQ,mH,Br⟩
 .simp only[X2]at Bi;obtain⟨rfl,_,rfl⟩:=Bi
  have K6:q=0:=by omega
  subst K6
  obtain rfl:p=0:=by omega
  refine bj.val aV (oq hs aU ?_ ?_)
  .simpa[sliced]using e7.nil 0 F w T0 r
  .intro k hk;simp[sliced,aN,Xh]at hk
 .simp only[X2,true_and]at eA;obtain⟨rfl,rfl⟩:=eA
  obtain⟨o1,kY,SI,K7⟩:∃o1,sliced (some ⟨g,o0,Yw⟩) p q cap r.size= .slice (some ⟨g,o1,Yw⟩) (q-p) (cap-p)/\o1+(cap-p)*r.size<=cur.size/\(cur.toList.drop o1).take ((q-p)*r.size)=(xs.drop (p*r.size)).take ((q-p)*r.size):=by
   have VS:p*r.size<=cap*r.size:=W1 _ (by omega);have SJ:(cap-p)*r.size=cap*r.size-p*r.size:=Nat.sub_mul ..;unfold sliced;by_cases hc:cap=p
   .refine⟨o0,by rw[YB hc],by omega,?_⟩
    have:q=p:=by omega
    subst this;simp
   .refine⟨o0+p*r.size,by rw[YA hc,Option.map_some,bK],by omega,?_⟩;rw[<-Br,List.drop_take,List.take_take,List.drop_drop]
    congr 1
    omega
  rw[kY]at aV
  have Rg:∀k,aN (.slice (some ⟨g,o1,Yw⟩) (q-p) (cap-p)) k->aN (.slice (some ⟨g,o0,Yw⟩) l.length cap) k:=λk hk=>by simpa[aN,Xh]using hk
  refine bj.val aV (oq hs aU ⟨λk hk=>xz k (Rg k hk),(xs.drop (p*r.size)).take ((q-p)*r.size),⟨by rw[N5];simp;omega, .inr ⟨g,o1,cap-p,cur,by rw[N5],pU,hh,by omega,by omega,SI,?_⟩⟩,λi hi=>?_⟩ λk hk=> .inl ⟨o,by simp,_,_,_,bH,K5,Rg k hk⟩)
  .rw[N5];exact K7
  .have SK:i<q-p:=by omega
   have hle:(i+1)*r.size<=(q-p)*r.size:=W1 _ SK;rw[Xu]at hle;have:=hr (p+i) (by omega)
   have hg:((l.take q).drop p)[i]=l[p+i]'(by omega):=by simp
   rw[hg,List.drop_take,List.take_take,XN (by omega),List.drop_drop,show p*r.size+i*r.size=(p+i)*r.size from(Xu ..).symm];exact this
theorem Bt(dr:Bool)(T:aF P){rd:Operand->Option ag}(dg:∀x d,rd x=some d->af H F w d (ev ρ x)){t:TypeId}{D:ag}{x:Operand}{lo hi:Option Operand}{k:cI->Option R}{q:R}(h:ou dr T rd ob n t D lo hi k=some q)(hs:ak U H F w ob n)(hx:af H F w D (ev ρ x)):
 ∃e,k e=some q/\bw P U H F w ρ ob n ⟨some d, .slice t x lo hi Yw,ty,pos,aft,Yw⟩ e:=by
 unfold ou at h;split at h
 case h_2=>cases h
 rename_i e hu;have ht:=T.und_ok _ _ hu;split at h
 case h_2=>cases h
 rename_i re N6;obtain⟨ti,z,h1,_,_,h4,_⟩:=T.row_ok _ _ N6;split at h
 case h_2=>cases h
 rename_i a ha;split at h
 case h_2=>cases h
 rename_i b hb;have Nk:=zR (w:=w) (H:=H) (F:=F) (ρ:=ρ) dg ha;have pU:=zR (w:=w) (H:=H) (F:=F) (ρ:=ρ) dg hb
 have IT:∀{r:Row}{l m:List r.den},bD F w (.slice r) [ev ρ x] l->r.size=re.size->dQ l (a.getD 0) (b.getD (l.length:Int))=some m->bw P U H F w ρ ob n ⟨some d, .slice t x lo hi Yw,ty,pos,aft,Yw⟩ {dst:= .val Yy (.leaf (.slice r) m)}:=by
  intro r l m hv hz hm;obtain⟨p,q',ep,eq,Ig,hq,rfl⟩:=og hm;have cM:=hv;obtain⟨A,cap,he,hc,DQ,_⟩:=hv;simp only[XT,and_true]at he;have aV:=pX (P:=P) (w:=w) (d:=d) (ty:=ty) (pos:=pos) (aft:=aft) ht h1 he Nk pU (by omega) (by omega) (by omega) hc;rw[ep,eq,WN,WN,h4,<-hz]at aV;rw[he]at cM;exact aS hs aV (au.iX (cM.cut Ig hq))
 split at h
 .rename_i r l eA;obtain⟨hz,h⟩:=ax h;obtain⟨m,hm,hk⟩:=bind_some h;exact⟨_,hk,IT (eQ hs eA hx) (beq_true hz) hm⟩
 .rename_i eA;obtain⟨m,hm,hk⟩:=bind_some h;have hv:ev ρ x=_:=eQ hs eA hx;unfold dQ at hm;split at hm
  case isFalse=>cases hm
  rename_i hc
  have ea:a.getD 0=0:=by have:=hc.2.1;have:=hc.2.2;simp at this;omega
  have eb:b.getD ((0:Nat):Int)=0:=by have:=hc.2.1;have:=hc.2.2;simp at this⊢;omega
  have aV:=pX (P:=P) (w:=w) (d:=d) (ty:=ty) (pos:=pos) (aft:=aft) ht h1 hv Nk pU (by omega) (by omega) (by omega) (WH _);rw[ea,eb]at aV;exact⟨_,hk,aS hs aV ⟨_,rfl,rfl,λ_=>rfl⟩⟩
 .rename_i o s T0 r l eA;obtain⟨hv,bH,cS⟩:=eQ hs eA hx
  cases N7:(WI r.size re.size&&WI T0 e&&(lo.isNone||dr))with
  |true=>
   rw[N7,cond_true]at h;obtain⟨xB,VT⟩:=bC N7;obtain⟨xA,hT⟩:=bC xB;have KY:=beq_true xA;obtain⟨m,hm,hk⟩:=bind_some h;exact⟨_,hk,Bq ht h1 (h4.trans KY.symm) rfl hs bH hv Nk pU hm⟩
  |false=>
   rw[N7,cond_false]at h;obtain⟨xA,h'⟩:=ax h;clear h;have KY:=beq_true xA;obtain⟨m,hm,hk⟩:=bind_some h';obtain⟨p,q',ep,eq,Ig,hq,rfl⟩:=og hm;obtain⟨A,cap,he,hc,DQ,_⟩:=cS.reads;have aV:=pX (P:=P) (w:=w) (d:=d) (ty:=ty) (pos:=pos) (aft:=aft) ht h1 he Nk pU (by omega) (by omega) (by omega) hc;rw[ep,eq,WN,WN,h4,<-KY]at aV;obtain⟨v',cM,bF⟩:=hs.obj _ _ _ bH;refine⟨_,hk,aS hs aV ⟨_,⟨_,rfl,A,cap,T0,l,p,q',by rw[hv,he],bF.con,Ig,hq,rfl,rfl⟩,rfl,λ_=>rfl⟩⟩
 .cases h
noncomputable def IU(T:aF P)(ob:Nat->Option (Nat×Th))(o:BinOp)(t:TypeId)(X Y:ag):Option ag:=
 match X,Y with
 | .val Yy (.leaf .bool a), .val Yy (.leaf .bool b)=>match find T.und t with
   |some .bool=>match o with
    | .eql=>some (cG (decide (a=b)))
    | .neq=>some (cG (!decide (a=b)))
    |_=>Yw
   |_=>Yw
 | .val Yy (.leaf .str a), .val Yy (.leaf .str b)=>match o with
   | .eql=>some (cG (decide (a=b)))
   | .neq=>some (cG (!decide (a=b)))
   |_=>Yw
 | .val Yx u, .val Yx v=>match find T.eqs t with
   |some r=>match flat ob r u with
    |some x=>match flat ob r v with
     |some y=>match o with
      | .eql=>some (cG (jY r x y))
      | .neq=>some (cG (!(jY r x y)))
      |_=>Yw
     |none=>Yw
    |none=>Yw
   |none=>Yw
 |_,_=>Yw
theorem GK(T:aF P){o:BinOp}{t u:TypeId}{X Y D:ag}{x y:Operand}(h:IU T ob o t X Y=some D)(hs:ak U H F w ob n)(hx:af H F w X (ev ρ x))(hy:af H F w Y (ev ρ y)):
 bw P U H F w ρ ob n ⟨some d, .binOp o t x y u,ty,pos,aft,Yw⟩ {dst:=D}:=by
 unfold IU at h;split at h
 .rename_i a b;split at h
  case h_2=>cases h
  rename_i hu;have hu:=T.und_ok _ _ hu;have ha:ev ρ x= .bool a:=au.bool hx;have hb:ev ρ y= .bool b:=au.bool hy
  split at h<;>cases h
  .exact ay hs (AP hu ha hb) (au.dv ..)
  .exact ay hs (AQ hu ha hb) (au.dv ..)
 .rename_i a b;have ha:ev ρ x= .string a:=au.str hx;have hb:ev ρ y= .string b:=au.str hy
  split at h<;>cases h
  .exact ay hs (AR ha hb) (au.dv ..)
  .exact ay hs (AS ha hb) (au.dv ..)
 .rename_i u v;split at h
  case h_2=>cases h
  rename_i r hr;obtain⟨K,dd,hE,hd,hg,hD⟩:=T.eqs_ok _ _ hr;split at h
  case h_2=>cases h
  rename_i a ha;split at h
  case h_2=>cases h
  rename_i b hb;obtain⟨c1,g1,e1,_⟩:=hx;obtain⟨c2,g2,e2,_⟩:=hy;have r1:=dS hs ha g1;have r2:=dS hs hb g2
  split at h<;>cases h
  .exact ay hs (A7 hE hd hg hD e1 e2 r1 r2) (au.dv ..)
  .exact ay hs (A8 hE hd hg hD e1 e2 r1 r2) (au.dv ..)
 .cases h
def IV(a b:ByteArray):Option ByteArray:=if a.size+b.size<=9223372036854775807 then some (a++b)else Yw
def xY(o:BinOp)(X Y:ag):Option (ByteArray×ByteArray):=
 match o,X,Y with
 | .add, .val Yy (.leaf .str a), .val Yy (.leaf .str b)=>some (a,b)
 |_,_,_=>Yw
theorem IW{t u:TypeId}{o:BinOp}{X Y:ag}{x y:Operand}{a b c:ByteArray}(h:xY o X Y=some (a,b))(hc:IV a b=some c)(hs:ak U H F w ob n)(hx:af H F w X (ev ρ x))(hy:af H F w Y (ev ρ y)):
 bw P U H F w ρ ob n ⟨some d, .binOp o t x y u,ty,pos,aft,Yw⟩ {dst:= .val Yy (.leaf .str c)}:=by
 unfold xY at h
 split at h<;>cases h
 unfold IV at hc;split at hc
 case isFalse=>cases hc
 rename_i hle;obtain rfl:=WD hc;have ha:ev ρ x= .string a:=au.str hx;have hb:ev ρ y= .string b:=au.str hy;refine aS hs (v:= .string (a++b)) ?_ (au.iX rfl)
 have:¬(9223372036854775807:Int)<(a.size:Int)+(b.size:Int):=by omega
 simp[execOp,eqGuard,binOp,Op.stringOp,ha,hb,IntKind.max,IntKind.signed,IntKind.bits,this]
noncomputable def Bu(T:aF P)(ob:Nat->Option (Nat×Th))(o:BinOp)(t:TypeId)(lit:Bool)(X Y:ag)(k:cI->Option R):Option R:=
 match asInt X with
 |some (kx,a)=>match asInt Y with
  |some (ky,b)=>match o with
   | .shl=>bif lit then(bif !decide (b<0)then k {dst:=iB kx (DC kx a b)}else Yw)else(oj kx a b).bind λc=>k {dst:=iB kx c}
   | .shr=>bif lit then(bif !decide (b<0)then k {dst:=iB kx (bO kx a b)}else Yw)else(Bf kx a b).bind λc=>k {dst:=iB kx c}
   |o=>bif decide (kx=ky)then
    (match o with
    | .quo=>bif lit then(bif decide (b≠0)then k {dst:=iB kx (kx.wrap (XR a b))}else Yw)else(KV a b).bind λc=>k {dst:=iB kx (kx.wrap c)}
    | .rem=>bif lit then(bif decide (b≠0)then k {dst:=iB kx (Yd a b)}else Yw)else(GD a b).bind λc=>k {dst:=iB kx c}
    |_=>match arith o kx a b with
     |some D=>k {dst:=D}
     |none=>Yw)else Yw
  |none=>Yw
 |none=>match xY o X Y with
  |some (a,b)=>(IV a b).bind λc=>k {dst:= .val Yy (.leaf .str c)}
  |none=>match IU T ob o t X Y with
   |some D=>k {dst:=D}
   |none=>Yw
theorem GL(T:aF P){o:BinOp}{t u:TypeId}{lit:Bool}{X Y:ag}{x y:Operand}{k:cI->Option R}{q:R}(h:Bu T ob o t lit X Y k=some q)(hs:ak U H F w ob n)(hx:af H F w X (ev ρ x))(hy:af H F w Y (ev ρ y)):
 ∃e,k e=some q/\bw P U H F w ρ ob n ⟨some d, .binOp o t x y u,ty,pos,aft,Yw⟩ e:=by
 unfold Bu at h;split at h
 .rename_i kx a hX;split at h
  case h_2=>cases h
  rename_i ky b hY;have ha:=eG hX hx;have hb:=eG hY hy;split at h
  .cases lit with
   |true=>
    rw[cond_true]at h;obtain⟨bY,h⟩:=ax h;exact⟨_,h,ay hs (vu ha hb (by simpa using bY)) (au.fx ..)⟩
   |false=>
    rw[cond_false]at h;obtain⟨c,hc,h⟩:=bind_some h;unfold oj at hc;split at hc
    .cases hc
    .rename_i bY;obtain rfl:=WD hc;exact⟨_,h,ay hs (vu ha hb bY) (au.fx ..)⟩
  .cases lit with
   |true=>
    rw[cond_true]at h;obtain⟨bY,h⟩:=ax h;exact⟨_,h,ay hs (vv ha hb (by simpa using bY)) (au.fx ..)⟩
   |false=>
    rw[cond_false]at h;obtain⟨c,hc,h⟩:=bind_some h;unfold Bf at hc;split at hc
    .cases hc
    .rename_i bY;obtain rfl:=WD hc;exact⟨_,h,ay hs (vv ha hb bY) (au.fx ..)⟩
  obtain⟨hk,h'⟩:=ax h;clear h;have hk:=YC hk;subst hk;revert h';intro h;split at h
  .cases lit with
   |true=>
    rw[cond_true]at h;obtain⟨bY,h⟩:=ax h;exact⟨_,h,DF (YC bY) hs ha hb⟩
   |false=>
    rw[cond_false]at h;obtain⟨c,hc,h⟩:=bind_some h;unfold KV at hc;split at hc
    .cases hc
    .rename_i bY;obtain rfl:=WD hc;exact⟨_,h,DF bY hs ha hb⟩
  .cases lit with
   |true=>
    rw[cond_true]at h;obtain⟨bY,h⟩:=ax h;exact⟨_,h,DG (YC bY) hs ha hb⟩
   |false=>
    rw[cond_false]at h;obtain⟨c,hc,h⟩:=bind_some h;unfold GD at hc;split at hc
    .cases hc
    .rename_i bY;obtain rfl:=WD hc;exact⟨_,h,DG bY hs ha hb⟩
  .split at h
   case h_2=>cases h
   rename_i D hD;exact⟨_,h,DE hD hs ha hb⟩
 .split at h
  .rename_i a b N2;obtain⟨c,hc,h⟩:=bind_some h;exact⟨_,h,IW N2 hc hs hx hy⟩
  .split at h
   case h_2=>cases h
   rename_i D hD;exact⟨_,h,GK T hD hs hx hy⟩
def N8(o:UnOp)(X:ag):Option ag:=
 match o with
 | .not=>match asBool X with
   |some b=>some (cG (!b))
   |none=>Yw
 | .neg=>match asInt X with
   |some (k,a)=>some (iB k (k.wrap (0-a)))
   |none=>Yw
 |_=>Yw
theorem IX{o:UnOp}{t:TypeId}{X D:ag}{x:Operand}(h:N8 o X=some D)(hs:ak U H F w ob n)(hx:af H F w X (ev ρ x)):
 bw P U H F w ρ ob n ⟨some d, .unOp o t x,ty,pos,aft,Yw⟩ {dst:=D}:=by
 unfold N8 at h;split at h
 .split at h<;>cases h
  rename_i b hb;exact ay hs (Di (jz hb hx)) (au.dv ..)
 .split at h<;>cases h
  rename_i k a ha;exact ay hs (Dj (eG ha hx)) (au.fx ..)
 .cases h
def DS(T:aF P)(s t:TypeId)(X:ag):Option ag:=
 match find T.und s with
 |some _=>match find T.und t with
  |some (.int k)=>match asInt X with
   |some (_,a)=>some (iB k (k.wrap a))
   |none=>Yw
  |some .str=>match vq X with
   |some a=>some (NY a)
   |none=>Yw
  |_=>Yw
 |none=>Yw
theorem DT(T:aF P){s t:TypeId}{X D:ag}{x:Operand}(h:DS T s t X=some D)(hs:ak U H F w ob n)(hx:af H F w X (ev ρ x)):
 bw P U H F w ρ ob n ⟨some d, .convert s t x,ty,pos,aft,Yw⟩ {dst:=D}:=by
 unfold DS at h;split at h
 case h_2=>cases h
 rename_i ks SL;obtain⟨dd,sj,_⟩:=(T.und_ok _ _ SL).agg;split at h
 .rename_i k N9
  split at h<;>cases h
  rename_i k' a ha;exact ay hs (AT sj (T.und_ok _ _ N9) (eG ha hx)) (au.fx ..)
 .rename_i N9
  split at h<;>cases h
  rename_i a ha;have hv:=qp ha hx;have Oa:P.underlying t=some .string:=T.und_ok _ _ N9;refine aS hs (v:= .string a) ?_ (au.mkStr ..);simp[execOp,convert,run_underlying sj,run_underlying Oa,hv]
 .cases h
def qB(D:ag)(i:Nat):Option ag:=
 match D with
 | .tup ds=>match ds[i]? with
   |some (a,t)=>some (.val a t)
   |none=>Yw
 |_=>Yw
theorem nA.get:{ds:List (Bool×Tree)}->{vs:List Value}->{i:Nat}->{a:Bool}->{t:Tree}->nA H F w ds vs->ds[i]? =some (a,t)->∃v,vs[i]? =some v/\au H F w a t v
 |[],_,_,_,_,_,h=>by cases h
 |d::ds,_,0,a,t,hh,h=>by
  obtain⟨v,us,rfl,h1,h2⟩:=hh
  obtain rfl:d=(a,t):=by simpa using h
  exact⟨v,rfl,h1⟩
 |d::ds,_,i+1,a,t,hh,h=>by
  obtain⟨v,us,rfl,h1,h2⟩:=hh;obtain⟨v',e,hv⟩:=nA.get h2 (by simpa using h);exact⟨v',by simpa using e,hv⟩
theorem vE{D D':ag}{i:Nat}{x:Operand}(h:qB D i=some D')(hs:ak U H F w ob n)(hx:af H F w D (ev ρ x)):
 bw P U H F w ρ ob n ⟨some d, .extract x i,ty,pos,aft,Yw⟩ {dst:=D'}:=by
 unfold qB at h;split at h
 case h_2=>cases h
 split at h<;>cases h
 rename_i ds a t hd;obtain⟨vs,e,ht⟩:=hx;obtain⟨v,hv,iP⟩:=ht.get hd;exact ay hs (tM e (by simpa using hv)) iP
def p6(mx:Bool)(X Y:ag):Option ag:=
 match asInt X,asInt Y with
 |some (k,a),some (k',b)=>bif decide (k=k')then some (iB k (bif mx then(if a<b then b else a)else(if b<a then b else a)))else Yw
 |_,_=>Yw
theorem qC{mx:Bool}{t t':TypeId}{X Y D:ag}{x y:Operand}(h:p6 mx X Y=some D)(hs:ak U H F w ob n)(hx:af H F w X (ev ρ x))(hy:af H F w Y (ev ρ y)):
 bw P U H F w ρ ob n ⟨some d, .call {callee:= .builtin (bif mx then .max else .min),args:= #[x,y],argTypes:= #[t,t']},ty,pos,aft,Yw⟩ {dst:=D}:=by
 unfold p6 at h;split at h
 case h_2=>cases h
 rename_i k a k' b ha hb;obtain⟨hk,h'⟩:=ax h;clear h;have hk:=YC hk;subst hk;obtain rfl:=WD h';have ha:=eG ha hx;have hb:=eG hb hy
 cases mx with
 |true=>exact ay hs (AV ha hb) (au.fx ..)
 |false=>exact ay hs (AW ha hb) (au.fx ..)
theorem Bv{D:ag}{x:Operand}(hs:ak U H F w ob n)(hx:af H F w D (ev ρ x)):bw P U H F w ρ ob n ⟨some d, .move x,ty,pos,aft,Yw⟩ {dst:=D}:=ay hs (AO rfl) hx
theorem vF{D:ag}{x:Operand}(hs:ak U H F w ob n)(hx:af H F w D (ev ρ x)):bw P U H F w ρ ob n ⟨some d, .assign x,ty,pos,aft,Yw⟩ {dst:=D}:=ay hs (vm rfl) hx
def tT(T:aF P)(t:TypeId)(f:Nat)(X:ag):Option ag:=
 match find T.und t with
 |some (.struct fs)=>match fs[f]? with
  |some (ft,off)=>match find T.und ft with
   |some kk=>match X with
    | .val Yx u=>match u.get (nB fs.length f)with
      |some (s,cC)=>bif WI cC off&&iC T ft kk s.size then some (.val (fJ kk) s)else Yw
      |none=>Yw
    |_=>Yw
   |none=>Yw
  |none=>Yw
 |_=>Yw
theorem xZ(T:aF P){t:TypeId}{f:Nat}{X D:ag}{x:Operand}(h:tT T t f X=some D)(hs:ak U H F w ob n)(hx:af H F w X (ev ρ x)):
 bw P U H F w ρ ob n ⟨some d, .field t x f,ty,pos,aft,Yw⟩ {dst:=D}:=by
 unfold tT at h;split at h
 case h_2=>cases h
 rename_i fs hu;obtain⟨arr,CV,GF⟩:=T.und_ok _ _ hu;split at h
 case h_2=>cases h
 rename_i ft off hf;obtain⟨fd,Kn,rfl,rfl⟩:=vx GF hf;split at h
 case h_2=>cases h
 rename_i kk SM;obtain⟨dd,sj,rG⟩:=(T.und_ok _ _ SM).agg;split at h
 case h_2=>cases h
 rename_i u;split at h
 case h_2=>cases h
 rename_i s cC hg;obtain⟨hb,rfl⟩:=nC h;obtain⟨CX,Ko⟩:=bC hb;obtain rfl:=beq_true CX;have hz:=fy T Ko;obtain⟨cs,mH,e,_⟩:=hx;obtain⟨g1,g2⟩:=mH.get hg;have hl:=g1.length;have e':ev ρ x= .agg cs.toArray:=e
 have K8:∃v,(part fd.type cs.toArray fd.offset).run P w= .ok v w/\au H F w (fJ kk) s v:=by
  cases ha:fJ kk with
  |true=>
   rw[YB ha]at hz;obtain⟨r,hr,Gc⟩:=hz;obtain⟨ti,z,h1,_,_,h4,_⟩:=T.row_ok _ _ hr;refine⟨.agg ((cs.drop fd.offset).take s.size).toArray,?_,_,g1,rfl,by simp⟩;unfold part;rw[Xd,dj sj,rG,ha];simp[sizeOf,typeInfo,h1,h4,Gc]
  |false=>
   rw[YA (by simp[ha])]at hz
   have av:fd.offset<cs.length:=by omega
   refine⟨cs[fd.offset],?_,_,g1,?_,λ_=>?_⟩
   .unfold part;rw[Xd,dj sj,rG,ha];simp[av]
   .rw[hz,List.take_one,List.head?_drop,WJ av];rfl
   .rw[hz,List.take_one,List.head?_drop,WJ av];rfl
 obtain⟨v,hv,iP⟩:=K8;refine aS hs (v:=v) ?_ iP;simp[execOp,Instr.field,run_underlying CV,Kn,e',asAgg,hv]
end
end
section
open Go Go.RowKit Go.MapKept
noncomputable def aT{α:Type}(K:Row):List (K.den×α)->K.den->Option α
 |[],_=>Yw
 |p::l,k=>if bN K p.1 k=Yx then some p.2 else aT K l k
noncomputable def jD{α:Type}(K:Row):List (K.den×α)->K.den->α->List (K.den×α)
 |[],k,v=>[(k,v)]
 |p::l,k,v=>if bN K p.1 k=Yx then(p.1,v)::l else p::jD K l k v
theorem eR{K:Row}{a b:K.den}{u v:Value}(ha:fH K a=some u)(hb:fH K b=some v):bN K a b=Yx↔u=v:=by
 unfold fH at ha
 split at ha<;>first|cases ha|skip
 all_goals
  simp only[fH,WL]at hb;subst hb;simp[bN]
def vG{P:Program}(T:aF P)(kt:TypeId):Row->Bool
 | .int k=>match find T.und kt with
   |some (.int k')=>decide (k=k')
   |_=>Yy
 | .bool=>match find T.und kt with
   |some .bool=>Yx
   |_=>Yy
 | .str=>match find T.und kt with
   |some .str=>Yx
   |_=>Yy
 |_=>Yy
section
variable {P:Program} {ρ:Nat->Value} {w w':World} {H H':ai} {F F':Nat->Prop} {U:Nat->Prop} {ob:Nat->Option (Nat×Th)} {n:Nat} {R:Type}
variable {op:Op} {ty:TypeId} {pos:String} {aft:Array Edge} {d:Nat}
theorem qD(T:aF P){kt:TypeId}{K:Row}(h:vG T kt K=Yx):∃d,P.underlying kt=some d/\(∀x v,fH K x=some v->IsKey d v)/\(∀x v,bD F w K [v] x->fH K x=some v):=by
 unfold vG at h;split at h
 .split at h
  .rename_i k _ k' hu;obtain rfl:=YC h;refine⟨_,T.und_ok _ _ hu,λx v hx=>?_,λx v hr=>?_⟩
   .obtain rfl:=WD hx;rfl
   .have CW:[v]=[XD k x]:=hr;simp only[XT,and_true]at CW;rw[CW];rfl
  .cases h
 .split at h
  .rename_i hu;refine⟨_,T.und_ok _ _ hu,λx v hx=>?_,λx v hr=>?_⟩
   .obtain rfl:=WD hx;trivial
   .have CW:[v]=[Value.bool x]:=hr;simp only[XT,and_true]at CW;rw[CW];rfl
  .cases h
 .split at h
  .rename_i hu;refine⟨_,T.und_ok _ _ hu,λx v hx=>?_,λx v hr=>?_⟩
   .obtain rfl:=WD hx;trivial
   .have CW:[v]=[Value.string x]:=hr;simp only[XT,and_true]at CW;rw[CW];rfl
  .cases h
 .cases h
theorem ov{K:Row}{agg:Bool}{V:Row}{dd:TypeDesc}{x:K.den}{kv:Value}(hK:∀x v,fH K x=some v->IsKey dd v)(hx:fH K x=some kv):{es:List MapEntry}->{l:List (K.den×V.den)}->(i:Nat)->dA H F w K agg V es l->
 (XG dd kv es i=some Yw/\aT K l x=Yw/\(∀e∈es,e.key≠kv)/\∀H' F' w' y(e:MapEntry),e.key=kv->H.le H'->Step F w F' w'->au H' F' w' agg (.leaf V y) e.val->dA H' F' w' K agg V (es++[e]) (jD K l x y))\/
 ∃j e y,XG dd kv es i=some (some (i+j,e.val))/\es[j]? =some e/\e.key=kv/\aT K l x=some y/\au H F w agg (.leaf V y) e.val/\
  ∀H' F' w' y(f:MapEntry->MapEntry),(f e).key=kv->H.le H'->Step F w F' w'->au H' F' w' agg (.leaf V y) (f e).val->dA H' F' w' K agg V (es.modify j f) (jD K l x y)
 |[],l,i,h=>by
  obtain rfl:l=[]:=h;refine .inl ⟨rfl,rfl,by simp,λH' F' w' y e he hH hs hv=>⟨x,y,[],rfl,by rw[he];exact hx,hv,rfl⟩⟩
 |e::es,l,i,h=>by
  obtain⟨k,y,l',rfl,h1,h2,h3⟩:=h;obtain⟨r,hr,DU⟩:=sameNow_of_keys (hK x kv hx) (hK k _ h1);have Bc:=eR h1 hx
  cases r with
  |true=>
   have Ob:kv=e.key:=DU.1 rfl;have hq:bN K k x=Yx:=Bc.2 Ob.symm;refine .inr ⟨0,e,y,by simp[XG,hr],rfl,Ob.symm,by simp[aT,hq],h2,λH' F' w' y' f hf hH hs hv=>?_⟩;refine⟨k,y',l',by simp[jD,hq],?_,hv,h3.keep hH hs⟩
   show fH K k=some (f e).key
   rw[hf,h1,Ob]
  |false=>
   have bY:¬e.key=kv:=λq=>by have:=DU.2 q.symm;cases this
   have hq:¬bN K k x=Yx:=λq=>bY (Bc.1 q)
   rcases ov hK hx (i+1) h3 with⟨a1,a2,a3,a4⟩|⟨j,e',z,a1,a2,a3,a4,a5,a6⟩
   .refine .inl ⟨by simp[XG,hr,a1],by simp[aT,hq,a2],λe' he'=>?_,λH' F' w' y' e' he' hH hs hv=>?_⟩
    .rcases WS.1 he' with rfl|he'
     .exact bY
     .exact a3 e' he'
    .exact⟨k,y,_,by simp[jD,hq],h1,h2.keep hH hs,a4 H' F' w' y' e' he' hH hs hv⟩
   .refine .inr ⟨j+1,e',z,by simp[XG,hr,a1];omega,by simpa using a2,a3,by simp[aT,hq,a4],a5,λH' F' w' y' f hf hH hs hv=>?_⟩;refine⟨k,y,_,by simp[jD,hq],?_,?_,a6 H' F' w' y' f hf hH hs hv⟩
    .exact h1
    .exact h2.keep hH hs
noncomputable def asKey(ob:Nat->Option (Nat×Th))(K:Row):ag->Option K.den
 | .val Yy t=>flat ob K t
 |_=>Yw
theorem qE(hs:ak U H F w ob n){K:Row}{D:ag}{x:K.den}{v:Value}(h:asKey ob K D=some x)(hd:af H F w D v):bD F w K [v] x:=by
 unfold asKey at h;split at h
 .obtain⟨cs,h1,_,h3⟩:=hd;rw[h3 rfl]at h1;exact dS hs h h1
 .cases h
def zS(ob:Nat->Option (Nat×Th)):ag->Option (Nat×Nat×Th)
 | .val Yy (.own o)=>match ob o with
   |some (s, .map T K agg V l)=>some (o,s, .map T K agg V l)
   |_=>Yw
 |_=>Yw
theorem vH(hs:ak U H F w ob n){D:ag}{o s:Nat}{t:Th}{v:Value}(h:zS ob D=some (o,s,t))(hd:af H F w D v):∃T K agg V l b es clock,t= .map T K agg V l/\ob o=some (s,t)/\H.val o=some v/\v= .map (some b)/\
 w.heap[b]? =some (.map es clock)/\Stamped es clock/\dA H F w K agg V es.toList l:=by
 unfold zS at h;split at h
 .rename_i o';split at h
  .rename_i s' T K agg V l bH;simp only[WL,XF]at h;obtain⟨rfl,rfl,rfl⟩:=h;obtain⟨cs,⟨u,hu,_,e⟩,_,h3⟩:=hd;rw[h3 rfl]at e
   obtain rfl:v=u:=by simpa using e
   obtain⟨v',cM,bF⟩:=hs.obj _ _ _ bH;rw[hu]at cM;obtain rfl:=WD cM;obtain⟨b,es,clock,e,h1,h2,h3⟩:=bF.ok;exact⟨T,K,agg,V,l,b,es,clock,rfl,bH,hu,e,h1,h2,h3⟩
  .cases h
 .cases h
def jE(T:aF P)(n:Nat)(t:TypeId)(k:cI->Option R):Option R:=
 match find T.und t with
 |some (.map kt vt)=>match find T.row kt with
  |some K=>match find T.row vt with
   |some V=>match find T.und vt with
    |some kk=>k {dst:= .val Yy (.own n),make:=[(n,(n, .map t K (fJ kk) V []))]}
    |none=>Yw
   |none=>Yw
  |none=>Yw
 |_=>Yw
theorem vI(T:aF P){t:TypeId}{k:cI->Option R}{q:R}(h:jE T n t k=some q)(hs:ak U H F w ob n):
 ∃e,k e=some q/\bw P U H F w ρ ob n ⟨some d, .makeMap t Yw,ty,pos,aft,Yw⟩ e:=by
 unfold jE at h;split at h
 case h_2=>cases h
 split at h
 case h_2=>cases h
 rename_i K _;split at h
 case h_2=>cases h
 rename_i V _;split at h
 case h_2=>cases h
 rename_i kk _
 have aV:(execOp (ev ρ) ⟨some d, .makeMap t Yw,ty,pos,aft,Yw⟩).run P w= .ok (.value (.map (some w.heap.size))) (w.alloc (.map #[] 0)):=by
  simp[execOp,Instr.makeMap,WT]
 refine⟨_,h,bj.val aV ?_⟩
 have hv:((H.aK n (.map t K (fJ kk) V [])).bI n (.map (some w.heap.size))).val n=some (.map (some w.heap.size)):=by simp[ai.bI]
 refine gS.new (v0:= .map (some w.heap.size)) hs rfl rfl (jB _) ⟨_, #[],0,rfl,(heap_alloc w _).1,stamped_empty 0,rfl⟩ (λk hk=>?_) (iZ hv rfl);simp only[fp,Value.map.injEq,WL]at hk;subst hk;exact⟨λe=>by have:=hs.lt _ e;omega,by simp, .inl (WH _)⟩
noncomputable def gh(T:aF P)(ob:Nat->Option (Nat×Th))(n:Nat)(t:TypeId)(M X Y:ag)(k:cI->Option R):Option R:=
 match find T.und t with
 |some (.map kt _)=>match zS ob M with
  |some (o,_, .map T0 K agg V l)=>bif vG T kt K then(match asKey ob K X with
   |some x=>match Y with
    | .val cV tr=>bif (bif agg then cV else !cV)then(match flat ob V tr with
      |some y=>k {dst:= .dead,eat:=[o],make:=[(o,(n, .map T0 K agg V (jD K l x y)))]}
      |none=>Yw)else Yw
    |_=>Yw
   |none=>Yw)else Yw
  |_=>Yw
 |_=>Yw
theorem ow{IY kt et:TypeId}{dd:TypeDesc}{b clock:Nat}{es:Array MapEntry}{key val:Value}(hm:P.underlying IY=some (.map kt et))(hd:P.underlying kt=some dd)(hb:w.heap[b]? =some (.map es clock))(hk:IsKey dd key):
 (XG dd key es.toList 0=some Yw->(XY IY (.map (some b)) key val).run P w= .ok () {w with heap:=w.heap.setIfInBounds b (.map (es.push {key,val,born:=clock}) (clock+1))})/\
 (∀j e,XG dd key es.toList 0=some (some (j,e))->((es[j]?).map (·.key)).getD key=key->(XY IY (.map (some b)) key val).run P w= .ok () {w with heap:=w.heap.setIfInBounds b (.map (es.modify j λe=>{e with key,val}) clock)}):=by
 refine⟨λh1=>?_,λj e h1 h2=>?_⟩
 .simp[XY,run_underlying hm,Xy hb,XZ hd hk,X5 hd h1,X4 _ hb,WT]
 .simp[XY,run_underlying hm,Xy hb,XZ hd hk,X5 hd h1,h2,run_keyThatStays hk,X4 _ hb,WT]
theorem rO(T:aF P){t:TypeId}{M X Y:ag}{m x y:Operand}{k:cI->Option R}{q:R}(h:gh T ob n t M X Y k=some q)(hs:ak U H F w ob n)(hm:af H F w M (ev ρ m))(hx:af H F w X (ev ρ x))(hy:af H F w Y (ev ρ y)):
 ∃e,k e=some q/\bw P U H F w ρ ob n ⟨Yw, .mapUpdate t m x y,ty,pos,aft,Yw⟩ e:=by
 unfold gh at h;split at h
 case h_2=>cases h
 rename_i kt vt hu;split at h
 case h_2=>cases h
 rename_i o s T0 K agg V l nF;obtain⟨hk,h'⟩:=ax h;clear h;split at h'
 case h_2=>cases h'
 rename_i a ha;split at h'
 case h_2=>cases h'
 rename_i cV tr;obtain⟨mN,h⟩:=ax h';clear h'
 have mN:agg=cV:=by cases agg<;>cases cV<;>simp_all
 subst mN;split at h
 case h_2=>cases h
 rename_i b hb;refine⟨_,h,?_⟩;obtain⟨dd,hd,hK,hR⟩:=qD (F:=F) (w:=w) T hk;obtain⟨T1,K1,Oc,V1,l1,r,es,clock,e0,bH,hv,jm,hh,dz,ox⟩:=vH hs nF hm;cases e0;have jF:=hR _ _ (qE hs ha hx)
 have kY:au H F w agg (.leaf V b) (ev ρ y):=by
  obtain⟨cs,h1,h2⟩:=hy;exact⟨cs,dS hs hb h1,h2⟩
 have Od:r<w.heap.size:=(Xj.1 hh).1
 have fin:∀o',(XY t (.map (some r)) (ev ρ x) (ev ρ y)).run P w= .ok () {w with heap:=w.heap.setIfInBounds r o'}->
  (∀w',(∀k,k≠r->w'.heap[k]? =w.heap[k]?)->∃gB jn,o'= .map gB jn/\Stamped gB jn/\dA (H.aK n (.map T0 K agg V (jD K l a b))) F w' K agg V gB.toList (jD K l a b))->
  bw P U H F w ρ ob n ⟨Yw, .mapUpdate t m x y,ty,pos,aft,Yw⟩ {dst:= .dead,eat:=[o],make:=[(o,(n, .map T0 K agg V (jD K l a b)))]}:=by
  intro o' aV DV;refine bj.unit (w':={w with heap:=w.heap.setIfInBounds r o'}) ?_ ?_
  .simp[execOp,jm,aV,WT]
  .have gj:∀k,k≠r->(w.heap.setIfInBounds r o')[k]? =w.heap[k]? :=(heap_set hh).2;obtain⟨gB,jn,rfl,g1,g2⟩:=DV {w with heap:=w.heap.setIfInBounds r o'} gj;refine gS.pZ (t':= .map T0 K agg V (jD K l a b)) (w':={w with heap:=w.heap.setIfInBounds r (.map gB jn)}) hs bH hv rfl (λk hk=>hk) ⟨rfl,⟨rfl,WH _⟩,rfl,by simp,λk hk hn=>gj k λe=>hn (by subst e;exact jm)⟩ ⟨r,gB,jn,jm,(heap_set hh).1,g1,g2⟩ trivial
 have vJ:H.le (H.aK n (.map T0 K agg V (jD K l a b))):=ai.dD (hs.fresh n (WH _) (by omega)).2
 have cF:∀w':World,(∀k,k≠r->w'.heap[k]? =w.heap[k]?)->Step F w F w':=by
  intro w' hw b hb;refine⟨hb,hw b λe=>?_⟩;subst e;obtain⟨v',cM,bF⟩:=hs.obj _ _ _ bH;rw[hv]at cM;obtain rfl:=WD cM;exact bF.no b jm hb
 obtain⟨r1,r2⟩:=ow (val:=ev ρ y) (T.und_ok _ _ hu) hd hh (hK _ _ jF)
 rcases ov hK jF 0 ox with⟨a1,a2,a3,a4⟩|⟨j,e,z,a1,a2,a3,a4,a5,a6⟩
 .refine fin _ (r1 a1) λw' hw=>⟨_,_,rfl,stamped_push dz a3,?_⟩
  rw[Array.toList_push];exact a4 _ F w' b _ rfl vJ (cF w' hw) (kY.keep vJ (cF w' hw))
 .rw[Xl]at a1
  have hj:es[j]? =some e:=by simpa using a2
  refine fin _ (r2 j _ a1 (by rw[hj];exact a3)) λw' hw=>⟨_,_,rfl,stamped_modify dz _ _ (λ_ _=>rfl) (λe' _ he'=>?_),?_⟩
  .rw[hj]at he';cases he';exact a3.symm
  .rw[Array.toList_modify];exact a6 _ F w' b _ rfl vJ (cF w' hw) (kY.keep vJ (cF w' hw))
noncomputable def kN{α:Type}(K:Row):List (K.den×α)->K.den->List (K.den×α)
 |[],_=>[]
 |p::l,k=>if bN K p.1 k=Yx then l else p::kN K l k
theorem sA{K:Row}{agg:Bool}{V:Row}{dd:TypeDesc}{x:K.den}{kv:Value}(hK:∀x v,fH K x=some v->IsKey dd v)(hx:fH K x=some kv):{es:List MapEntry}->{l:List (K.den×V.den)}->(i:Nat)->dA H F w K agg V es l->
 (XG dd kv es i=some Yw/\kN K l x=l)\/
 ∃(j:Nat)(e:MapEntry),XG dd kv es i=some (some (i+j,e.val))/\j<es.length/\∀H' F' w',H.le H'->Step F w F' w'->dA H' F' w' K agg V (es.eraseIdx j) (kN K l x)
 |[],l,i,h=>by
  obtain rfl:l=[]:=h;exact .inl ⟨rfl,rfl⟩
 |e::es,l,i,h=>by
  obtain⟨k,y,l',rfl,h1,h2,h3⟩:=h;obtain⟨r,hr,DU⟩:=sameNow_of_keys (hK x kv hx) (hK k _ h1);have Bc:=eR h1 hx
  cases r with
  |true=>
   have hq:bN K k x=Yx:=Bc.2 (DU.1 rfl).symm;exact .inr ⟨0,e,by simp[XG,hr],by simp,λH' F' w' hH hs=>by simpa[kN,hq]using h3.keep hH hs⟩
  |false=>
   have hq:¬bN K k x=Yx:=λq=>by have:=DU.2 (Bc.1 q).symm;cases this
   rcases sA hK hx (i+1) h3 with⟨a1,a2⟩|⟨j,e',a1,a2,a3⟩
   .exact .inl ⟨by simp[XG,hr,a1],by simp[kN,hq,a2]⟩
   .exact .inr ⟨j+1,e',by simp[XG,hr,a1];omega,by simpa using a2,λH' F' w' hH hs=>⟨k,y,_,by simp[kN,hq],h1,h2.keep hH hs,a3 H' F' w' hH hs⟩⟩
noncomputable def lO(T:aF P)(ob:Nat->Option (Nat×Th))(n:Nat)(t:TypeId)(M X:ag)(k:cI->Option R):Option R:=
 match find T.und t with
 |some (.map kt _)=>match zS ob M with
  |some (o,_, .map T0 K agg V l)=>bif vG T kt K then(match asKey ob K X with
   |some x=>k {dst:= .dead,eat:=[o],make:=[(o,(n, .map T0 K agg V (kN K l x)))]}
   |none=>Yw)else Yw
  |_=>Yw
 |_=>Yw
theorem ya(T:aF P){t t':TypeId}{M X:ag}{m x:Operand}{k:cI->Option R}{q:R}{dst:Option Nat}(h:lO T ob n t M X k=some q)(hs:ak U H F w ob n)(hm:af H F w M (ev ρ m))(hx:af H F w X (ev ρ x)):
 ∃e,k e=some q/\bw P U H F w ρ ob n ⟨dst, .call {callee:= .builtin .delete,args:= #[m,x],argTypes:= #[t,t']},ty,pos,aft,Yw⟩ e:=by
 unfold lO at h;split at h
 case h_2=>cases h
 rename_i kt vt hu;split at h
 case h_2=>cases h
 rename_i o s T0 K agg V l nF;obtain⟨hk,h'⟩:=ax h;clear h;split at h'
 case h_2=>cases h'
 rename_i a ha;refine⟨_,h',?_⟩;obtain⟨dd,hd,hK,hR⟩:=qD (F:=F) (w:=w) T hk;obtain⟨T1,K1,Oc,V1,l1,r,es,clock,e0,bH,hv,jm,hh,dz,ox⟩:=vH hs nF hm;cases e0;have jF:=hR _ _ (qE hs ha hx);have vJ:H.le (H.aK n (.map T0 K agg V (kN K l a))):=ai.dD (hs.fresh n (WH _) (by omega)).2
 have fin:∀gB,(Builtin.delete_ #[t,t'] ty #[.map (some r),ev ρ x]).run P w= .ok (.tuple #[]) {w with heap:=w.heap.setIfInBounds r (.map gB clock)}->Stamped gB clock->
  (∀w',Step F w F w'->dA (H.aK n (.map T0 K agg V (kN K l a))) F w' K agg V gB.toList (kN K l a))->
  bw P U H F w ρ ob n ⟨dst, .call {callee:= .builtin .delete,args:= #[m,x],argTypes:= #[t,t']},ty,pos,aft,Yw⟩ {dst:= .dead,eat:=[o],make:=[(o,(n, .map T0 K agg V (kN K l a)))]}:=by
  intro gB aV IZ DV;have gj:∀k,k≠r->(w.heap.setIfInBounds r (.map gB clock))[k]? =w.heap[k]? :=(heap_set hh).2;refine bj.val (v:= .tuple #[]) (w':={w with heap:=w.heap.setIfInBounds r (.map gB clock)}) (by simp[execOp,resolve,invoke,builtin,jm,aV,WT]) ?_;refine gS.pZ (t':= .map T0 K agg V (kN K l a)) (w':={w with heap:=w.heap.setIfInBounds r (.map gB clock)}) hs bH hv rfl (λk hk=>hk) ⟨rfl,⟨rfl,WH _⟩,rfl,by simp,λk hk hn=>gj k λe=>hn (by subst e;exact jm)⟩ ⟨r,gB,clock,jm,(heap_set hh).1,IZ,DV _ λb hb=>?_⟩ trivial;refine⟨hb,gj b λe=>?_⟩;subst e;obtain⟨v',cM,bF⟩:=hs.obj _ _ _ bH;rw[hv]at cM;obtain rfl:=WD cM;exact bF.no b jm hb
 rcases sA hK jF 0 ox with⟨a1,a2⟩|⟨j,e,a1,a2,a3⟩
 .refine fin es ?_ dz λw' hw=>?_
  .simp[Builtin.delete_,run_underlying (T.und_ok _ _ hu),Xy hh,XZ hd (hK _ _ jF),X5 hd a1,X4 _ hh,WT]
  .rw[a2];exact ox.keep (by rw[a2]at vJ;exact vJ) hw
 .rw[Xl]at a1
  refine fin (es.eraseIdxIfInBounds j) ?_ (MapKept.stamped_erase dz j) λw' hw=>?_
  .simp[Builtin.delete_,run_underlying (T.und_ok _ _ hu),Xy hh,XZ hd (hK _ _ jF),X5 hd a1,X4 _ hh,WT]
  .have hj:j<es.size:=by simpa using a2
   have:(es.eraseIdxIfInBounds j).toList=es.toList.eraseIdx j:=by
    unfold Array.eraseIdxIfInBounds;rw[dif_pos hj,Array.toList_eraseIdx]
   rw[this];exact a3 _ F w' vJ hw
theorem vK{t:TypeId}{agg:Bool}{V:Row}(h:tQ P t agg V)(h1:agg=Yy->V.size=1):∃z,(zeroValue t).run P w= .ok z w/\au H F w agg (.leaf V V.zero) z:=by
 obtain⟨z,hz,e⟩:=h
 cases hi:P.info? t with
 |none=>rw[hi]at hz;cases hz
 |some ti=>
  rw[hi]at hz;refine⟨z,?_,V.da,bD.zero F w V,e,λha=>?_⟩
  .have hz':ti.zero=some z:=hz;simp[zeroValue,typeInfo,hi,hz',WT]
  .have hl:V.da.length=V.size:=(bD.zero F w V).length;rw[h1 ha]at hl;subst ha;rw[cond_false]at e
   match hv:V.da,hl with
   |[u],_=>rw[hv]at e;rw[e];rfl
theorem zT{K:Row}{agg:Bool}{V:Row}:{es:List MapEntry}->{l:List (K.den×V.den)}->es.length=l.length->(∀i(h:i<l.length),∃(e:MapEntry)(cs:List Value),es[i]? =some e/\fH K l[i].1=some e.key/\bD F w V cs l[i].2/\e.val=(bif agg then .agg cs.toArray else cs.headD undef)/\(agg=Yy->cs=[e.val]))->dA H F w K agg V es l
 |[],[],_,_=>rfl
 |[],_::_,h,_=>by cases h
 |_::_,[],h,_=>by cases h
 |e::es,(k,x)::l,hl,h=>by
  obtain⟨e',cs,h1,h2,h3,h4,h5⟩:=h 0 (by simp)
  obtain rfl:e=e':=by simpa using h1
  exact⟨k,x,l,rfl,h2,⟨cs,h3,h4,h5⟩,zT (by simpa using hl) λi hi=>by
   obtain⟨e',mI,q1,q2,q3,q4⟩:=h (i+1) (by simpa using hi)
   exact⟨e',mI,by simpa only[List.getElem?_cons_succ]using q1,q2,q3,q4⟩⟩
theorem zU{K:Row}{agg:Bool}{V:Row}:{es:List MapEntry}->{l:List (K.den×V.den)}->dA H F w K agg V es l->es.length=l.length/\∀i(h:i<l.length),∃(e:MapEntry)(cs:List Value),es[i]? =some e/\fH K l[i].1=some e.key/\bD F w V cs l[i].2/\e.val=(bif agg then .agg cs.toArray else cs.headD undef)/\(agg=Yy->cs=[e.val])
 |[],l,h=>by obtain rfl:l=[]:=h;exact⟨rfl,λi h=>by simp at h⟩
 |e::es,l,h=>by
  obtain⟨k,x,l',rfl,h1,⟨cs,h2,h3,h4⟩,h5⟩:=h;obtain⟨g1,g2⟩:=zU h5;refine⟨by simp[g1],λi hi=>?_⟩
  cases i with
  |zero=>exact⟨e,cs,rfl,h1,h2,h3,h4⟩
  |succ i=>
   obtain⟨e',mI,q1,q2,q3,q4⟩:=g2 i (by simpa using hi);exact⟨e',mI,by simpa only[List.getElem?_cons_succ]using q1,q2,q3,q4⟩
structure K9 where
 K:Row
 agg:Bool
 V:Row
 l:List (K.den×V.den)
def yb(ob:Nat->Option (Nat×Th)):ag->Option K9
 | .val Yy (.leaf (.map K agg V) l)=>some ⟨K,agg,V,l⟩
 | .val Yy (.own o)=>match ob o with
   |some (_, .map _ K agg V l)=>some ⟨K,agg,V,l⟩
   |some (_, .fmap _ K agg V l)=>some ⟨K,agg,V,l⟩
   |_=>Yw
 |_=>Yw
theorem zV{K:Row}{agg:Bool}{V:Row}{l:List (K.den×V.den)}{v:Value}(h:bD F w (.map K agg V) [v] l):(v= .map Yw/\l=[])\/∃b es clock,v= .map (some b)/\w.heap[b]? =some (.map es clock)/\Stamped es clock/\dA H F w K agg V es.toList l:=by
 obtain⟨u,e,h⟩:=h
 obtain rfl:v=u:=by simpa using e
 refine h.imp id λ⟨b,es,clock,h1,h2,h3,h4,h5,h6⟩=>⟨b,es,clock,h1,h3,h4,zT (by simpa using h5) λi hi=>by simpa using h6 i hi⟩
theorem Bw(hs:ak U H F w ob n){D:ag}{m:K9}{v:Value}(h:yb ob D=some m)(hd:af H F w D v):(v= .map Yw/\m.l=[])\/∃b es clock,v= .map (some b)/\w.heap[b]? =some (.map es clock)/\Stamped es clock/\dA H F w m.K m.agg m.V es.toList m.l:=by
 unfold yb at h;split at h
 .cases h;exact zV hd.inv
 .rename_i o;obtain⟨cs,⟨u,hu,_,e⟩,_,h3⟩:=hd;rw[h3 rfl]at e
  obtain rfl:v=u:=by simpa using e
  split at h
  .rename_i s T K agg V l bH;cases h;obtain⟨v',cM,bF⟩:=hs.obj _ _ _ bH;rw[hu]at cM;obtain rfl:=WD cM;obtain⟨b,es,clock,e,h1,h2,h3⟩:=bF.ok;exact .inr ⟨b,es,clock,e,h1,h2,h3⟩
  .rename_i s T K agg V l bH;cases h;obtain⟨v',cM,bF⟩:=hs.obj _ _ _ bH;rw[hu]at cM;obtain rfl:=WD cM;exact zV bF.ok
  .cases h
 .cases h
noncomputable def lP(T:aF P)(ob:Nat->Option (Nat×Th))(t:TypeId)(ok:Bool)(M X:ag)(k:cI->Option R):Option R:=
 match find T.und t with
 |some (.map kt vt)=>match yb ob M with
  |some ⟨K,agg,V,l⟩=>match find T.zer vt with
   |some (cV,V')=>bif vG T kt K&&(bif agg then cV else !cV)&&V'.beq V&&(agg||WI V.size 1)then(match asKey ob K X with
    |some x=>bif ok then k {dst:= .tup [(agg, .leaf V ((aT K l x).getD V.zero)),(Yy, .leaf .bool (aT K l x).isSome)]}
     else k {dst:= .val agg (.leaf V ((aT K l x).getD V.zero))}
    |none=>Yw)else Yw
   |none=>Yw
  |none=>Yw
 |_=>Yw
theorem yc(T:aF P){t:TypeId}{ok:Bool}{M X:ag}{m x:Operand}{k:cI->Option R}{q:R}(h:lP T ob t ok M X k=some q)(hs:ak U H F w ob n)(hm:af H F w M (ev ρ m))(hx:af H F w X (ev ρ x)):
 ∃e,k e=some q/\bw P U H F w ρ ob n ⟨some d, .lookup t m x ok,ty,pos,aft,Yw⟩ e:=by
 unfold lP at h;split at h
 case h_2=>cases h
 rename_i kt vt hu;split at h
 case h_2=>cases h
 rename_i K agg V l nF;split at h
 case h_2=>cases h
 rename_i cV V' hz;obtain⟨hc,h'⟩:=ax h;clear h;obtain⟨hc,Ih⟩:=bC hc;obtain⟨hc,GM⟩:=bC hc;obtain⟨rL,vo⟩:=bC hc
 have mN:agg=cV:=by cases agg<;>cases cV<;>simp_all
 subst mN;obtain rfl:=Row.eq_of_beq GM;split at h'
 case h_2=>cases h'
 rename_i a ha;obtain⟨dd,hd,hK,hR⟩:=qD (F:=F) (w:=w) T rL;have jF:=hR _ _ (qE hs ha hx)
 have ir:agg=Yy->V'.size=1:=λe=>by subst e;exact beq_true (by simpa using Ih)
 obtain⟨z,xB,xA⟩:=vK (w:=w) (H:=H) (F:=F) (T.zer_ok _ _ _ hz) ir
 have main:∃v,(Yq t (ev ρ m) (ev ρ x) ok).run P w= .ok (if ok then .tuple #[v, .bool (aT K l a).isSome]else v) w/\au H F w agg (.leaf V' ((aT K l a).getD V'.zero)) v:=by
  have Oe:=hK _ _ jF;have zW:=T.und_ok _ _ hu
  rcases Bw hs nF hm with⟨jm,hl⟩|⟨r,es,clock,jm,hh,dz,ox⟩
  .dsimp only at hl;subst hl;refine⟨z,?_,xA⟩;rw[jm];have hf:=X5 (w:=w) hd (show XG dd (ev ρ x) [] 0=some Yw from rfl)
   cases ok<;>simp[Yq,run_underlying zW,XZ hd Oe,hf,xB,aT,WT]
  .dsimp only at ox
   rcases ov hK jF 0 ox with⟨a1,a2,_⟩|⟨j,e,y,a1,_,_,a4,a5,_⟩
   .refine⟨z,?_,by rw[a2];exact xA⟩;rw[jm,a2];simp[Yq,run_underlying zW,Xy hh,XZ hd Oe,X5 hd a1,xB,WT]
   .refine⟨e.val,?_,by rw[a4];exact a5⟩;rw[jm,a4];simp[Yq,run_underlying zW,Xy hh,XZ hd Oe,X5 hd a1,WT]
 obtain⟨v,aV,iP⟩:=main
 cases ok with
 |true=>
  refine⟨_,h',aS hs (v:= .tuple #[v, .bool (aT K l a).isSome]) (by simp[execOp,aV,WT]) ⟨[v, .bool (aT K l a).isSome],rfl,_,_,rfl,iP,_,_,rfl,au.dv ..,rfl⟩⟩
 |false=>exact⟨_,h',aS hs (v:=v) (by simp[execOp,aV,WT]) iP⟩
def mv(s:ByteArray)(i:Int):Option Int:=(if 0<=i then s[i.toNat]? else Yw).map λb=>(b.toNat:Int)
theorem vL{e:Row}:{m:Nat}->{r:Row}->{x:r.den}->{l:List e.den}->{cs:List Value}->gT m r x e=some l->bD F w r cs x->l.length=m/\cs.length=m*e.size/\∀i(h:i<l.length),bD F w e ((cs.drop (i*e.size)).take e.size) l[i]
 |0,r,x,l,cs,h,_=>by unfold gT at h;cases h
 |1,r,x,l,cs,h,ha=>by
  unfold gT at h;split at h
  case isFalse=>cases h
  rename_i hb;obtain rfl:=Row.eq_of_beq hb;obtain rfl:=WD h;have hl:=ha.length;refine⟨rfl,by simp[hl],λi hi=>?_⟩
  obtain rfl:i=0:=by simp at hi;omega
  rw[Nat.zero_mul,List.drop_zero,<-hl,W3];exact ha
 |m+2, .pair a b,x,l,cs,h,ha=>by
  unfold gT at h;split at h
  case isFalse=>cases h
  rename_i hb;obtain rfl:=Row.eq_of_beq hb;split at h
  case h_2=>cases h
  rename_i l' hl;obtain rfl:=WD h;obtain⟨c1,c2,rfl,h1,h2⟩:=ha;have CU:=h1.length;obtain⟨g1,g2,g3⟩:=vL hl h2;refine⟨by simp[g1],by rw[WZ,CU,g2,show m+2=(m+1)+1 from rfl,Xu (m+1) 1,Nat.one_mul];omega,λi hi=>?_⟩
  cases i with
  |zero=>
   rw[Nat.zero_mul,List.drop_zero,List.take_append_of_le_length (by omega),<-CU,W3];exact h1
  |succ i=>
   have:=g3 i (by simpa using hi);rw[show(i+1)*a.size=c1.length+i*a.size from by rw[Xu];omega,<-List.drop_drop,List.drop_left];exact this
 |m+2, .int _,_,_,_,h,_=>by unfold gT at h;cases h
 |m+2, .bool,_,_,_,h,_=>by unfold gT at h;cases h
 |m+2, .str,_,_,_,h,_=>by unfold gT at h;cases h
 |m+2, .slice _,_,_,_,h,_=>by unfold gT at h;cases h
 |m+2, .gP,_,_,_,h,_=>by unfold gT at h;cases h
 |m+2, .nul _,_,_,_,h,_=>by unfold gT at h;cases h
 |m+2, .map ..,_,_,_,h,_=>by unfold gT at h;cases h
def lQ(T:aF P)(ob:Nat->Option (Nat×Th))(t:TypeId)(D:ag)(i:Int)(k:cI->Option R):Option R:=
 match find T.und t with
 |some .str=>match vq D with
  |some s=>(mv s i).bind λc=>k {dst:=iB .u8 c}
  |none=>Yw
 |some (.array m e)=>match find T.row t with
  |some r=>match find T.row e with
   |some re=>match find T.und e with
    |some kk=>match D with
     | .val Yx tr=>match flat ob r tr with
       |some x=>match gT m r x re with
        |some l=>bif fJ kk||WI re.size 1 then(idx l i).bind λy=>k {dst:= .val (fJ kk) (.leaf re y)}else Yw
        |none=>Yw
       |none=>Yw
     |_=>Yw
    |none=>Yw
   |none=>Yw
  |none=>Yw
 |_=>Yw
theorem yd(T:aF P){t:TypeId}{D:ag}{x y:Operand}{kd:IntKind}{i:Int}{k:cI->Option R}{q:R}(h:lQ T ob t D i k=some q)(hs:ak U H F w ob n)(hx:af H F w D (ev ρ x))(hy:ev ρ y= .int kd i):
 ∃e,k e=some q/\bw P U H F w ρ ob n ⟨some d, .index t x y,ty,pos,aft,Yw⟩ e:=by
 unfold lQ at h;split at h
 .rename_i hu;have hu:=T.und_ok _ _ hu;split at h
  case h_2=>cases h
  rename_i s hS;obtain⟨c,hc,hk⟩:=bind_some h;have hv:=qp hS hx;unfold mv at hc;obtain⟨b,hb,rfl⟩:=Option.map_eq_some_iff.1 hc;refine⟨_,hk,aS hs (v:= .int .u8 b.toNat) ?_ (au.fx ..)⟩;have zW:P.underlying t=some .string:=hu;simp[execOp,Instr.index,asIntOf,run_underlying zW,hv,hy,hb]
 .rename_i m e hu;have hu:P.underlying t=some (.array m e):=T.und_ok _ _ hu;split at h
  case h_2=>cases h
  rename_i r hr;split at h
  case h_2=>cases h
  rename_i re N6;split at h
  case h_2=>cases h
  rename_i kk Bc;split at h
  case h_2=>cases h
  rename_i tr;split at h
  case h_2=>cases h
  rename_i z hz;split at h
  case h_2=>cases h
  rename_i l hl;obtain⟨Rh,h'⟩:=ax h;clear h;obtain⟨a,ha,hk⟩:=bind_some h';obtain⟨cs,hh,hv,_⟩:=hx;rw[cond_true]at hv;obtain⟨g1,g2,g3⟩:=vL hl (dS hs hz hh);obtain⟨j,hj,av,rfl⟩:=dB ha;obtain⟨ti,z0,h1,_,_,h4,_⟩:=T.row_ok _ _ N6;obtain⟨dd,sj,rG⟩:=(T.und_ok _ _ Bc).agg;have nG:=g3 j av
  have ir:(j+1)*re.size<=cs.length:=by rw[g2];exact W1 _ (by omega)
  rw[Xu]at ir;refine⟨_,hk,?_⟩
  cases mN:fJ kk with
  |true=>
   refine aS hs (v:= .agg ((cs.drop (j*re.size)).take re.size).toArray) ?_ ⟨_,nG,rfl,by simp⟩;subst hj;simp[execOp,Instr.index,asIntOf,run_underlying hu,hv,hy,show j<m by omega,part,Xd,dj sj,rG,mN,sizeOf,typeInfo,h1,h4,List.extract_eq_take_drop]
  |false=>
   rw[mN,Bool.false_or]at Rh;have ic:=beq_true Rh;have hlen:=nG.length;rw[ic,Nat.mul_one]at nG ir;rw[ic]at hlen
   obtain⟨v,sx⟩:∃v,(cs.drop j).take 1=[v]:=by
    match hq:(cs.drop j).take 1,sB:((cs.drop j).take 1).length with
    |[v],_=>exact⟨v,rfl⟩
    |[],_=>rw[Nat.mul_one,hq]at hlen;cases hlen
    |_::_::_,_=>rw[Nat.mul_one,hq]at hlen;cases hlen
   rw[sx]at nG
   have Gx:cs[j]? =some v:=by
    have:(cs.drop j)[0]? =some v:=by
     have h0:((cs.drop j).take 1)[0]? =some v:=by rw[sx];rfl
     rwa [List.getElem?_take_of_lt (by omega)]at h0
    simpa using this
   refine aS hs (v:=v) ?_ (au.iX nG);subst hj;simp[execOp,Instr.index,asIntOf,run_underlying hu,hv,hy,show j<m by omega,part,Xd,dj sj,rG,mN,sizeOf,typeInfo,h1,h4,ic,Gx]
 .cases h
end
end
section
def Bx(T:TypeId):(e:DR)->List e.row.den->Th
 | .leaf r,y=> .own T r y
 | .sl T' e,y=> .deep T (.sl T' e) y Yw
 | .pair a b,y=> .deep T (.pair a b) y Yw
section
variable {P:Program} {ρ:Nat->Value} {w w':World} {H H':ai} {F F':Nat->Prop} {U:Nat->Prop} {ob:Nat->Option (Nat×Th)} {n:Nat} {R:Type}
variable {op:Op} {ty:TypeId} {pos:String} {aft:Array Edge} {d:Nat}
theorem qF(T:TypeId)(e:DR)(y:List e.row.den):(Bx T e y).base=Bx T e y:=by cases e<;>rfl
theorem oy{T:TypeId}{e:DR}{u:Value}{y:List e.row.den}{A:Nat->Prop}(h:fI F w (.sl T e) u y A):eC H F w A u (Bx T e y)/\(∀k,fp A u (Bx T e y) k->A k)/\u.oneCell'=Yx:=by
 obtain⟨lh,Ss,h1,h2,h3,h4⟩:=h;have ic:=h1.one
 cases e with
 |leaf r=>
  have hl:lh=y:=List.ext_getElem h2 λi a b=>(h3 i a b).1
  subst hl;exact⟨h1,λk hk=>h4.aN k hk,ic⟩
 |sl T' e=>exact⟨⟨lh,Ss,h1,h2,h3,h4⟩,λk hk=>hk,ic⟩
 |pair a b=>exact⟨⟨lh,Ss,h1,h2,h3,h4⟩,λk hk=>hk,ic⟩
theorem qG{T:TypeId}{e:DR}{u:Value}{y:List e.row.den}{A:Nat->Prop}(h:eC H F w A u (Bx T e y)):fI F w (.sl T e) u y (λk=>fp A u (Bx T e y) k):=by
 cases e with
 |leaf r=>
  have h':gD F w T r u y:=h;refine⟨y,λ_ _=>False,h',rfl,λi a b=>⟨rfl,λ_ h=>h⟩,⟨λk=>?_,λ_ _ _ _ _ _ h=>h.elim,λ_ _ _ h=>h.elim⟩⟩
  show aN u k↔_
  simp
 |sl T' e=>exact h
 |pair a b=>exact h
theorem p7{d:DR}{r:Row}(q:dx d (.leaf r)){x':d.low.den}{x:d.row.den}{S:Nat->Prop}(h:fI F w d x' x S):q.lo.get x'=q.hi.get x:=by
 obtain⟨A,B,h1,_⟩:=h.out q;exact h1.1
theorem qH:{d e:DR}->{T:TypeId}->{r:Row}->(p:dx d (.sl T e))->(q:dx d (.leaf r))->{x':d.low.den}->{x:d.row.den}->{S:Nat->Prop}->gQ F w p x' x S->q.lo.get x'=q.hi.get x
 |_,_,_,_, .fst p, .fst q,_,_,_,h=>by obtain⟨A,B,h1,_⟩:=h;exact qH p q h1
 |_,_,_,_, .fst p, .snd q,_,_,_,h=>by obtain⟨A,B,_,h2,_⟩:=h;exact p7 q h2
 |_,_,_,_, .snd p, .fst q,_,_,_,h=>by obtain⟨A,B,h1,_⟩:=h;exact p7 q h1
 |_,_,_,_, .snd p, .snd q,_,_,_,h=>by obtain⟨A,B,_,h2,_⟩:=h;exact qH p q h2
theorem DW{d:DR}{h:Option qj}{i:Nat}{x':d.low.den}{x:d.row.den}{S:Nat->Prop}{r:Row}(q:dx d (.leaf r))(hr:ke H F w d h i x' x S):q.lo.get x'=q.hi.get x:=by
 cases h with
 |none=>exact p7 q hr
 |some h=>
  by_cases hi:h.i=(i:Int)
  .obtain⟨T',e,p,_,h2,_⟩:=hr.2 hi;exact qH p q h2
  .exact p7 q (hr.1 hi)
theorem nH{d:DR}{r:Row}(q:dx d (.leaf r)){x':d.low.den}{x:d.row.den}{S:Nat->Prop}(y:r.den)(h:fI F w d x' x S):fI F w d (q.lo.set x' y) (q.hi.set x y) S:=by
 obtain⟨A,B,h1,h2,h3⟩:=h.out q;exact h2.put q (y':=y) (A:=A) ⟨rfl,h1.2⟩ h3
theorem oz:{d e:DR}->{T:TypeId}->{r:Row}->(p:dx d (.sl T e))->(q:dx d (.leaf r))->{x':d.low.den}->{x:d.row.den}->{S:Nat->Prop}->(y:r.den)->gQ F w p x' x S->gQ F w p (q.lo.set x' y) (q.hi.set x y) S/\p.lo.get (q.lo.set x' y)=p.lo.get x'
 |_,_,_,_, .fst p, .fst q,_,_,_,y,h=>by
  obtain⟨A,B,h1,h2,h3⟩:=h;obtain⟨g1,g2⟩:=oz p q y h1;exact⟨⟨A,B,g1,h2,h3⟩,g2⟩
 |_,_,_,_, .fst p, .snd q,_,_,_,y,h=>by
  obtain⟨A,B,h1,h2,h3⟩:=h;exact⟨⟨A,B,h1,nH q y h2,h3⟩,rfl⟩
 |_,_,_,_, .snd p, .fst q,_,_,_,y,h=>by
  obtain⟨A,B,h1,h2,h3⟩:=h;exact⟨⟨A,B,nH q y h1,h2,h3⟩,rfl⟩
 |_,_,_,_, .snd p, .snd q,_,_,_,y,h=>by
  obtain⟨A,B,h1,h2,h3⟩:=h;obtain⟨g1,g2⟩:=oz p q y h2;exact⟨⟨A,B,h1,g1,h3⟩,g2⟩
theorem By{d:DR}{h:Option qj}{i:Nat}{x':d.low.den}{x:d.row.den}{S:Nat->Prop}{r:Row}(q:dx d (.leaf r))(y:r.den)(hr:ke H F w d h i x' x S):ke H F w d h i (q.lo.set x' y) (q.hi.set x y) S:=by
 cases h with
 |none=>exact nH q y hr
 |some h=>
  refine⟨λhi=>nH q y (hr.1 hi),λhi=>?_⟩;obtain⟨T',e,p,h1,h2,h3⟩:=hr.2 hi;obtain⟨g1,g2⟩:=oz p q y h2;exact⟨T',e,p,h1,g1,by rw[g2];exact h3⟩
theorem ak.low(hs:ak U H F w ob n){o s:Nat}{T:TypeId}{dr:DR}{l:List dr.row.den}{h:Option qj}(ho:ob o=some (s, .deep T dr l h)){v:Value}(hv:H.val o=some v):
 ∃(lh:List dr.low.den)(Ss:Nat->Nat->Prop),e7 0 F w T dr.low v lh/\lh.length=l.length/\(∀i(h1:i<lh.length)(h2:i<l.length),ke H F w dr h i lh[i] l[i] (Ss i))/\jy Ss l.length (aN v) (H.sub s):=by
 obtain⟨v',cM,bF⟩:=hs.obj _ _ _ ho;rw[hv]at cM;obtain rfl:=WD cM;obtain⟨lh,Ss,h1,h2,h3,h4⟩:=bF.ok;exact⟨lh,Ss,⟨λk hk=>bF.no k (h4.aN k hk),h1⟩,h2,h3,h4⟩
theorem Path.tU:{r s:Row}->(p:Path r s)->(x:r.den)->(y:s.den)->p.get (p.set x y)=y
 |_,_, .here,_,_=>rfl
 |_,_, .fst p,x,y=>Path.tU p x.1 y
 |_,_, .snd p,x,y=>Path.tU p x.2 y
theorem gQ.DX:{d e:DR}->(p:dx d e)->{x':d.low.den}->{x:d.row.den}->{S:Nat->Prop}->(y':e.low.den)->gQ F w p x' x S->gQ F w p (p.lo.set x' y') x S
 |_,_, .here,_,_,_,_,h=>h
 |_,_, .fst p,_,_,_,y',h=>by
  obtain⟨A,B,h1,h2,h3⟩:=h;exact⟨A,B,h1.DX p y',h2,h3⟩
 |_,_, .snd p,_,_,_,y',h=>by
  obtain⟨A,B,h1,h2,h3⟩:=h;exact⟨A,B,h1,h2.DX p y',h3⟩
def mO(m:Nat->Prop)(Ss:Nat->Nat->Prop)(c:Nat)(k:Nat):Prop:=m k\/∃i,i<c/\Ss i k
theorem jy.less{Ss:Nat->Nat->Prop}{c:Nat}{m S:Nat->Prop}(h:jy Ss c m S)(j:Nat){B:Nat->Prop}(hB:∀k,B k->Ss j k):jy (λi=>if i=j then B else Ss i) c m (mO m (λi=>if i=j then B else Ss i) c):=by
 have sub:∀i k,(if i=j then B else Ss i) k->Ss i k:=by
  intro i k hk;by_cases e:i=j
  .subst e;rw[YB rfl]at hk;exact hB k hk
  .rwa [YA e]at hk
 exact⟨λk=>Iff.rfl,λi i' k h1 h2 bY h3 h4=>h.two i i' k h1 h2 bY (sub i k h3) (sub i' k h4),λi k h1 h2=>h.out i k h1 (sub i k h2)⟩
theorem jy.vM{Ss:Nat->Nat->Prop}{c:Nat}{m S:Nat->Prop}(h:jy Ss c m S)(j:Nat){B:Nat->Prop}(hB:∀k,B k->Ss j k):∀k,mO m (λi=>if i=j then B else Ss i) c k->S k:=by
 rintro k (hk|⟨i,hi,hk⟩)
 .exact h.aN k hk
 .by_cases e:i=j
  .subst e;rw[YB rfl]at hk;exact h.part hi k (hB k hk)
  .rw[YA e]at hk;exact h.part hi k hk
theorem GN{α β:Type}{rel:Nat->α->β->(Nat->Prop)->Prop}{lh:List α}{l:List β}{Ss:Nat->Nat->Prop}{j:Nat}{x':α}{x:β}{B:Nat->Prop}(h:∀i(h1:i<lh.length)(h2:i<l.length),i≠j->rel i lh[i] l[i] (Ss i))(hj:rel j x' x B):
 ∀i(h1:i<(lh.set j x').length)(h2:i<(l.set j x).length),rel i (lh.set j x')[i] (l.set j x)[i] ((λi=>if i=j then B else Ss i) i):=by
 intro i h1 h2;by_cases e:i=j
 .subst e;simp only[List.getElem_set_self,if_true];exact hj
 .simp only[List.getElem_set_ne (Ne.symm e),YA e];exact h i (by simpa using h1) (by simpa using h2) e
theorem ai.lR{H:ai}{n:Nat}{S:Nat->Prop}{t:Th}(h:H.con n=Yw):H.le ((H.cT n S).aK n t):=(ai.Bj h).trans (ai.dD h)
theorem gS.tV(hs:ak U H F w ob n){o s:Nat}{t t':Th}{v0:Value}(ho:ob o=some (s,t))(hv:H.val o=some v0)(hb:t'.base=t'){eat:List Nat}(SN:o∈eat)(S':Nat->Prop)(DK:∀k,fp S' v0 t' k->bn H ob eat k){D:ag}{v:Value}
 (aU:Ext (bn H ob eat) w w')(iP:eC ((H.cT n S').aK n t') F w' S' v0 t')(hd:af ((H.cT n S').aK n t') F w' D v):gW H F w ob n {dst:=D,eat:=eat,make:=[(o,(n,t'))]} v w':=by
 obtain⟨v1,p3,bF⟩:=hs.obj _ _ _ ho;rw[hv]at p3;obtain rfl:=WD p3;have hf:=hs.fresh n (WH _) (by omega)
 have dN:((H.cT n S').aK n t').sub n=S':=by simp[ai.aK,ai.cT]
 refine⟨(H.cT n S').aK n t',F,⟨ai.lR hf.2,aU,λ_ h=>h,λ_ h=> .inl h,λb hb=>Xg (hs.lt b hb) aU.size⟩,λm hm=>?_,hd,⟨λo' s' q hq=>?_,λo1 o2 s1 s2 q1 q2 u1 u2 bY h1 h2=>?_⟩,λo' h=>?_⟩
 .refine⟨id,λh=>?_⟩;simp[ai.aK,ai.cT,show m≠n from by omega,h]
 .obtain⟨rfl,e⟩:=bf hq;obtain⟨rfl,rfl⟩:=X9 e;refine⟨v0,hv,bF.one,by simp[ai.aK,hb],by rw[dN];exact iP,λk hk=>?_⟩;rw[dN]at hk;have:=DK k hk;exact⟨hs.db k this,Xg (hs.qk k this) aU.size, .inr this⟩
 .exact absurd ((bf h1).1.trans (bf h2).1.symm) bY
 .left
  obtain⟨y,hy⟩:=Xo.1 h;rw[(bf hy).1];exact SN
def mP(T:aF P)(ob:Nat->Option (Nat×Th))(n:Nat)(t:TypeId)(D:ag)(k:cI->Option R):Option R:=
 match find T.und t with
 |none=>Yw
 |some kk=>match D with
  | .dlm o d0 i p off=>match ob o with
    |some (_, .deep T0 dr l h)=>bif d0.beq dr then(match dr.path p with
     |some ⟨.leaf r,q⟩=>bif WI q.lo.off off&&iC T t kk r.size then(idx l i).bind λx=>k {dst:= .val (fJ kk) (.leaf r (q.hi.get x))}else Yw
     |some ⟨.sl T' e',q⟩=>bif WI q.lo.off off&&iC T t kk 1&& !fJ kk then(match h with
       |none=>(idx l i).bind λx=>k {dst:= .val Yy (.own n),eat:=[o],make:=[(o,(n, .deep T0 dr l (some ⟨i,p,n,n+1⟩))),(n,(n+1,Bx T' e' (q.hi.get x)))]}
       |some hh=>bif kg hh.p p then(if decide (hh.i=i)=Yx then(idx l i).bind λ_=>k {dst:= .val Yy (.own hh.o)}else Yw)else Yw)else Yw
     |_=>Yw)else Yw
    |_=>Yw
  |_=>Yw
theorem vN(hs:ak U H F w ob n){o s:Nat}{T0 T':TypeId}{dr e':DR}{l:List dr.row.den}{i:Int}{p:List Bool}{q:dx dr (.sl T' e')}(hq:dr.path p=some ⟨_,q⟩)(bH:ob o=some (s, .deep T0 dr l Yw)){v:Value}(hv:H.val o=some v)
 {j:Nat}(Ii:i=(j:Nat))(hj:j<l.length){lh:List dr.low.den}{Ss:Nat->Nat->Prop}(hm:gD F w T0 dr.low v lh)(hlen:lh.length=l.length)(qI:∀i(h1:i<lh.length)(h2:i<l.length),ke H F w dr Yw i lh[i] l[i] (Ss i))(cA:jy Ss l.length (aN v) (H.sub s)):
 gW H F w ob n {dst:= .val Yy (.own n),eat:=[o],make:=[(o,(n, .deep T0 dr l (some ⟨i,p,n,n+1⟩))),(n,(n+1,Bx T' e' (q.hi.get l[j])))]} (q.lo.get (lh[j]'(by omega))) w:=by
 have Gh:j<lh.length:=by omega
 obtain⟨v1,p3,bF⟩:=hs.obj _ _ _ bH;rw[hv]at p3;obtain rfl:=WD p3;obtain⟨A,B,hA,hB,h2⟩:=fI.out q (qI j Gh hj);obtain⟨_,m2,m3⟩:=oy (H:=H) hA;have Ri:∀k,B k->Ss j k:=h2.right;obtain⟨f1,f2⟩:=hs.fresh n (WH _) (by omega);obtain⟨f3,f4⟩:=hs.fresh (n+1) (by omega) (by omega)
 have xz:o≠n:=λe=>by rw[e,f1]at hv;cases hv
 generalize Kp:Th.deep T0 dr l (some ⟨i,p,n,n+1⟩)=t1;generalize Nl:Bx T' e' (q.hi.get l[j])=t2;generalize hu:q.lo.get lh[j]=u;generalize Of:mO (aN v) (λi=>if i=j then B else Ss i) l.length=So
 have Og:∀k,So k->H.sub s k:=by rw[<-Of];exact cA.vM j Ri
 have SO:∀k,A k->H.sub s k:=λk hk=>cA.part hj k (h2.left k hk)
 have SP:∀k,So k->¬A k:=by
  rw[<-Of]
  rintro k (hk|⟨i',gC,hk⟩) ha
  .exact cA.out j k hj (h2.left k ha) hk
  .by_cases e:i'=j
   .subst e;rw[YB rfl]at hk;exact h2.off k ha hk
   .rw[YA e]at hk;exact cA.two i' j k gC hj e hk (h2.left k ha)
 let H1:ai:=⟨λm=>if m=n then some u else H.val m,λm=>if m=n then some t1 else if m=n+1 then some t2 else H.con m,λm=>if m=n then So else if m=n+1 then A else H.sub m⟩
 have hle:H.le H1:=by
  refine⟨λo v ho=>?_,λs t dz=>?_,λs t dz=>?_⟩
  .have:o≠n:=λe=>by rw[e,f1]at ho;cases ho
   simp[H1,this,ho]
  .have a1:s≠n:=λe=>by rw[e,f2]at dz;cases dz
   have a2:s≠n+1:=λe=>by rw[e,f4]at dz;cases dz
   simp[H1,a1,a2,dz]
  .have a1:s≠n:=λe=>by rw[e,f2]at dz;cases dz
   have a2:s≠n+1:=λe=>by rw[e,f4]at dz;cases dz
   simp[H1,a1,a2]
 have La:H1.val n=some u:=by simp[H1]
 have dZ:∀k,H.sub s k->bn H ob [o] k:=λk hk=>⟨o,by simp,s,_,v,bH,hv,hk⟩
 have ic:u.oneCell'=Yx:=by rw[<-hu];exact m3
 refine⟨H1,F,⟨hle,⟨rfl,⟨rfl,WH _⟩,rfl,WH _,λ_ _ _=>rfl⟩,λ_ h=>h,λ_ h=> .inl h,hs.lt⟩,λm hm=>?_,iZ La ic,⟨λo' s' t hf=>?_,λo1 o2 s1 s2 q1 q2 u1 u2 bY g1 g2 e1 e2 k hk gX=>?_⟩,λo' fZ=>?_⟩
 .have a1:m≠n:=by omega
  have a2:m≠n+1:=by omega
  simp[H1,a1,a2]
 .rw[aw]at hf;split at hf
  .rename_i e;subst e;simp only[WL,XF]at hf;obtain⟨rfl,rfl⟩:=hf
   have I0:H1.sub n=So:=by simp[H1]
   refine⟨v,hle.val _ _ hv,bF.one,?_,?_,λk hk=>?_⟩
   .rw[<-Kp];simp[H1,Th.base,Kp]
   .rw[I0,<-Kp,<-Of];refine⟨lh,_,hm,hlen,λi' a b=>?_,cA.less j Ri⟩;have hr:fI F w dr lh[i'] l[i'] (Ss i'):=qI i' a b;refine⟨λhi=>?_,λhi=>?_⟩
    .have:i'≠j:=λe=>hi (by subst e;exact Ii)
     show fI F w dr lh[i'] l[i'] (if i'=j then B else Ss i')
     rw[YA this];exact hr
    .have hi:i=(i':Int):=hi
     obtain rfl:i'=j:=by omega
     refine⟨T',e',q,hq,?_,?_⟩
     .show gQ F w q lh[i'] l[i'] (if i'=i' then B else Ss i')
      rw[YB rfl];exact hB
     .rw[hu];exact La
   .rw[I0,<-Kp]at hk;have hk:So k:=hk;have:=Og k hk;exact⟨bF.no k this,bF.lt k this, .inr (dZ k this)⟩
  .obtain⟨e0,e⟩:=bf hf;obtain⟨rfl,rfl⟩:=X9 e;rw[e0]
   have I0:H1.sub (n+1)=A:=by simp[H1]
   obtain⟨m1,Rj,_⟩:=oy (H:=H1) hA;rw[Nl,hu]at m1 Rj;refine⟨u,La,ic,?_,by rw[I0];exact m1,λk hk=>?_⟩
   .rw[<-Nl,qF,Nl];simp[H1]
   .rw[I0]at hk;have:=SO k (Rj k hk);exact⟨bF.no k this,bF.lt k this, .inr (dZ k this)⟩
 .have key:∀{k},So k->A k->False:=λa b=>SP _ a b
  have Rk:∀k,fp A u t2 k->A k:=by rw[<-Nl,<-hu];exact m2
  have oA:H1.sub n=So:=by simp[H1]
  have Rl:H1.sub (n+1)=A:=by simp[H1]
  have two:∀{o' s' t'},find [(o,(n,t1)),(n,(n+1,t2))] o'=some (s',t')->(o'=o/\s'=n/\t'=t1)\/(o'=n/\s'=n+1/\t'=t2):=by
   intro o' s' t' hf;rw[aw]at hf;split at hf
   .rename_i e;simp only[WL,XF]at hf;exact .inl ⟨e.symm,hf.1.symm,hf.2.symm⟩
   .obtain⟨e1,e⟩:=bf hf;obtain⟨e2,e3⟩:=X9 e;exact .inr ⟨e1,e2,e3⟩
  rcases two g1 with⟨rfl,rfl,rfl⟩|⟨rfl,rfl,rfl⟩<;>rcases two g2 with⟨rfl,rfl,rfl⟩|⟨rfl,rfl,rfl⟩
  .exact bY rfl
  .rw[oA,<-Kp]at hk;rw[Rl]at gX;rw[La]at e2;obtain rfl:=WD e2;exact key (show So k from hk) (Rk k gX)
  .rw[oA,<-Kp]at gX;rw[Rl]at hk;rw[La]at e1;obtain rfl:=WD e1;exact key (show So k from gX) (Rk k hk)
  .exact bY rfl
 .obtain⟨y,hy⟩:=Xo.1 fZ;rw[aw]at hy;split at hy
  .rename_i e;exact .inl (by rw[<-e];simp)
  .exact .inr (by rw[(bf hy).1];exact WH _)
theorem tW{α β:Type}{l:List α}{lh:List β}(h:lh.length=l.length){i:Int}{x:α}(hi:idx l i=some x):∃j,i=(j:Nat)/\∃(h1:j<lh.length)(h2:j<l.length),x=l[j]/\idx lh i=some lh[j]:=by
 obtain⟨j,hj,av,rfl⟩:=dB hi;refine⟨j,hj,by omega,av,rfl,?_⟩;subst hj
 have GO:j<lh.length:=by omega
 simp[idx,GO]
theorem Bz(T:aF P){t:TypeId}{D:ag}{x:Operand}{k:cI->Option R}{q:R}(h:mP T ob n t D k=some q)(hs:ak U H F w ob n)(hx:af H F w D (ev ρ x)):
 ∃e,k e=some q/\bw P U H F w ρ ob n ⟨some d, .load t x,ty,pos,aft,Yw⟩ e:=by
 unfold mP at h;split at h
 .cases h
 rename_i kk hu;split at h
 case h_2=>cases h
 rename_i o d0 i p off;split at h
 case h_2=>cases h
 rename_i s T0 dr l hh bH;obtain⟨hd,h'⟩:=ax h;clear h;obtain rfl:=DR.eq_of_beq hd;obtain⟨g,o0,qq,m,cap,e1,e2,e5⟩:=hx;obtain⟨lh,Ss,cS,hlen,qI,cA⟩:=hs.low bH e1;split at h'
 .rename_i r sw tS;obtain⟨h1,h2⟩:=ax h';obtain⟨h1,h3⟩:=bC h1;obtain rfl:=beq_true h1;obtain⟨a,ha,hk⟩:=bind_some h2;obtain⟨j,hj,g1,g2,rfl,kc⟩:=tW hlen ha;have pT:=(cS.at rfl e2 kc).path sw.lo _ rfl;rw[DW sw (qI j g1 g2)]at pT;obtain⟨es,hl,GH,hr⟩:=pT;exact⟨_,hk,jA T hu e5 hs (s:= .leaf r _) hr GH (fy T h3)⟩
 .rename_i T' e' sw tS;obtain⟨h1,h2⟩:=ax h';obtain⟨h1,h4⟩:=bC h1;obtain⟨h1,h3⟩:=bC h1;obtain rfl:=beq_true h1
  have mN:fJ kk=Yy:=by simpa using h4
  obtain⟨dd,sj,rG⟩:=(T.und_ok _ _ hu).agg
  have run:∀{j:Nat}(g1:j<lh.length),idx lh i=some lh[j]->(execOp (ev ρ) ⟨some d, .load t x,ty,pos,aft,Yw⟩).run P w= .ok (.value (sw.lo.get lh[j])) w:=by
   intro j g1 kc;have pT:=(cS.at rfl e2 kc).path sw.lo _ rfl;obtain⟨es,hl,GH,hr,_⟩:=pT;rw[hr]at GH;exact sd sj (rG.trans mN) e5 (GH 0 _ rfl)
  split at h2
  .obtain⟨a,ha,hk⟩:=bind_some h2;obtain⟨j,hj,g1,g2,rfl,kc⟩:=tW hlen ha;exact⟨_,hk,bj.val (run g1 kc) (vN hs tS bH e1 hj g2 cS.2 hlen qI cA)⟩
  .rename_i hh;obtain⟨hp,h3⟩:=ax h2;have hp:=mM hp;split at h3
   case isFalse=>cases h3
   rename_i hi;have hi:hh.i=i:=YC hi;obtain⟨a,ha,hk⟩:=bind_some h3;obtain⟨j,hj,g1,g2,rfl,kc⟩:=tW hlen ha;obtain⟨SQ,SR,SU,k1,_,k3⟩:=(qI j g1 g2).2 (hi.trans hj);rw[hp,tS]at k1;cases k1;refine⟨_,hk,aS hs (run g1 kc) (iZ k3 ?_)⟩;have pT:=(cS.at rfl e2 kc).path sw.lo _ rfl;obtain⟨es,_,_,_,A,m',c,zW⟩:=pT;rw[zW];rfl
 .cases h'
def Lb(T:TypeId):(e:DR)->Th->Option (List e.row.den)
 | .leaf r, .own T1 r1 y=>bif WI T1 T then(if h:r1.beq r=Yx then some (ff (r:= .slice r1) (s:= .slice r) (YH Row.slice (Row.eq_of_beq h)) y)else Yw)else Yw
 | .sl T2 e2, .deep T1 (.sl T3 e3) y Yw=>bif WI T1 T then(if h:(DR.sl T3 e3).beq (.sl T2 e2)=Yx then some (DR.eq_of_beq h▸y)else Yw)else Yw
 | .pair a b, .deep T1 (.pair a1 b1) y Yw=>bif WI T1 T then(if h:(DR.pair a1 b1).beq (.pair a b)=Yx then some (DR.eq_of_beq h▸y)else Yw)else Yw
 |_,_=>Yw
theorem ye{T:TypeId}{e:DR}{t:Th}{y:List e.row.den}(h:Lb T e t=some y):t=Bx T e y:=by
 unfold Lb at h;split at h
 .obtain⟨h1,h2⟩:=ax h;split at h2
  .rename_i hb;obtain rfl:=Row.eq_of_beq hb;obtain rfl:=WD h2;rw[beq_true h1];rfl
  .cases h2
 .obtain⟨h1,h2⟩:=ax h;split at h2
  .rename_i hb;cases DR.eq_of_beq hb;obtain rfl:=WD h2;rw[beq_true h1];rfl
  .cases h2
 .obtain⟨h1,h2⟩:=ax h;split at h2
  .rename_i hb;cases DR.eq_of_beq hb;obtain rfl:=WD h2;rw[beq_true h1];rfl
  .cases h2
 .cases h
def tX(h:Option qj)(i:Int)(p:List Bool):Bool:=
 match h with
 |none=>Yx
 |some h=>kg h.p p&&decide (h.i=i)
theorem vO{h:Option qj}{i:Int}{p:List Bool}(hh:tX h i p=Yx){dr e:DR}{T:TypeId}{q:dx dr (.sl T e)}(hq:dr.path p=some ⟨_,q⟩){j:Nat}(hj:i=(j:Nat)){x':dr.low.den}{x:dr.row.den}{S:Nat->Prop}(hr:ke H F w dr h j x' x S):
 ∃B,(∀k,B k->S k)/\gQ F w q x' x B:=by
 cases h with
 |none=>
  obtain⟨A,B,_,h2,h3⟩:=fI.out q (show fI F w dr x' x S from hr);exact⟨B,h3.right,h2⟩
 |some h=>
  have h':(kg h.p p&&decide (h.i=i))=Yx:=hh;obtain⟨h1,h2⟩:=bC h';obtain⟨T',e',q',k1,k2,_⟩:=hr.2 ((YC h2).trans hj);rw[mM h1,hq]at k1;cases k1;exact⟨S,λ_ h=>h,k2⟩
theorem qJ{h:Option qj}{i:Int}{p:List Bool}(hh:tX h i p=Yx){dr:DR}{j:Nat}(hj:i≠(j:Nat)){x':dr.low.den}{x:dr.row.den}{S:Nat->Prop}(hr:ke H F w dr h j x' x S):fI F w dr x' x S:=by
 cases h with
 |none=>exact hr
 |some h=>
  have h':(kg h.p p&&decide (h.i=i))=Yx:=hh;obtain⟨h1,h2⟩:=bC h';exact hr.1 (λe=>hj ((YC h2).symm.trans e))
end
end
end Go.Proofs.YtbladfbbhijpmaaGreat
