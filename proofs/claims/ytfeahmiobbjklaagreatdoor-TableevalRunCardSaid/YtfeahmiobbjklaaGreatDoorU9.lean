/- Joined texts: ModelB Plain Wq PD RA RB RC RD RE RF RI RU. -/
import Derived.Test.YtfeahmiobbjklaaGreatDoorU8
import Derived.Test.YtfeahmiobbjklaaGreatDoorU1
import Derived.Test.YtfeahmiobbjklaaGreatDoorU4
set_option linter.defProp false
open _root_.Decidable renaming decide->ah
open _root_.Bool renaming false->ag,true->af
open _root_.Option renaming some->aa,bind->aqM,none->ae,bind_some->aqN,ne_none_iff_exists'->asv
open _root_.Go.IntKind renaming i64->aqO,bits->asm
open _root_.List renaming range->aq0,getElem?_eq_getElem->aqR,getElem_of_mem->aq6,drop_eq_getElem_cons->aqZ,getElem_mem->aqS,length_take->ard,mem_cons->arx,pairwise_cons->arb,take_append_getElem->ara
open _root_.Classical renaming propDecidable->aro
open _root_.Int renaming tdiv->aq1,tdiv_eq_ediv_of_nonneg->aq7,tmod->aq3
open _root_.Nat renaming le_refl->aqU,le_trans->ark,le_of_lt->ash
open _root_.Sum renaming inr->arM
open _root_.Go.Lib renaming indexByte->ar5
namespace Go.Proofs.YtfeahmiobbjklaaGreatDoor
open Go Go.RowKit
set_option maxRecDepth 100000
set_option linter.unusedSimpArgs false
set_option linter.unusedVariables false
set_option linter.defProp false
section
noncomputable section
open Tk
variable (N:Nat)
set_option maxRecDepth 100000
set_option linter.unusedVariables false
def M.qF(b:aA.den)(c:List Bool):Option Bool:=
aqM (M.jR N b c) λd=>(if(!d)then
aa ag
else
Loop (S:=Int) (X:=Bool) (λa=>(if(ah (a<(c.length:Int)))then
aqM (if(!ah ((aL .and .i64 b.1 a)=0))then
aqM (M.jR N (aL .andNot .i64 b.1 a,aL .andNot .i64 b.2 a) c) λe=>aa e
else
aa ag) λf=>(if f then
aa (.inr ag)
else
aa (.inl (aqO.wrap (a*2))))
else
aa (.inr af))) N 1)
def ahN:Fo 182 (.i1 [.g aA, .l (.slice .bool)]) (.i1 [.l .bool]) (u2 (M.qF N)):=fz N [ahM N] [O,O,T,O,T,L 5 112,O,T,T,B 33 176] Tryz.func182
def M.nM(l:List Int)(m:Int):Option (List aA.den):=
aqM (M.qD N m) λf=>aqM (M.oR N l f) λe=>aqM (qh (e.length:Int) ag) λn=>Loop (S:=Int×(List Bool)×List aA.den) (X:=List aA.den) (λd=>(if(ah (d.1<=f))then
aqM (Loop (S:=Int×(List Bool)×List aA.den) (X:=(List Bool)×List aA.den) (λa=>(if(ah (a.1<(e.length:Int)))then
aqM (aqM (aqM (M.sa N a.1) λo=>(if(!ah (o=d.1))then
aa (a.2.1,a.2.2)
else
Loop (S:=Int×(List Bool)×List aA.den) (X:=(List Bool)×List aA.den) (λb=>(if(ah (b.1<=a.1))then
aqM (aqM (aqM (if(!ah ((aL .and .i64 b.1 a.1)=b.1))then
aa af
else
aqM (M.qE N (a.1,b.1) e b.2.1) λp=>(if(!p)then
aa af
else
aqM (M.qF N (a.1,b.1) e) λq=>aa (!q))) λr=>(if r then
aa (b.2.1,b.2.2)
else
aqM (Loop (S:=Int×List Bool) (X:=List Bool) (λc=>(if(ah (c.1<(e.length:Int)))then
aqM (aqM (idx c.2 c.1) λs=>(if s then
aqM (idx c.2 c.1) λx=>aa (bH c.2 c.1 af)
else
aqM (M.gy N (a.1,b.1) c.1) λt=>aqM (idx c.2 c.1) λy=>aa (bH c.2 c.1 t)):Option (List Bool)) λu=>aa (.inl (aqO.wrap (c.1+1),u))
else
aa (.inr c.2))) N (0,b.2.1):Option (List Bool)) λv=>aqM (cD b.2.2 ([(a.1,b.1)]:List aA.den)) λw=>aa (v,w)):Option ((List Bool)×List aA.den)) λg=>aa (g.1,g.2):Option ((List Bool)×List aA.den)) λh=>aa (.inl (aqO.wrap (b.1+1),h.1,h.2))
else
aa (.inr (b.2.1,b.2.2)))) N (0,a.2.1,a.2.2)):Option ((List Bool)×List aA.den)) λi=>aa (i.1,i.2):Option ((List Bool)×List aA.den)) λj=>aa (.inl (aqO.wrap (a.1+1),j.1,j.2))
else
aa (.inr (a.2.1,a.2.2)))) N (0,d.2.1,d.2.2):Option ((List Bool)×List aA.den)) λk=>aa (.inl (aqO.wrap (d.1+1),k.1,k.2))
else
aa (.inr d.2.2))) N (0,n,([]:List aA.den))
def ahO:Fo 108 (.i1 [.l (.slice az), .l az]) (.w1 119 aA) (u2 (M.nM N)):=fz N [ahH N,ahJ N,ahK N,ahL N,ahN N,Uz N] [O,O,O,O,O,T,O,T,P ⟨[(7, .val ag (.own 224)),(8, .l az)],[(160, .own 4 .bool),(224, .own 119 aA)],[],226⟩,O,R ⟨[(7, .val ag (.own 274))],[(160, .own 4 .bool),(274, .own 119 aA)],[224],276⟩,T,O,T,P ⟨[(7, .val ag (.own 290)),(9, .l az)],[(160, .own 4 .bool),(290, .own 119 aA)],[224],292⟩,O,R ⟨[(7, .val ag (.own 356))],[(160, .own 4 .bool),(356, .own 119 aA)],[290],358⟩,R ⟨[(7, .val ag (.own 356))],[(160, .own 4 .bool),(356, .own 119 aA)],[290],358⟩,O,O,T,P ⟨[(7, .val ag (.own 436)),(10, .l az)],[(160, .own 4 .bool),(436, .own 119 aA)],[290],438⟩,O,R ⟨[(7, .val ag (.own 486))],[(160, .own 4 .bool),(486, .own 119 aA)],[436],488⟩,R ⟨[(7, .val ag (.own 486))],[(160, .own 4 .bool),(486, .own 119 aA)],[436],488⟩,O,T,B 61 566,R ⟨[],[(160, .own 4 .bool)],[],567⟩,O,T,P ⟨[(12, .l az)],[(160, .own 4 .bool)],[],583⟩,O,T,R ⟨[],[(160, .own 4 .bool)],[],648⟩] Tryz.func108
def M.jk(u:cz.den)(v:Int)(p:Int)(w:Int):Option (Int×(List (List aA.den))×(List Int)×List aM.den):=
aqM (idx u.2.2 v) λi=>aqM (M.pL N i p w) λd=>aqM (Loop (S:=Int×Int×(List (List aA.den))×List Int) (X:=Int×(List (List aA.den))×List Int) (λb=>(if(ah (b.1<(d.1.length:Int)))then
aqM (aqM (idx d.1 b.1) λx=>aqM (idx i.2.2.2.2 x) λm=>aqM (if(ah (0<(m.2.2.2.2.2.1.length:Int)))then
aqM (M.p5 N b.2.2.1 m.2.2.2.2.2.1) λy=>aa (ah (y<0))
else
aa ag) λz=>(if z then
aqM (cD ([]:List aA.den) m.2.2.2.2.2.1) λA=>aqM (cD b.2.2.1 ([A]:List (List aA.den))) λC=>aqM (idx d.1 b.1) λD=>aqM (cD b.2.2.2 ([D]:List Int)) λF=>aa (b.2.1,C,F)
else
aa (b.2.1,b.2.2.1,b.2.2.2)):Option (Int×(List (List aA.den))×List Int)) λn=>aa (.inl (aqO.wrap (b.1+1),n.1,n.2.1,n.2.2))
else
aa (.inr (b.2.1,b.2.2.1,b.2.2.2)))) N (0,p,([]:List (List aA.den)),([]:List Int)):Option (Int×(List (List aA.den))×List Int)) λf=>aqM (Loop (S:=Int×List Int) (X:=List Int) (λh=>aqM (uF .i64 1 (f.2.1.length:Int)) λG=>(if(ah (h.1<G))then
aqM (aqM (Loop (S:=Int×List Bool) (X:=List Bool) (λg=>(if(ah (g.1<(d.1.length:Int)))then
aqM (aqM (idx d.1 g.1) λH=>aqM (idx i.2.2.2.2 H) λq=>(if(ah ((q.2.2.2.2.2.1.length:Int)=0))then
aqM (cD g.2 ([af]:List Bool)) λI=>aa I
else
aqM (M.p5 N f.2.1 q.2.2.2.2.2.1) λQ=>aqM (yG .i64 h.1 Q) λU=>aqM (cD g.2 ([ah ((aL .and .i64 U 1)=1)]:List Bool)) λV=>aa V):Option (List Bool)) λW=>aa (.inl (aqO.wrap (g.1+1),W))
else
aa (.inr g.2))) N (0,([]:List Bool)):Option (List Bool)) λY=>aqM (M.lD N d.2.1 d.2.2 Y) λo=>aqM ((if(ah (0<=o))then
aqM (idx d.1 o) λZ=>aa Z
else
aa o):Option Int) λj28=>aqM (cD h.2 ([j28]:List Int)) λl30=>aa l30:Option (List Int)) λj17=>aa (.inl (aqO.wrap (h.1+1),j17))
else
aa (.inr h.2))) N (0,([]:List Int)):Option (List Int)) λr=>aqM (Loop (S:=Int×Int×(List (List aA.den))×(List Int)×List aM.den) (X:=Int×(List (List aA.den))×(List Int)×List aM.den) (λa=>(if(ah (a.1<(i.2.2.2.2.length:Int)))then
aqM (aqM (aqM (Loop (S:=Int×List Int) (X:=List Int) (λe=>(if(ah (e.1<(r.length:Int)))then
aqM (aqM (idx r e.1) λx38=>(if(ah (x38=a.1))then
aqM (cD e.2 ([e.1]:List Int)) λl39=>aa l39
else
aa e.2):Option (List Int)) λj37=>aa (.inl (aqO.wrap (e.1+1),j37))
else
aa (.inr e.2))) N (0,([]:List Int)):Option (List Int)) λs=>(if(ah ((s.length:Int)=0))then
aa (a.2.1,a.2.2.1,a.2.2.2.1,a.2.2.2.2)
else
aqM (M.nM N s (f.2.1.length:Int)) λt=>Loop (S:=Int×Int×(List (List aA.den))×(List Int)×List aM.den) (X:=Int×(List (List aA.den))×(List Int)×List aM.den) (λc=>(if(ah (c.1<(t.length:Int)))then
aqM (idx t c.1) λx42=>aqM (cD c.2.2.2.2 ([(x42,a.1)]:List aM.den)) λl43=>aa (.inl (aqO.wrap (c.1+1),c.2.1,c.2.2.1,c.2.2.2.1,l43))
else
aa (.inr (c.2.1,c.2.2.1,c.2.2.2.1,c.2.2.2.2)))) N (0,a.2.1,a.2.2.1,a.2.2.2.1,a.2.2.2.2)):Option (Int×(List (List aA.den))×(List Int)×List aM.den)) λj=>aa (j.1,j.2.1,j.2.2.1,j.2.2.2):Option (Int×(List (List aA.den))×(List Int)×List aM.den)) λk=>aa (.inl (aqO.wrap (a.1+1),k.1,k.2.1,k.2.2.1,k.2.2.2))
else
aa (.inr (a.2.1,a.2.2.1,a.2.2.2.1,a.2.2.2.2)))) N ((-2),f.1,f.2.1,f.2.2,([]:List aM.den)):Option (Int×(List (List aA.den))×(List Int)×List aM.den)) λl=>aa (l.1,l.2.1,l.2.2.1,l.2.2.2)
def W65:Fo 65 (.i1 [.g cz, .l az, .l az, .l az]) (.j1 [.val af (.pair (.leaf az) (.pair (.own 0) (.pair (.own 1) (.own 2))))] [.own 43 (.slice aA), .own 3 az, .own 121 aM] 3) (u4 (M.jk N)):=fz N [ahw N,ahy N,ahG N,ahO N] [O,O,O,O,R ⟨[],[(352, .box 26 (.pair (.leaf az) (.pair (.own 384) (.pair (.own 385) .nil)))),(384, .own 43 (.slice aA)),(385, .own 3 az)],[],387⟩,O,T,P ⟨[(14, .l az)],[(352, .box 26 (.pair (.leaf az) (.pair (.own 400) (.pair (.own 401) .nil)))),(400, .own 43 (.slice aA)),(401, .own 3 az)],[],403⟩,O,T,R ⟨[],[(352, .box 26 (.pair (.leaf az) (.pair (.own 467) (.pair (.own 468) .nil)))),(467, .own 43 (.slice aA)),(468, .own 3 az)],[400,401],470⟩,O,B 67 627,X,X,X,O,O,R ⟨[(17, .val ag (.own 483))],[(483, .own 3 az)],[451],484⟩,O,T,P ⟨[(17, .val ag (.own 499)),(18, .l az)],[(499, .own 3 az)],[451],500⟩,O,R ⟨[(17, .val ag (.own 564))],[(564, .own 3 az)],[499],565⟩,T,O,R ⟨[(19, .val ag (.own 596))],[(596, .own 4 .bool)],[564],597⟩,O,T,P ⟨[(19, .val ag (.own 612)),(20, .l az)],[(612, .own 4 .bool)],[564],613⟩,O,T,R ⟨[(19, .val ag (.own 677))],[(677, .own 4 .bool)],[612],678⟩,X,X,X,X,O,R ⟨[(22, .l az)],[],[],677⟩,X,X,X,X,X,R ⟨[],[(352, .box 26 (.pair (.leaf az) (.pair (.own 384) (.pair (.own 385) (.own 484))))),(384, .own 43 (.slice aA)),(385, .own 3 az),(484, .own 121 aM)],[],488⟩,O,T,P ⟨[(23, .l az)],[(352, .box 26 (.pair (.leaf az) (.pair (.own 384) (.pair (.own 385) (.own 500))))),(384, .own 43 (.slice aA)),(385, .own 3 az),(500, .own 121 aM)],[],504⟩,O,R ⟨[],[(352, .box 26 (.pair (.leaf az) (.pair (.own 384) (.pair (.own 385) (.own 584))))),(384, .own 43 (.slice aA)),(385, .own 3 az),(584, .own 121 aM)],[500],588⟩,R ⟨[],[(352, .box 26 (.pair (.leaf az) (.pair (.own 384) (.pair (.own 385) (.own 584))))),(384, .own 43 (.slice aA)),(385, .own 3 az),(584, .own 121 aM)],[500],588⟩,O,R ⟨[(24, .val ag (.own 616))],[(616, .own 3 az)],[584],617⟩,O,T,P ⟨[(24, .val ag (.own 632)),(25, .l az)],[(632, .own 3 az)],[584],633⟩,O,T,R ⟨[(24, .val ag (.own 697))],[(697, .own 3 az)],[632],698⟩,X,X,X,X,O,O,O,T,P ⟨[(27, .l az)],[(352, .box 26 (.pair (.leaf az) (.pair (.own 384) (.pair (.own 385) (.own 745))))),(384, .own 43 (.slice aA)),(385, .own 3 az),(745, .own 121 aM)],[500],749⟩] Tryz.func65
def M.jF(c:cz.den)(d:Int)(e:Int):Option (List aU.den):=
Loop (S:=Int×List aU.den) (X:=List aU.den) (λa=>aqM (idx c.2.2 d) λf=>(if(ah (a.1<(f.2.2.2.1.length:Int)))then
aqM (M.jk N c d a.1 e) λb=>aqM (cD a.2 ([(b.1,(b.2.1,(b.2.2.1,b.2.2.2)))]:List aU.den)) λg=>aa (.inl (aqO.wrap (a.1+1),g))
else
aa (.inr a.2))) N (0,([]:List aU.den))
def W34:Fo 34 (.i1 [.g cz, .l az, .l az]) (.w1 26 aU) (u3 (M.jF N)):=fz N [W65 N] [O,O,T,O,T,P ⟨[(7, .val ag (.own 64)),(8, .l az)],[(64, .own 26 aU)],[],65⟩] Tryz.func34
def M.rD(b:List Int)(c:Int):Option Bool:=
Loop (S:=Int) (X:=Bool) (λa=>(if(ah (a<(b.length:Int)))then
aqM (idx b a) λd=>(if(ah (d=c))then
aa (.inr af)
else
aa (.inl (aqO.wrap (a+1))))
else
aa (.inr ag))) N 0
def abu:Fo 109 (.i1 [.l (.slice az), .l az]) (.i1 [.l .bool]) (u2 (M.rD N)):=fz N [] [O,T,O,T,L 5 32] Tryz.func109
def M.qG(c:bn.den)(d:Int)(e:List Int):Option Bool:=
aqM (M.lA N c d) λb=>Loop (S:=Int) (X:=Bool) (λa=>(if(ah (a<(b.length:Int)))then
aqM (idx b a) λf=>aqM (M.rD N e f) λg=>(if(!g)then
aa (.inr ag)
else
aa (.inl (aqO.wrap (a+1))))
else
aa (.inr af))) N 0
def ahP:Fo 110 (.i1 [.g bn, .l az, .l (.slice az)]) (.i1 [.l .bool]) (u3 (M.qG N)):=fz N [abu N,abt N] [O,O,T,O,T,L 8 112] Tryz.func110
def M.fu(c:bn.den):Option (Int×List Int):=
Loop (S:=List Int) (X:=Int×List Int) (λa=>(if(ah ((a.length:Int)<(c.2.2.2.1.length:Int)))then
aqM (Loop (S:=Int) (X:=Int) (λb=>aqM (if(ah (b<(c.2.2.2.1.length:Int)))then
aqM (M.rD N a b) λe=>(if e then
aa af
else
aqM (M.qG N c b a) λf=>aa (!f))
else
aa ag) λg=>(if g then
aa (.inl (aqO.wrap (b+1)))
else
aa (.inr b))) N 0:Option Int) λd=>(if(ah (d=(c.2.2.2.1.length:Int)))then
aa (.inr (9,([]:List Int)))
else
aqM (cD a ([d]:List Int)) λh=>aa (.inl h))
else
aa (.inr (0,a)))) N ([]:List Int)
def W66:Fo 66 (.i1 [.g bn]) (.j1 [.val ag (.own 0), .l az] [.own 3 az] 1) (M.fu N):=fz N [abu N,ahP N] [O,O,T,T,P ⟨[(4, .val ag (.own 64))],[(64, .own 3 az)],[],65⟩,O,T,O,R ⟨[(5, .l az)],[],[],177⟩,T,L 5 177,T,B 28 177] Tryz.func66
def M.lY(b:aU.den)(c:Int):Option (Int×Bool):=
Loop (S:=Int) (X:=Int×Bool) (λa=>(if(ah (a<(b.2.2.2.length:Int)))then
aqM (idx b.2.2.2 a) λd=>aqM (M.gy N d.1 c) λe=>(if e then
aqM (idx b.2.2.2 a) λf=>aa (.inr (f.2,af))
else
aa (.inl (aqO.wrap (a+1))))
else
aa (.inr (0,ag)))) N 0
def ahQ:Fo 111 (.i1 [.g aU, .l az]) (.i1 [.l az, .l .bool]) (u2 (M.lY N)):=fz N [Uz N] [O,T,O,T,L 6 64] Tryz.func111
def M.pO(h:bn.den)(c:aU.den)(g:b8.den)(d:Int)(e:Int):Option (aB.den×Int×aD.den):=
aqM (M.jc N c g) λa=>(if(!ah (a.2.2=0))then
aqM ((if(ah (a.2.1<(c.2.2.1.length:Int)))then
aqM (idx c.2.2.1 a.2.1) λi=>aa i
else
aa (-1)):Option Int) λj=>aa ((0,(0,0)),0,(a.2.2,(d,(e,j))))
else
aqM (M.lY N c a.1) λb=>(if(ah (b.1=(-1)))then
aa ((0,(0,0)),0,(10,(d,(e,(-1)))))
else(if(ah (b.1=(-2)))then
aa ((0,(0,0)),0,(11,(d,(e,(-1)))))
else
aqM (idx h.2.2.2.2 b.1) λk=>aqM (M.kU N k.2.2.2.2.2.2.1 g) λf=>(if(!ah (f.2=0))then
aa ((0,(0,0)),0,(f.2,(d,(e,b.1))))
else
aa (f.1,b.1,(0,(0,(0,0))))))))
def W67:Fo 67 (.i1 [.g bn, .g aU, .g b8, .l az, .l az]) (.i1 [.g aB, .l az, .g aD]) (u5 (M.pO N)):=fz N [W11 N,W12 N,ahQ N] [O,O,T,O,T,O,R ⟨[(16, .l az)],[],[],304⟩] Tryz.func67
def M.kV(c:bn.den)(i:List aU.den)(e:b8.den)(j:Int):Option (aD.den×(List aB.den)×List Int):=
aqM (qh (c.2.2.2.1.length:Int) (0,(0,0))) λk=>aqM (qh (c.2.2.2.1.length:Int) 0) λl=>aqM (M.fu N c) λb=>bS (J:=Int×(List aB.den)×(List (List aB.den)×(List aA.den×List bj.den))×(List aB.den)×List Int) (R:=aD.den×(List aB.den)×List Int) (Loop (S:=Int×Int×(List aB.den)×(List (List aB.den)×(List aA.den×List bj.den))×(List aB.den)×List Int) (X:=(Int×(List aB.den)×(List (List aB.den)×(List aA.den×List bj.den))×(List aB.den)×List Int)⊕(aD.den×(List aB.den)×List Int)) (λa=>(if(ah (a.1<(b.2.length:Int)))then
aqM (idx b.2 a.1) λm=>aqM (idx i m) λn=>aqM (idx b.2 a.1) λo=>aqM (M.pO N c n (a.2.1,(a.2.2.1,(a.2.2.2.2.1,a.2.2.2.1))) j o) λd=>(if(!ah (d.2.2.1=0))then
aa (.inr (.inr (d.2.2,([]:List aB.den),([]:List Int))))
else
aqM (idx b.2 a.1) λf=>aqM (idx a.2.2.2.2.1 f) λp=>aqM (idx b.2 a.1) λg=>aqM (idx a.2.2.2.2.2 g) λq=>aa (.inl (aqO.wrap (a.1+1),a.2.1,a.2.2.1,a.2.2.2.1,bH a.2.2.2.2.1 f d.1,bH a.2.2.2.2.2 g d.2.1)))
else
aa (.inr (.inl (a.2.1,a.2.2.1,a.2.2.2.1,a.2.2.2.2.1,a.2.2.2.2.2))))) N (0,e.1,e.2.1,e.2.2.2,k,l)) λh=>aa ((0,(0,(0,0))),h.2.2.2.1,h.2.2.2.2)
def W35:Fo 35 (.i1 [.g bn, .l (.slice aU), .g b8, .l az]) (.j1 [.val ag (.own 0), .val ag (.own 1), .g aD] [.own 40 aB, .own 3 az] 2) (u4 (M.kV N)):=fz N [W66 N,W67 N] [O,O,O,O,J ⟨[],[(16, .box 32 (.pair (.leaf az) (.pair (.leaf (.slice aB)) (.pair (.junk 1) (.leaf (.pair (.slice (.slice aB)) (.pair (.slice aA) (.slice bj)))))))),(128, .own 40 aB),(208, .own 3 az)],[],355⟩,O,T,P ⟨[(15, .l az)],[(16, .box 32 (.pair (.leaf az) (.pair (.leaf (.slice aB)) (.pair (.junk 1) (.leaf (.pair (.slice (.slice aB)) (.pair (.slice aA) (.slice bj)))))))),(128, .own 40 aB),(208, .own 3 az)],[],371⟩] Tryz.func35
def M.mq(N:Nat)(b:cz.den)(a:ff.den)(c:Int):Option (Int×(List aB.den)×List bj.den):=
aqM (idx a.2.2 c) λd=>aa (a.1,d,b.2.1)
def W36:Fo 36 (.i1 [.g cz, .g ff, .l az]) (.i1 [.val af (.pair (.leaf az) (.pair (.leaf (.slice aB)) (.pair .nil (.pair .nil (.pair .nil (.leaf (.slice bj)))))))]) (u3 (M.mq N)):=fz N [] [] Tryz.func36
def M.mL(a:cz.den)(c:Int)(d:ff.den):Option (aD.den×(List aB.den)×(List Int)×List aG.den):=
aqM (M.oP N a) λl=>(if(!l)then
aa ((1,((-1),((-1),(-1)))),([]:List aB.den),([]:List Int),([]:List aG.den))
else
aqM (if(ah (c<0))then
aa af
else
aa (ah ((a.2.2.length:Int)<=c))) λm=>(if m then
aa ((6,((-1),((-1),(-1)))),([]:List aB.den),([]:List Int),([]:List aG.den))
else
aqM (M.nJ N a c d) λh=>(if(!ah (h.2.2=0))then
aa ((h.2.2,(h.1,((-1),(-1)))),([]:List aB.den),([]:List Int),([]:List aG.den))
else
aqM (idx a.2.2 c) λj=>bS (J:=(List (List aB.den))×List aG.den) (R:=aD.den×(List aB.den)×(List Int)×List aG.den) ((if(ah (0<(d.2.2.length:Int)))then
aqM (M.jF N a j.2.1 d.1) λn=>Loop (S:=Int×(List (List aB.den))×List aG.den) (X:=((List (List aB.den))×List aG.den)⊕(aD.den×(List aB.den)×(List Int)×List aG.den)) (λb=>(if(ah (b.1<(d.2.2.length:Int)))then
aqM (idx a.2.2 j.2.1) λo=>aqM (M.mq N a d b.1) λi=>aqM (M.kV N o n (i.1,(i.2.1,(([]:List aB.den),(([]:List (List aB.den)),(([]:List aA.den),i.2.2))))) b.1) λe=>(if(!ah (e.1.1=0))then
aa (.inr (.inr (e.1,([]:List aB.den),([]:List Int),([]:List aG.den))))
else
aqM (cD b.2.1 ([e.2.1]:List (List aB.den))) λp=>aqM (cD b.2.2 ([(e.2.1,e.2.2)]:List aG.den)) λq=>aa (.inl (aqO.wrap (b.1+1),p,q)))
else
aa (.inr (.inl (b.2.1,b.2.2))))) N (0,([]:List (List aB.den)),([]:List aG.den))
else
aa (.inl (([]:List (List aB.den)),([]:List aG.den))))) λk=>aqM (idx a.2.2 c) λr=>aqM (M.jF N a c d.1) λs=>aqM (M.um N a c d k.1) λf=>aqM (M.kV N r s (f.1,(f.2.1,(([]:List aB.den),(f.2.2.1,(f.2.2.2.2,f.2.2.2.1))))) (-1)) λg=>(if(!ah (g.1.1=0))then
aa (g.1,([]:List aB.den),([]:List Int),([]:List aG.den))
else
aa ((0,(0,(0,0))),g.2.1,g.2.2,k.2)))))
def W16:Fo 16 (.i1 [.g cz, .l az, .g ff]) (.j1 [.val af (.pair (.own 0) (.pair (.own 1) (.own 2))), .g aD] [.own 40 aB, .own 3 az, .own 63 aG] 3) (u3 (M.mL N)):=fz N [W18 N,W32 N,W33 N,W34 N,W35 N,W36 N] [O,O,O,T,B 38 160,O,O,O,O,O,J ⟨[(13, .val ag (.own 512))],[(368, .box 55 (.pair .nil (.pair .nil (.own 513)))),(512, .own 27 (.slice aB)),(513, .own 63 aG)],[],515⟩,O,T,O,O,T,P ⟨[(13, .val ag (.own 688)),(16, .l az)],[(368, .box 55 (.pair .nil (.pair .nil (.own 689)))),(688, .own 27 (.slice aB)),(689, .own 63 aG)],[],691⟩] Tryz.func16
def M.o7(b:List aB.den)(c:List aB.den):Option Bool:=
(if(!ah ((b.length:Int)=(c.length:Int)))then
aa ag
else
Loop (S:=Int) (X:=Bool) (λa=>aqM (if(ah (a<(b.length:Int)))then
aa (ah (a<(c.length:Int)))
else
aa ag) λd=>(if d then
aqM (idx b a) λe=>aqM (idx c a) λf=>(if(!(mD aB e f))then
aa (.inr ag)
else
aa (.inl (aqO.wrap (a+1))))
else
aa (.inr af))) N 0)
def W37:Fo 37 (.i1 [.l (.slice aB), .l (.slice aB)]) (.i1 [.l .bool]) (u2 (M.o7 N)):=fz N [] [O,O,T,O,T,L 5 112,T,B 20 112] Tryz.func37
def M.kl(a:aG.den)(b:aG.den):Option Bool:=
aqM (aqM (M.o7 N a.1 b.1) λc=>(if c then
aqM (M.pT N a.2 b.2) λd=>aa d
else
aa ag):Option Bool) λe=>aa e
def W68:Fo 68 (.i1 [.g aG, .g aG]) (.i1 [.l .bool]) (u2 (M.kl N)):=fz N [W23 N,W37 N] [O,B 4 48] Tryz.func68
def M.jG(b:List aG.den)(c:List aG.den):Option Bool:=
(if(!ah ((b.length:Int)=(c.length:Int)))then
aa ag
else
Loop (S:=Int) (X:=Bool) (λa=>aqM (if(ah (a<(b.length:Int)))then
aa (ah (a<(c.length:Int)))
else
aa ag) λd=>(if d then
aqM (idx b a) λe=>aqM (idx c a) λf=>aqM (M.kl N e f) λg=>(if(!g)then
aa (.inr ag)
else
aa (.inl (aqO.wrap (a+1))))
else
aa (.inr af))) N 0)
def W38:Fo 38 (.i1 [.l (.slice aG), .l (.slice aG)]) (.i1 [.l .bool]) (u2 (M.jG N)):=fz N [W68 N] [O,O,T,O,T,L 5 112,T,B 20 112] Tryz.func38
def M.qH(a:uj.den)(b:uj.den):Option Bool:=
aqM (aqM (M.o7 N a.1 b.1) λc=>(if c then
aqM (M.pT N a.2.1 b.2.1) λd=>(if d then
aqM (M.jG N a.2.2 b.2.2) λe=>aa e
else
aa ag)
else
aa ag):Option Bool) λf=>aa f
def W17:Fo 17 (.i1 [.g uj, .g uj]) (.i1 [.l .bool]) (u2 (M.qH N)):=fz N [W23 N,W37 N,W38 N] [O,B 4 48] Tryz.func17
def M.mA(c:cz.den)(e:Int)(d:ff.den):Option Bool:=
aqM (aqM (M.oN N c) λf=>(if(!f)then
aa af
else
aqM (M.nA N d) λg=>aa (!g)):Option Bool) λh=>(if h then
aqM (M.o3 N) λi=>aa i
else
aqM (M.cN N c e d) λa=>aqM (M.mL N c e d) λb=>aqM (aqM (M.qH N (a.2.1,(a.2.2.1,a.2.2.2)) (b.2.1,(b.2.2.1,b.2.2.2))) λj=>(if j then(if(mD aD a.1 b.1)then
aqM (M.o3 N) λk=>aa k
else
aa ag)
else
aa ag):Option Bool) λl=>aa l)
def W4:Fo 4 (.i1 [.g cz, .l az, .g ff]) (.i1 [.l .bool]) (u3 (M.mA N)):=fz N [W9 N,W13 N,W14 N,W15 N,W16 N,W17 N] [O,T,B 18 48,O,O,B 6 400] Tryz.func4
end
end
section
theorem aE{n:Int}(h0: -9223372036854775808<=n)(h1:n<=9223372036854775807):aqO.wrap n=n:=by
 simp[IntKind.wrap,asm,IntKind.signed];omega
theorem aC{α:Type}{l:List α}{k:Nat}(h:k<l.length):idx l (k:Int)=aa l[k]:=by
 grind [idx]
theorem wo{α:Type}{a:α}{l:List α}:idx (a::l) 0=aa a:=rfl
theorem eZ{α:Type}{l m:List α}(h:l.length+m.length<=4294967296):cD l m=aa (l++m):=aj h
def xG{S X:Type}{body:S->Option (S⊕X)}(I:S->Prop)(μ:S->Nat)(Q:X->Prop)
 (step:∀s,I s->(∃s',body s=aa (.inl s')/\I s'/\μ s'<μ s)\/∃x,body s=aa (.inr x)/\Q x):
 ∀N s,I s->μ s<N->∃x,Loop body N s=aa x/\Q x
 |0,_,_,h=>absurd h (by omega)
 |N+1,s,hi,aF=>by
  rcases step s hi with⟨s',hb,mO,hm⟩|⟨x,hb,hq⟩
  .obtain⟨x,hx,hq⟩:=xG I μ Q step N s' mO (by omega)
   grind [Loop]
  grind [Loop]
def JL{S X:Type}{body:S->Option (S⊕X)}(st:Nat->S){x:X}(m:Nat)(hs:∀i,i<m->body (st i)=aa (.inl (st (i+1))))(he:body (st m)=aa (.inr x)){N:Nat}(hN:m<N):Loop body N (st 0)=aa x:=by
 have:∀k i N,i+k=m->k<N->Loop body N (st i)=aa x:=by
  intro k
  induction k with
  |zero=>rintro i (_|N) hi hN;all_goals grind [Loop]
  |succ k ih=>
   rintro i (_|N) hi hN
   all_goals grind [Loop]
 grind
def zk{S X:Type}{body:S->Option (S⊕X)}{N:Nat}{s0:S}(st:Nat->S)(m:Nat)(x:X)(h0:s0=st 0)(hs:∀i,i<m->body (st i)=aa (.inl (st (i+1))))(he:body (st m)=aa (.inr x))(hN:m<N):Loop body N s0=aa x:=by
 rw[h0];exact JL st m hs he hN
def aK:Nat:=18446744073709551616
section
variable {α:Type}
theorem oS(n:Nat)(C:Nat->α)(k:Nat)(v:α):((aq0 n).map C).set k v=(aq0 n).map (λj=>if j=k then v else C j):=by
 apply List.ext_getElem (by simp)
 grind
theorem nN(n:Nat)(p:Nat->Bool):(aq0 (n+1)).filter p=(aq0 n).filter p++(if p n=af then[n]else[]):=by
 grind [List.range_succ]
end
end
end Go.Proofs.YtfeahmiobbjklaaGreatDoor
section
open _root_.Bool renaming false->ag,true->af,false_eq_true->aqT,not_true->arA
open _root_.Option renaming none->ae,some->aa,bind_none->asi,bind_some->aqN,some->asE
open _root_.Go.IntKind renaming i64->aqO
open _root_.List renaming replicate->aqW,take_append_getElem->ara
open _root_.Sum renaming inr->arM
namespace Go.Proofs.YtfeahmiobbjklaaGreatDoor
open Go Go.RowKit
def Wp{α:Type}(m:Option α)(Q:α->Prop):Prop:=∃x,m=aa x/\Q x
def Wp.some{α:Type}{x:α}{Q:α->Prop}(h:Q x):Wp (aa x) Q:=⟨x,rfl,h⟩
theorem Wp.of{α:Type}{m:Option α}{x:α}{Q:α->Prop}(e:m=asE x)(h:Q x):Wp m Q:=⟨x,e,h⟩
def Wp.eq{α:Type}{m:Option α}{x:α}(h:Wp m (· =x)):m=asE x:=by obtain⟨y,e,rfl⟩:=h;exact e
def Wp.mono{α:Type}{m:Option α}{Q Q':α->Prop}(h:Wp m Q)(hq:∀x,Q x->Q' x):Wp m Q':=by obtain⟨x,e,h⟩:=h;exact⟨x,e,hq x h⟩
def Wp.bind{α β:Type}{m:Option α}{k:α->Option β}{Q:β->Prop}(h:Wp m λx=>Wp (k x) Q):Wp (m.bind k) Q:=by
 obtain⟨x,e,h⟩:=h;rw[e];exact h
def Wp.be{α β:Type}{m:Option α}{k:α->Option β}{Q:β->Prop}{x:α}(e:m=asE x)(h:Wp (k x) Q):Wp (m.bind k) Q:=by
 rw[e];exact h
theorem Wp.seq{α β:Type}{m:Option α}{k:α->Option β}{Q:β->Prop}(A:α->Prop)(h:Wp m A)(hk:∀x,A x->Wp (k x) Q):Wp (m.bind k) Q:= .bind (h.mono hk)
def Wp.ite{α:Type}{c:Prop}[Decidable c]{a b:Option α}{Q:α->Prop}(ha:c->Wp a Q)(hb:¬c->Wp b Q):Wp (if c then a else b) Q:=by
 grind
def Wp.dec{α:Type}{c:Prop}[Decidable c]{a b:Option α}{Q:α->Prop}(ha:c->Wp a Q)(hb:¬c->Wp b Q):Wp (if decide c=af then a else b) Q:=by
 grind
def Wp.kq{α:Type}{c:Prop}[Decidable c]{a b:Option α}{Q:α->Prop}(ha:¬c->Wp a Q)(hb:c->Wp b Q):Wp (if(!decide c)=af then a else b) Q:=by
 grind
def yj{J R:Type}(k:J->Option R)(Q:R->Prop):J⊕R->Prop
 | .inl j=>Wp (k j) Q
 | .inr r=>Q r
def Wp.join{J R:Type}{m:Option (J⊕R)}{k:J->Option R}{Q:R->Prop}(h:Wp m (yj k Q)):Wp (bS m k) Q:=by
 obtain⟨x,e,h⟩:=h;unfold bS;rw[e]
 cases x with
 |inl j=>exact h
 |inr r=>exact⟨r,rfl,h⟩
def CQ{S X:Type}(I:S->Prop)(μ:S->Nat)(s:S)(Q:X->Prop):S⊕X->Prop
 | .inl s'=>I s'/\μ s'<μ s
 | .inr x=>Q x
def Wp.loop{S X:Type}{body:S->Option (S⊕X)}{N:Nat}{s0:S}{Q:X->Prop}(I:S->Prop)(μ:S->Nat)(h0:I s0)(hN:μ s0<N)(step:∀s,I s->Wp (body s) (CQ I μ s Q)):Wp (Loop body N s0) Q:=
 xG I μ Q (λs hs=>by
  obtain⟨x,e,h⟩:=step s hs
  cases x with
  |inl s'=>exact .inl ⟨s',e,h⟩
  |inr x=>exact .inr ⟨x,e,h⟩) N s0 h0 hN
theorem Wp.idx{α:Type}{l:List α}{i:Int}{Q:α->Prop}(k:Nat)(hi:i=k)(hk:k<l.length)(h:Q l[k]):Wp (idx l i) Q:=by
 subst hi;exact⟨_,aC hk,h⟩
theorem Wp.wY{α:Type}{l m:List α}{Q:List α->Prop}(hl:l.length+m.length<=4294967296)(h:Q (l++m)):Wp (cD l m) Q:=⟨_,eZ hl,h⟩
def zn{α:Type}{l:List α}{i j:Int}(a b:Nat)(hi:i=a)(hj:j=b)(h:a<=b)(hb:b<=l.length):iE l i j=asE ((l.take b).drop a):=by
 grind [iE]
def pU{α:Type}{l:List α}{b:Nat}(hb:b<=l.length):iE l 0 (b:Int)=asE (l.take b):=by
 have:=zn (l:=l) 0 b rfl rfl (Nat.zero_le _) hb
 grind
def aR{k:Nat}(h:k<9223372036854775807):aqO.wrap ((k:Int)+1)=((k+1:Nat):Int):=by rw[aE]<;>omega
def Ar{k:Nat}(h:k<=9223372036854775807):aqO.wrap (k:Int)=(k:Int):=by rw[aE]<;>omega
end Go.Proofs.YtfeahmiobbjklaaGreatDoor
namespace Go.Proofs.YtfeahmiobbjklaaGreatDoor
open Go Go.RowKit
section
variable {α β:Type}
theorem mr{x:α}{Q:α->Prop}:Wp (aa x) Q↔Q x:=⟨λ⟨y,e,h⟩=>by grind,λh=>⟨x,rfl,h⟩⟩
theorem wq{Q:α->Prop}:Wp (ae:Option α) Q↔False:=⟨λ⟨y,e,h⟩=>(by cases e),False.elim⟩
def wp_bind{m:Option α}{k:α->Option β}{Q:β->Prop}:Wp (m.bind k) Q↔Wp m λx=>Wp (k x) Q:=by
 cases m with
 |none=>simp only[asi,wq]
 |some x=>simp only[aqN,mr]
def Q2{c:Prop}[Decidable c]{a b:Option α}{Q:α->Prop}:Wp (if c then a else b) Q↔(c->Wp a Q)/\(¬c->Wp b Q):=by
 grind
def Q3{c:Prop}[Decidable c]{a b:Option α}{Q:α->Prop}:Wp (if decide c=af then a else b) Q↔(c->Wp a Q)/\(¬c->Wp b Q):=by
 grind
def Lq{c:Prop}[Decidable c]{a b:Option α}{Q:α->Prop}:Wp (if(!decide c)=af then a else b) Q↔(¬c->Wp a Q)/\(c->Wp b Q):=by
 grind
def Q4{c:Bool}{a b:Option α}{Q:α->Prop}:Wp (if(!c)=af then a else b) Q↔(c=ag->Wp a Q)/\(c=af->Wp b Q):=by
 grind
def wp_map{m:Option α}{f:α->β}{Q:β->Prop}:Wp (m.map f) Q↔Wp m λx=>Q (f x):=by
 cases m with
 |none=>simp only[Option.map_none,wq]
 |some x=>simp only[Option.map_some,mr]
def zo{J R:Type}{m:Option (J⊕R)}{k:J->Option R}{Q:R->Prop}:Wp (bS m k) Q↔Wp m (yj k Q):=by
 cases m with
 |none=>exact⟨λ⟨_,e,_⟩=>(by cases e),λ⟨_,e,_⟩=>(by cases e)⟩
 |some s=>cases s with
  |inl j=>rw[mr];exact Iff.rfl
  |inr r=>exact(mr (x:=r)).trans (mr (x:=arM r) (Q:=yj k Q)).symm
def CR{J R:Type}{k:J->Option R}{Q:R->Prop}{j:J}:yj k Q (.inl j)=Wp (k j) Q:=rfl
def CU{J R:Type}{k:J->Option R}{Q:R->Prop}{r:R}:yj k Q (.inr r)=Q r:=rfl
theorem fo{l:List α}{i:Int}{Q:α->Prop}:Wp (idx l i) Q↔∃h:0<=i/\i<(l.length:Int),Q (l[i.toNat]'(by omega)):=by
 by_cases h:0<=i/\i<(l.length:Int)
 .grind [idx,mr]
 .refine⟨λ⟨y,e,_⟩=>?_,λg=>absurd g.1 h⟩
  grind [jI]
def qI{s:ByteArray}{i:Int}{Q:Int->Prop}:Wp (lH s i) Q↔∃h:0<=i/\i<(s.size:Int),Q ((s[i.toNat]'(by omega)).toNat:Int):=by
 unfold lH;rw[wp_map];by_cases h:0<=i/\i<(s.size:Int)
 .grind [mr]
 .refine⟨λ⟨y,e,_⟩=>?_,λg=>absurd g.1 h⟩
  grind
theorem nO{l m:List α}{Q:List α->Prop}:Wp (cD l m) Q↔l.length+m.length<=4294967296/\Q (l++m):=by
 grind [cD,mr,wq]
def wp_cut{l:List α}{i j:Int}{Q:List α->Prop}:Wp (iE l i j) Q↔(0<=i/\i<=j/\j<=l.length)/\Q ((l.take j.toNat).drop i.toNat):=by
 grind [iE,mr,wq]
def p7{m:Int}{z:α}{Q:List α->Prop}:Wp (qh m z) Q↔(0<=m/\m<=4294967296)/\Q (aqW m.toNat z):=by
 grind [qh,mr,wq]
def Q5{m:Option α}{x:α}:Wp m (· =x)↔m=aa x:=⟨λ⟨_,e,h⟩=>h▸e,λe=>⟨x,e,rfl⟩⟩
def Wp.getD{m:Option α}{Q:α->Prop}(h:Wp m Q)(d:α):m=asE (m.getD d)/\Q (m.getD d):=by
 obtain⟨x,e,h⟩:=h
 grind
end
def JM{S X:Type}(As:S->Int)(m k:Nat)(J:Nat->S->Prop)(Q:X->Prop):S⊕X->Prop
 | .inl s=>k<m/\As s=((k+1:Nat):Int)/\J (k+1) s
 | .inr x=>Q x
def aQ{S X:Type}{As:S->Int}{m k:Nat}{J:Nat->S->Prop}{Q:X->Prop}{s:S}:JM As m k J Q (.inl s)=(k<m/\As s=((k+1:Nat):Int)/\J (k+1) s):=rfl
def aO{S X:Type}{As:S->Int}{m k:Nat}{J:Nat->S->Prop}{Q:X->Prop}{x:X}:JM As m k J Q (.inr x)=Q x:=rfl
def Wp.count{S X:Type}{body:S->Option (S⊕X)}{s0:S}{Q:X->Prop}(As:S->Int)(m:Nat)(J:Nat->S->Prop)(hm:m<=9223372036854775807)(h0:As s0=0)(hJ:J 0 s0)
 (step:∀k s,k<=m->As s=(k:Int)->J k s->Wp (body s) (JM As m k J Q)):Wp (Loop body aK s0) Q:=by
 refine Wp.loop (λs=>∃k:Nat,As s=k/\k<=m/\J k s) (λs=>m-(As s).toNat) ⟨0,h0,Nat.zero_le _,hJ⟩ (by unfold aK;omega) λs hs=>?_
 obtain⟨k,hi,hk,hj⟩:=hs
 refine(step k s hk hi hj).mono λr hr=>?_
 cases r with
 |inl s'=>
  obtain⟨h1,h2,h3⟩:=hr;exact⟨⟨k+1,h2,h1,h3⟩,by grind⟩
 |inr x=>exact hr
def bQ{k:Nat}{m:Nat}(hm:m<=9223372036854775807)(h:k<m):aqO.wrap ((k:Int)+1)=((k+1:Nat):Int):=aR (by omega)
def nP{k m:Nat}(h:k<m):decide ((k:Int)<(m:Int))=af:=an (by omega)
def tl{k m:Nat}(h:k<m):((k:Int)<(m:Int))=True:=eq_true (by omega)
def o8{m:Nat}:((m:Int)<(m:Int))=False:=eq_false (by omega)
def cZ{α:Type}(f:Nat->Option α):Nat->Option α
 |0=>ae
 |m+1=>(cZ f m).or (f m)
theorem bO{α:Type}{f:Nat->Option α}:∀{m:Nat},cZ f m=ae↔∀k,k<m->f k=ae
 |0=>by simp[cZ]
 |m+1=>by
  rw[cZ,Option.or_eq_none_iff,bO]
  grind
theorem iB{α:Type}{f:Nat->Option α}{x:α}:∀{m:Nat},cZ f m=aa x->∃k,k<m/\f k=aa x/\∀j,j<k->f j=ae
 |0,h=>by cases h
 |m+1,h=>by
  rw[cZ]at h
  cases e:cZ f m with
  |none=>grind [bO]
  |some y=>
   rw[e]at h;cases h;obtain⟨k,hk,h1,h2⟩:=iB e
   grind
theorem cR{α:Type}{f:Nat->Option α}{x:α}{k:Nat}(hx:f k=aa x)(hn:∀j,j<k->f j=ae):∀{m:Nat},k<m->cZ f m=aa x
 |0,h=>by omega
 |m+1,h=>by
  rw[cZ]
  rcases Nat.lt_succ_iff_lt_or_eq.1 h with h1|rfl
  .rw[cR hx hn h1];rfl
  .rw[bO.2 hn];exact hx
def V9{S X C:Type}(As:S->Int)(acc:S->C)(k:Nat)(c:C)(I:Nat->C->Prop):S⊕X->Prop
 | .inl s=>As s=((k+1:Nat):Int)/\acc s=c/\I (k+1) c
 | .inr _=>False
def Wa{S X:Type}(Q:X->Prop):S⊕X->Prop
 | .inl _=>False
 | .inr x=>Q x
def ot{S X C:Type}{As:S->Int}{acc:S->C}{k:Nat}{c:C}{I:Nat->C->Prop}{s:S}:V9 (X:=X) As acc k c I (.inl s)=(As s=((k+1:Nat):Int)/\acc s=c/\I (k+1) c):=rfl
def ou{S X:Type}{Q:X->Prop}{x:X}:Wa (S:=S) Q (.inr x)=Q x:=rfl
def Wp.fold{S X C α:Type}{body:S->Option (S⊕X)}{s0:S}{Q:X->Prop}(As:S->Int)(acc:S->C)(l:List α)(F:C->α->C)(c0:C)(I:Nat->C->Prop)(hm:l.length<=9223372036854775807)(h0:As s0=0)(hc:acc s0=c0)(hI:I 0 c0)
 (step:∀k s(h:k<l.length),As s=(k:Int)->I k (acc s)->Wp (body s) (V9 As acc k (F (acc s) l[k]) I))
 (fin:∀s,As s=(l.length:Int)->acc s=l.foldl F c0->I l.length (acc s)->Wp (body s) (Wa Q)):Wp (Loop body aK s0) Q:=by
 refine Wp.count As l.length (λk s=>acc s=(l.take k).foldl F c0/\I k (acc s)) hm h0 ⟨by rw[hc];rfl,hc▸hI⟩ λk s hk hs hJ=>?_
 rcases Nat.lt_or_ge k l.length with aF|hge
 .refine(step k s aF hs hJ.2).mono λr hr=>?_
  cases r with
  |inl s'=>
   obtain⟨h1,h2,h3⟩:=hr;refine⟨aF,h1,?_,h2▸h3⟩
   grind [ara]
  |inr x=>exact hr.elim
 .obtain rfl:k=l.length:=by omega
  rw[List.take_length]at hJ
  refine(fin s hs hJ.1 hJ.2).mono λr hr=>?_
  cases r with
  |inl s'=>exact hr.elim
  |inr x=>exact hr
def W_:type_of% @Classical.not_not/\type_of% @mr/\type_of% @wp_bind/\type_of% @Q3/\type_of% @Lq/\type_of% @Q4/\type_of% @Q2/\type_of% @zo/\type_of% @CR/\type_of% @CU/\type_of% @if_true.{1}/\type_of% @if_false.{1}/\type_of% @ite_true.{1}/\type_of% @ite_false.{1}/\type_of% @aqT/\type_of% @Bool.true_eq_false/\type_of% @decide_true/\type_of% @decide_false/\type_of% @decide_eq_decide/\type_of% @true_eq_decide_iff/\type_of% @false_eq_decide_iff/\type_of% @aw/\type_of% @ay/\type_of% @true_implies/\type_of% @false_implies/\type_of% @and_true/\type_of% @true_and/\type_of% @and_false/\type_of% @false_and/\type_of% @or_true/\type_of% @true_or/\type_of% @or_false/\type_of% @false_or/\type_of% @not_true_eq_false/\type_of% @not_false_eq_true/\type_of% @arA/\type_of% @Bool.not_false/\type_of% @Bool.not_eq_true/\type_of% @Bool.not_eq_false/\type_of% @Bool.not_eq_eq_eq_not:=
 ⟨@Classical.not_not,@mr,@wp_bind,@Q3,@Lq,@Q4,@Q2,@zo,@CR,@CU,@if_true.{1},@if_false.{1},@ite_true.{1},@ite_false.{1},@aqT,@Bool.true_eq_false,@decide_true,@decide_false,@decide_eq_decide,@true_eq_decide_iff,@false_eq_decide_iff,@aw,@ay,@true_implies,@false_implies,@and_true,@true_and,@and_false,@false_and,@or_true,@true_or,@or_false,@false_or,@not_true_eq_false,@not_false_eq_true,@arA,@Bool.not_false,@Bool.not_eq_true,@Bool.not_eq_false,@Bool.not_eq_eq_eq_not⟩
end Go.Proofs.YtfeahmiobbjklaaGreatDoor
end
namespace Go.Proofs.YtfeahmiobbjklaaGreatDoor
open Go Go.RowKit
set_option maxRecDepth 100000
set_option linter.unusedSimpArgs false
set_option linter.unusedVariables false
set_option linter.defProp false
namespace L
abbrev Ty:Type:=aA.den
abbrev dc(l:List Nat):List Int:=l.map (λn:Nat=>(n:Int))
def ar(op:Int):Int:=
 if(1<=op/\op<=9)\/(35<=op/\op<=39)then 0 else if op=10\/op=25\/(31<=op/\op<=34)then 1 else if(11<=op/\op<=24)\/(27<=op/\op<=30)then 2 else if op=26 then 3 else-1
def qJ(op:Int):ar op<=3:=by unfold ar;omega
def xH(a:Int)(i:Nat)(sk:List Nat):Nat:=if a=0 then i else sk.getD (sk.length-a.toNat) 0
def iQ:List Ty->Nat->List Nat->List Nat->(Nat×Int)⊕(List Nat×List Nat)
 |[],_,st,sk=> .inr (st,sk)
 |n::e,i,st,sk=>
  if ar n.1<0 then .inl (i,2)else if(sk.length:Int)<ar n.1 then .inl (i,5)else
  if 12<sk.length-(ar n.1).toNat+1 then .inl (i,16)else iQ e (i+1) (st++[xH (ar n.1) i sk]) (sk.take (sk.length-(ar n.1).toNat)++[xH (ar n.1) i sk])
def o9(e:List Ty):Int×Int×List Int:=
 if 48<e.length then(0,4,[])else if e.length=0 then(0,5,[])else match iQ e 0 [] []with
  | .inl (i,c)=>(i,c,[])
  | .inr (st,sk)=>if 1<sk.length then(e.length,4,[])else(0,0,dc st)
def qd(t:Ty)(n:Nat):Prop:=(1<=(t.1:Int)/\(t.1:Int)<=5/\(t.2:Int)=0)\/((t.1:Int)=6/\0<=(t.2:Int)/\(t.2:Int)<n)
instance(t:Ty)(n:Nat):Decidable (qd t n):=by unfold qd;infer_instance
def VR(r:Ty):Prop:=0<=(r.1:Int)/\(r.1:Int)<=r.2/\(r.2:Int)<=109573
instance(r:Ty):Decidable (VR r):=by unfold VR;infer_instance
def NS(a b:Ty):mD aA a b=decide (a=b):=by
 grind [mD]
end L
section
namespace L
abbrev En:Type:=di.den
abbrev OY:Type:=bj.den
abbrev Rw:Type:=iW.den
abbrev Fd:Type:=bJ.den
abbrev Lw:Type:=cz.den
abbrev jm:Type:=bn.den
abbrev kr:Type:=dX.den
def Au(c:Int):M.o6 aK c=aa (decide (97<=c/\c<=122)):=by
 apply Wp.eq;unfold M.o6;simp only[W_,aq,au,reduceCtorEq];omega
def Q6(c:Int):M.qA aK c=aa (decide (48<=c/\c<=57)):=by
 apply Wp.eq;unfold M.qA;simp only[W_,aq,au,reduceCtorEq];omega
def Lr(c:Int):M.r7 aK c=aa (decide ((97<=c/\c<=122)\/(48<=c/\c<=57)\/c=95)):=by
 apply Wp.eq;unfold M.r7;simp only[Au,Q6,W_,aq,au,reduceCtorEq];omega
def GK:∃l,M.jd aK=aa l/\l.length<=100:=⟨(M.jd aK).getD [],by kernel_rfl,by decide+kernel⟩
noncomputable def mN(s:ByteArray):Bool:=(M.bU aK s).getD ag
def wu(s:ByteArray):M.bU aK s=aa (mN s):=by
 obtain⟨l,el,hl⟩:=GK;refine(Wp.getD (Q:=λ_=>True) ?_ ag).1;unfold M.bU;simp only[Au,Lr,el,W_,aq,au,reduceCtorEq];intro h0 h16;refine qI.2 ⟨by omega,λ_=>?_⟩
 refine Wp.count (λs=>s) s.size (λ_ _=>True) (by omega) rfl trivial λk c hk hs _=>?_
 obtain rfl:c=_:=hs;simp only[W_,aq,au,reduceCtorEq,aQ,aO];refine⟨λaF=>qI.2 ⟨by omega,λ_=>⟨by omega,aR (by omega)⟩⟩,λhge=>?_⟩
 refine Wp.count (λs=>s) l.length (λ_ _=>True) (by omega) rfl trivial λk c hk hs _=>?_
 obtain rfl:c=_:=hs;simp only[W_,aq,au,reduceCtorEq,aQ,aO]
 exact λaF=>fo.2 ⟨by omega,λ_=>⟨by omega,aR (by omega)⟩⟩
def eU{β:Type}(l:List (ByteArray×β))(nm:ByteArray):Prop:=∃x∈l,x.1=nm
noncomputable instance{β:Type}(l:List (ByteArray×β))(nm:ByteArray):Decidable (eU l nm):=aro _
noncomputable instance(m:ByteArray)(l:List ByteArray):Decidable (m∈l):=aro _
theorem Ej{β:Type}{l:List (ByteArray×β)}{nm:ByteArray}:eU l nm↔∃k,∃h:k<l.length,l[k].1=nm:=by
 grind [eU,aq6]
theorem rE{β:Type}{l:List (ByteArray×β)}{nm:ByteArray}{m:Nat}:eU (l.take m) nm↔∃k,∃h:k<l.length,k<m/\l[k].1=nm:=by
 rw[Ej];constructor
 all_goals grind
def dZ{p:Nat->Prop}{k:Nat}(h:∀j,j<k->p j)(hk:p k):∀j,j<k+1->p j:=(by grind)
open Classical in
def sc(a:Lw)(sec:Int)(m:Nat)(nm:ByteArray)(hw:a.1.length<=maxLen/\a.2.1.length<=maxLen/\a.2.2.length<=maxLen):
 M.eB aK a sec (m:Int) nm=aa (decide ((∃k,∃h:k<a.1.length,(1<sec\/k<m)/\(a.1[k].1:ByteArray)=nm)\/(∃k,∃h:k<a.2.1.length,(2<sec\/sec=2/\k<m)/\(a.2.1[k].1:ByteArray)=nm)\/∃k,∃h:k<a.2.2.length,(sec=3/\k<m)/\(a.2.2[k].1:ByteArray)=nm)):=by
 unfold maxLen at hw;apply Wp.eq;unfold M.eB;simp only[zo]
 refine Wp.count (λs=>s) a.1.length (λk _=>∀j,j<k->∀h:j<a.1.length,¬((1<sec\/j<m)/\(a.1[j].1:ByteArray)=nm)) hw.1 rfl (λj hj=>by omega) λk c hk hs hJ=>?_
 obtain rfl:c=_:=hs;simp only[W_,aq,au,reduceCtorEq,aQ,aO];refine⟨λaF=>?_,λhge=>?_⟩
 .have aF:k<a.1.length:=by omega
  simp only[aC aF,W_,aq,au,reduceCtorEq,bQ hw.1 aF];exact⟨λh1=>⟨λh2=> .inl ⟨k,aF, .inl h1,h2⟩,λh2=>⟨aF,dZ hJ λ_ h=>h2 h.2⟩⟩,(by grind)⟩
 have hE:¬∃k,∃h:k<a.1.length,(1<sec\/k<m)/\(a.1[k].1:ByteArray)=nm:=(by grind)
 simp only[hE,false_or];clear hJ hE
 refine Wp.count (λs=>s) a.2.1.length (λk _=>∀j,j<k->∀h:j<a.2.1.length,¬((2<sec\/sec=2/\j<m)/\(a.2.1[j].1:ByteArray)=nm)) hw.2.1 rfl (λj hj=>by omega) λk c hk hs hJ=>?_
 obtain rfl:c=_:=hs;simp only[W_,aq,au,reduceCtorEq,aQ,aO];refine⟨λaF=>?_,λhge=>?_⟩
 .have aF:k<a.2.1.length:=by omega
  simp only[aC aF,W_,aq,au,reduceCtorEq,bQ hw.2.1 aF];exact⟨λh1=>⟨λh2=> .inl ⟨k,aF, .inl h1,h2⟩,λh2=>⟨aF,dZ hJ λ_ h=>h2 h.2⟩⟩,(by grind)⟩
 have hE:¬∃k,∃h:k<a.2.1.length,(2<sec\/sec=2/\k<m)/\(a.2.1[k].1:ByteArray)=nm:=(by grind)
 simp only[hE,false_or];clear hJ hE
 refine Wp.count (λs=>s) a.2.2.length (λk _=>∀j,j<k->∀h:j<a.2.2.length,¬((sec=3/\j<m)/\(a.2.2[j].1:ByteArray)=nm)) hw.2.2 rfl (λj hj=>by omega) λk c hk hs hJ=>?_
 obtain rfl:c=_:=hs;simp only[W_,aq,au,reduceCtorEq,aQ,aO];refine⟨λaF=>?_,λhge=>?_⟩
 .have aF:k<a.2.2.length:=by omega
  simp only[aC aF,W_,aq,au,reduceCtorEq,bQ hw.2.2 aF]
  grind
 grind
def tn(l:List Fd)(m:Nat)(nm:ByteArray)(hl:l.length<=maxLen):M.je aK l (m:Int) nm=aa (decide (eU (l.take m) nm)):=by
 unfold maxLen at hl;apply Wp.eq;unfold M.je
 refine Wp.count (λs=>s) l.length (λk _=>∀j,j<k->∀h:j<l.length,j<m->¬(l[j].1:ByteArray)=nm) hl rfl (λj hj=>by omega) λk c hk hs hJ=>?_
 obtain rfl:c=_:=hs
 have Dz:(k:Nat)>=l.length\/k>=m->¬eU (l.take m) nm:=λhge h=>by
  grind [rE]
 simp only[W_,aq,au,reduceCtorEq,aQ,aO];refine⟨λh1=>⟨λh2=>?_,λh2=>Dz (by omega)⟩,λh1=>Dz (by omega)⟩
 have aF:k<l.length:=by omega
 simp only[aC aF,W_,aq,au,reduceCtorEq,bQ hl aF];exact⟨λh=>rE.2 ⟨k,aF,by omega,h⟩,(by grind)⟩
def cA(t:Ty)(E:List En):M.cW aK t E=aa (decide (qd t E.length)):=by
 obtain⟨(k:Int),(e:Int)⟩:=t;apply Wp.eq;unfold M.cW;simp only[W_,aq,au,reduceCtorEq];simp only[qd];grind
def Ls(r:Ty):M.jv aK r=aa (decide (VR r)):=by
 obtain⟨(k:Int),(e:Int)⟩:=r;apply Wp.eq;unfold M.jv;simp only[W_,aq,au,reduceCtorEq];simp only[VR];grind
def Ju(t:Ty)(E:List En):Int×Int:=
 if¬qd t E.length then(0,-1)else if(t.1:Int)=1 then(0,1)else if(t.1:Int)=2 then(-1000000000000,1000000000000)else if(t.1:Int)=3 then(-1000000000000000,1000000000000000)else if(t.1:Int)=4 then(-1000000000,1000000000)else if(t.1:Int)=5 then(0,109572)
 else(0,aqO.wrap ((((E[(t.2:Int).toNat]?).map λe=>(e.2.length:Int)).getD 0)-1))
def Q7(t:Ty)(E:List En):M.nB aK t E=aa (Ju t E):=by
 obtain⟨(k:Int),(e:Int)⟩:=t;apply Wp.eq;unfold M.nB Ju;simp only[cA,W_,aq,au,reduceCtorEq];by_cases hv:qd (k,e) E.length
 .simp only[hv,not_true_eq_false,if_false,false_implies,true_implies,true_and];refine⟨λh=>by rw[aj h],λh1=>⟨λh=>by rw[ai h1,aj h],λh2=>⟨λh=>by rw[ai h1,ai h2,aj h],λh3=>⟨λh=>by rw[ai h1,ai h2,ai h3,aj h],λh4=>⟨(by grind),λh5=>?_⟩⟩⟩⟩⟩;simp only[qd]at hv;dsimp only[az,Row.den]at*
  have hi:e.toNat<E.length:=by omega
  refine fo.2 ⟨by omega,?_⟩
  grind
 grind
def Ek(n:Int)(t:Ty)(E:List En):Prop:=(Ju t E).1<=n/\n<=(Ju t E).2
instance(n:Int)(t:Ty)(E:List En):Decidable (Ek n t E):=by unfold Ek;infer_instance
def Q8(n:Int)(t:Ty)(E:List En):M.p4 aK n t E=aa (decide (Ek n t E)):=by
 apply Wp.eq;unfold M.p4;simp only[Q7,W_,aq,au,reduceCtorEq];unfold Ek;omega
def uT(x:Rw)(t:OY)(E:List En):Prop:=¬VR x.1\/(x.1.1:Int)=x.1.2\/(x.2.2.1:Int)<=x.2.1\/¬Ek x.2.1 t.2.1 E\/¬Ek (aqO.wrap ((x.2.2.1:Int)-1)) t.2.1 E\/¬Ek x.2.2.2 t.2.2.1 E
instance(x:Rw)(t:OY)(E:List En):Decidable (uT x t E):=by unfold uT;infer_instance
def Q9(x:Rw)(t:OY)(E:List En):M.qB aK x t E=aa (decide (uT x t E)):=by
 apply Wp.eq;unfold M.qB;simp only[Ls,Q8,W_,aq,au,reduceCtorEq];unfold uT;grind
def sF(a b:Rw):Prop:=VR a.1/\VR b.1/\((a.1.1:Int)<a.1.2/\(a.1.1:Int)<b.1.2/\(b.1.1:Int)<a.1.2/\(b.1.1:Int)<b.1.2)/\(a.2.1:Int)<a.2.2.1/\(a.2.1:Int)<b.2.2.1/\(b.2.1:Int)<a.2.2.1/\(b.2.1:Int)<b.2.2.1
instance(a b:Rw):Decidable (sF a b):=by simp only[sF];dsimp only[az,Row.den]at*;infer_instance
def Ra(a b:Rw):M.nC aK a b=aa (decide (sF a b)):=by
 obtain⟨⟨(a1:Int),(a2:Int)⟩,(a3:Int),(a4:Int),(a5:Int)⟩:=a;obtain⟨⟨(b1:Int),(b2:Int)⟩,(b3:Int),(b4:Int),(b5:Int)⟩:=b;apply Wp.eq;unfold M.nC M.pw;simp only[Ls,W_,aq,au,reduceCtorEq];simp only[sF];grind
open Classical in
noncomputable def vn(t:OY)(E:List En)(k:Nat):Option (Int×Int):=match t.2.2.2[k]? with
 |none=>ae
 |some x=>if uT x t E then aa ((k:Int),3)else if∃y∈t.2.2.2.take k,sF y x then aa ((k:Int),11)else ae
noncomputable def ov(t:OY)(E:List En):Int×Int:=
 if 64<t.2.2.2.length then(64,4)else if¬(qd t.2.1 E.length/\qd t.2.2.1 E.length)then(-1,8)else(cZ (vn t E) t.2.2.2.length).getD (0,0)
def UA(t:OY)(E:List En):M.nD aK t E=aa (ov t E):=by
 apply Wp.eq;unfold M.nD ov;simp only[cA,Q9,Ra,W_,aq,au,reduceCtorEq];refine⟨λh=>by grind,λh64=>?_⟩;rw[ai (c:=64<t.2.2.2.length) (by omega)];refine⟨λh1=>by rw[aj (λg=>h1 g.1)],λh1=>⟨(by grind),λh2=>?_⟩⟩;rw[ai (λg=>g ⟨h1,h2⟩)]
 refine Wp.count (λs=>s) t.2.2.2.length (λk _=>∀j,j<k->vn t E j=ae) (by omega) rfl (λj hj=>by omega) λk s hk hs hJ=>?_
 obtain rfl:s=_:=hs;simp only[W_,aq,au,reduceCtorEq,aQ,aO];refine⟨λaF=>?_,λhge=>?_⟩
 .have aF:k<t.2.2.2.length:=by omega
  have hf:vn t E k=if uT t.2.2.2[k] t E then aa ((k:Int),3)else if∃y∈t.2.2.2.take k,sF y t.2.2.2[k]then aa ((k:Int),11)else ae:=by
   unfold vn;rw[aqR aF]
  simp only[aC aF,W_,aq,au,reduceCtorEq,bQ (m:=t.2.2.2.length) (by omega) aF];refine⟨λhw=>?_,λhw=>?_⟩
  .grind [cR]
  rw[ai hw]at hf
  refine Wp.count (λs=>s) k (λj _=>∀i,i<j->∀h:i<t.2.2.2.length,¬sF t.2.2.2[i] t.2.2.2[k]) (by omega) rfl (λj hj=>by omega) λj c hj hs hI=>?_
  obtain rfl:c=_:=hs;simp only[W_,aq,au,reduceCtorEq,aQ,aO];refine⟨λZm=>?_,λZm=>⟨aF,dZ hJ ?_⟩⟩
  .have xl:j<t.2.2.2.length:=by omega
   simp only[aC xl,W_,aq,au,reduceCtorEq,bQ (m:=k) (by omega) (show j<k by omega)];refine⟨λhc=>?_,(by grind)⟩;rw[cR (hf.trans (aj ⟨_,List.mem_take_iff_getElem.2 ⟨j,by omega,rfl⟩,hc⟩)) hJ aF];rfl
  .rw[hf,ai]
   grind [List.mem_take_iff_getElem]
 grind [bO]
end L
end
namespace L
abbrev vL:Type:=bu.den
def Lt(op:Int):M.gw aK op=aa (ar op):=by
 apply Wp.eq;unfold M.gw ar;simp only[W_,aq,au,reduceCtorEq];omega
def Rb{sk:List Nat}{j:Nat}(h:j<sk.length):idx (dc sk) (j:Int)=aa ((sk.getD j 0:Nat):Int):=by
 grind [aC]
def tq(l:List Nat):(dc l).length=l.length:=List.length_map _
def CV(l:List Nat)(x:Nat):dc l++[(x:Int)]=dc (l++[x]):=by simp[dc]
def nQ(e:List Ty):M.ij aK e=aa (o9 e):=by
 apply Wp.eq;unfold M.ij;simp only[Lt,W_,aq,au,reduceCtorEq];refine⟨λh=>by unfold o9;rw[aj (by omega)],λh48=>⟨λh0=>by unfold o9;rw[ai (by omega),aj (by omega)],λh0=>?_⟩⟩
 have hS:o9 e=match iQ e 0 [] []with
  | .inl (i,c)=>((i:Int),c,[])
  | .inr (st,sk)=>if 1<sk.length then((e.length:Int),4,[])else(0,0,dc st):=by unfold o9;rw[ai (by omega),ai (by omega)]<;>cases iQ e 0 [] []<;>rfl
 refine Wp.count (λs=>s.1) e.length (λk s=>∃st sk,s.2=(dc st,dc sk)/\iQ e 0 [] []=iQ (e.drop k) k st sk/\sk.length<=12/\st.length=k) (by omega) rfl ⟨[],[],rfl,rfl,by simp,rfl⟩ λk s hk hs hJ=>?_
 obtain⟨i,_⟩:=s;obtain⟨st,sk,h,hr,h12,jJ⟩:=hJ;dsimp only at hs h;subst hs h;simp only[W_,aq,au,reduceCtorEq,aQ,aO,tq];refine⟨λaF=>?_,λhge=>?_⟩
 .have aF:k<e.length:=by omega
  rw[aqZ aF,iQ]at hr;simp only[aC aF,W_,aq,au,reduceCtorEq]
  obtain⟨a,ha⟩:∃a,a=ar e[k].1:=⟨_,rfl⟩
  have ha3:=qJ e[k].1;simp only[<-ha]at hr ha3⊢;refine⟨λhn=>?_,λhn=>?_⟩
  .rw[hS,hr,aj hn]
  rw[ai hn]at hr;refine⟨λh5=>?_,λh5=>?_⟩
  .rw[hS,hr,aj h5]
  rw[ai h5]at hr
  have fin:∀x:Nat,x=xH a k sk->Wp (cD (dc (sk.take (sk.length-a.toNat))) [(x:Int)]) (λl8=>Wp (cD (dc st) [(x:Int)]) λl9=>(12<(l8.length:Int)->((k:Int),((16:Int),([]:List Int)))=o9 e)/\(¬12<(l8.length:Int)->k<e.length/\aqO.wrap ((k:Int)+1)=((k+1:Nat):Int)/\∃st sk,(l9,l8)=(dc st,dc sk)/\iQ e 0 [] []=iQ (e.drop (k+1)) (k+1) st sk/\sk.length<=12/\st.length=k+1)):=by
   intro x hx;refine nO.2 ⟨by rw[tq,ard];simp;omega,nO.2 ⟨by rw[tq];simp;omega,?_⟩⟩;rw[CV,CV,tq,List.length_append,ard];simp only[List.length_cons,List.length_nil];refine⟨λh=>?_,λh=>⟨aF,bQ (m:=e.length) (by omega) aF,st++[x],sk.take (sk.length-a.toNat)++[x],rfl,?_,?_,?_⟩⟩
   .rw[hS,hr,aj (by omega)]
   .rw[hr,ai (by omega),hx]
   .rw[List.length_append,ard];simp;omega
   .rw[List.length_append,jJ];rfl
  refine⟨λhp=>?_,λhp=>?_⟩
  .have w1:aqO.wrap ((sk.length:Int)-a)=((sk.length-a.toNat:Nat):Int):=by rw[aE (by omega) (by omega)];omega
   simp only[w1,Rb (show sk.length-a.toNat<sk.length by omega),pU (show sk.length-a.toNat<=(dc sk).length by rw[tq];omega),W_,aq,au,reduceCtorEq];rw[<-List.map_take];exact fin _ (by unfold xH;rw[ai (by omega)])
  .have:a.toNat=0:=by omega
   have:=fin k (by unfold xH;rw[aj (by omega)]);rw[‹a.toNat=0›,Nat.sub_zero,List.take_length]at this;exact this
 .obtain rfl:k=e.length:=by omega
  rw[List.drop_length,iQ]at hr;rw[hS,hr];refine⟨λh=>?_,λh=>?_⟩
  .exact(aj (c:=1<sk.length) (by omega)).symm
  .exact(ai (c:=1<sk.length) (by omega)).symm
theorem aW(op:Int):M.oO aK op=aa (decide ((1<=op/\op<=8)\/(14<=op/\op<=16)\/op=33\/op=34\/(36<=op/\op<=39))):=by
 apply Wp.eq;unfold M.oO;simp only[W_,aq,au,reduceCtorEq];omega
def bf(k:Int):M.lu aK k=aa (decide (k=2\/k=3\/k=4)):=by
 apply Wp.eq;unfold M.lu;simp only[W_,aq,au,reduceCtorEq];omega
def aT(k:Int):M.iN aK k=aa (decide (k=2\/k=3\/k=4\/k=5)):=by
 apply Wp.eq;unfold M.iN;simp only[bf,W_,aq,au,reduceCtorEq];omega
def bB(k:Int):M.dM aK k=aa ((k,(0:Int)):Ty):=rfl
def GL(op m:Int)(s:vL):Prop:=(1<=op/\op<=5->Ek m (op,(0:Int)) s.1)/\(14<=op/\op<=16->0<=m/\m<=5)/\(op=34->0<=m/\aq3 m 8<=5)/\(op=6->0<=m)
instance(op m:Int)(s:vL):Decidable (GL op m s):=by unfold GL;infer_instance
def Av(n:Ty)(s:vL):M.nE aK n s=aa (decide (GL n.1 n.2 s)):=by
 obtain⟨(op:Int),(m:Int)⟩:=n;apply Wp.eq;unfold M.nE;simp only[bB,Q7,W_,aq,au,reduceCtorEq];unfold GL Ek;dsimp only[az,Row.den]at*;omega
def UB(op m:Int)(s:vL):Prop:=
 (op=6->aqO.wrap (aq1 m 16)<(s.1.length:Int)/\aq3 m 16<(((s.1[(aqO.wrap (aq1 m 16)).toNat]?).map λe=>(e.2.length:Int)).getD 0))/\
 (op=7->0<=m/\m<(s.2.2.1.length:Int))/\(op=8->0<=m/\m<(s.2.2.2.1.length:Int))/\(op=33->0<=m/\m<(s.2.1.length:Int))/\(op=34->aqO.wrap (aq1 m 8)<(s.2.1.length:Int))/\
 (35<=op/\op<=39->s.2.2.2.2.2=af)/\(36<=op/\op<=39->0<=m/\m<(s.2.2.2.2.1.length:Int))
instance(op m:Int)(s:vL):Decidable (UB op m s):=by unfold UB;infer_instance
theorem Lu{m k:Int}(h0:0<=m)(h1:m<=9223372036854775807)(hk:0<k):0<=aqO.wrap (aq1 m k):=by
 have h2:0<=aq1 m k:=Int.tdiv_nonneg h0 (by omega)
 have h3:aq1 m k<=m:=by rw[aq7 h0];exact Int.ediv_le_self _ h0
 grind [aE]
def Yb(n:Ty)(s:vL)(hm:(n.2:Int)<=9223372036854775807)(hr:GL n.1 n.2 s):M.bN aK n s=aa (decide (UB n.1 n.2 s)):=by
 obtain⟨(op:Int),(m:Int)⟩:=n;apply Wp.eq;unfold M.bN;simp only[W_,aq,au,reduceCtorEq];unfold UB;unfold GL at hr;dsimp only[az,Row.den]at*;refine⟨λh6=>⟨λh=>?_,λh=>?_⟩,λh6=>?_⟩
 .have h0:=Lu (k:=16) (hr.2.2.2 h6) hm (by omega);refine fo.2 ⟨⟨h0,h⟩,?_⟩
  grind
 .grind
 simp only[h6,W_,aq,au,reduceCtorEq]
 cases h5:s.2.2.2.2.2<;>simp only[imp_false,W_,aq,au,reduceCtorEq]<;>omega
def Rc{op m:Int}{s:vL}(hf:UB op m s):Wp (M.cK aK (op,m) s) λ_=>True:=by
 unfold M.cK;simp only[bB,aT,cA,W_,aq,au,reduceCtorEq];unfold UB at hf;dsimp only[az,Row.den]at*
 refine λh6=>⟨λh7=>?_,λh7=>⟨λh8=>?_,λh8=>λh9 Lv=>?_⟩⟩
 .exact fo.2 ⟨hf.2.1 h7,trivial⟩
 .grind [fo]
 .by_cases h:36<=op/\op<=39
  .have:Wp (idx s.2.2.2.2.1 m) λ_=>True:=fo.2 ⟨hf.2.2.2.2.2.2 h,trivial⟩
   grind
  grind
def JN{op m:Int}{a:Ty}{s:vL}(hm:m<=9223372036854775807)(h1:ar op=1)(hr:GL op m s)(hf:UB op m s):Wp (M.dJ aK (op,m) a s) λ_=>True:=by
 have mR:op=10\/op=25\/(31<=op/\op<=34):=by
  clear hr hf;unfold ar at h1;omega
 unfold M.dJ;simp only[bB,bf,cA,W_,aq,au,reduceCtorEq];unfold UB at hf;unfold GL at hr;dsimp only[az,Row.den]at*
 grind [fo,Lu]
def JO(op a b:Int):Wp (M.lv aK op a b) λ_=>True:=by
 unfold M.lv;simp only[bB,W_,aq,au,reduceCtorEq]
def JP(op:Int)(a b:Ty):Wp (M.iA aK op a b) λ_=>True:=by
 obtain⟨r,e,_⟩:=JO op a.1 b.1;unfold M.iA
 repeat' first|exact Wp.some trivial|exact⟨_,bf _,trivial⟩|exact⟨_,aT _,trivial⟩|exact⟨_,bB _,trivial⟩|exact⟨_,e,trivial⟩|refine Wp.seq (λ_=>True) ?_ λ_ _=>?_|refine Wp.dec (λ_=>?_) λ_=>?_|refine Wp.ite (λ_=>?_) λ_=>?_
noncomputable def Re(n:Ty)(l:List Ty)(s:vL):Ty×Int:=(M.bk aK n l s).getD (((0:Int),(0:Int)),(0:Int))
def JQ{n:Ty}{l:List Ty}{s:vL}(hw:WF aA n)(hl:(l.length:Int)=ar n.1):M.bk aK n l s=aa (Re n l s):=by
 refine(Wp.getD (Q:=λ_=>True) ?_ _).1;have hm:(n.2:Int)<=9223372036854775807:=hw.2.2;have h3:=qJ n.1
 have key:Wp (M.nE aK n s) λx=>x=af->Wp (M.bN aK n s) λx=>x=af->((l.length:Int)=0->Wp (M.cK aK n s) λ_=>True)/\(¬(l.length:Int)=0->((l.length:Int)=1->Wp (idx l 0) λx=>Wp (M.dJ aK n x s) λ_=>True)/\
  (¬(l.length:Int)=1->((l.length:Int)=2->Wp (idx l 0) λx=>Wp (idx l 1) λx_1=>Wp (M.iA aK n.1 x x_1) λ_=>True)/\(¬(l.length:Int)=2->Wp (idx l 1) λ_=>Wp (idx l 0) λx=>(x.1:Int)=1->Wp (idx l 1) λ_=>Wp (idx l 2) λ_=>True))):=by
  rw[Av]
  refine .some λhr=>?_
  have hr:GL n.1 n.2 s:=al hr;rw[Yb n s hm hr]
  refine .some λhf=>?_
  have hf:UB n.1 n.2 s:=al hf;exact⟨λ_=>Rc hf,λh0=>⟨λh1=>fo.2 ⟨by omega,JN hm (by omega) hr hf⟩,λh1=>⟨λh2=>fo.2 ⟨by omega,fo.2 ⟨by omega,JP ..⟩⟩,λh2=>fo.2 ⟨by omega,fo.2 ⟨by omega,λ_=>fo.2 ⟨by omega,fo.2 ⟨by omega,trivial⟩⟩⟩⟩⟩⟩⟩
 unfold M.bk;simp only[aW,W_,aq,au,reduceCtorEq]
 grind
noncomputable def p8(s:vL):List Ty->Nat->List Ty->(Nat×Int)⊕List Ty
 |[],_,oT=> .inr oT
 |n::e,i,oT=>
  if(Re n (oT.drop (oT.length-(ar n.1).toNat)) s).2≠0 then .inl (i,(Re n (oT.drop (oT.length-(ar n.1).toNat)) s).2)
  else p8 s e (i+1) (oT.take (oT.length-(ar n.1).toNat)++[(Re n (oT.drop (oT.length-(ar n.1).toNat)) s).1])
noncomputable def NT(e:List Ty)(s:vL):Ty×Int×Int:=
 if(o9 e).2.1≠0 then(((0:Int),(0:Int)),(o9 e).1,(o9 e).2.1)else match p8 s e 0 []with
  | .inl (i,c)=>(((0:Int),(0:Int)),(i:Int),c)
  | .inr oT=>(oT.headD ((0:Int),(0:Int)),0,0)
def Lx{e:List Ty}(h:(o9 e).2.1=0):e.length<=48/\e≠[]/\∃st sk,iQ e 0 [] []= .inr (st,sk):=by
 unfold o9 at h;split at h
 .cases h
 split at h
 .cases h
 rename_i h1 h2;refine⟨by omega,λe=>h2 (by rw[e];rfl),?_⟩;split at h
 .rename_i c hc;exfalso
  have:∀(e:List Ty)(i:Nat)(st sk:List Nat)(j:Nat),iQ e i st sk≠ .inl (j,0):=by
   intro e
   induction e with
   |nil=>intro i st sk j h;cases h
   |cons n e ih=>
    grind [iQ]
  grind
 grind
def Yc{e:List Ty}{s:vL}(hw:∀n∈e,WF aA n):M.pJ aK e s=aa (NT e s):=by
 apply Wp.eq;unfold M.pJ;simp only[nQ,Lt,W_,aq,au,reduceCtorEq];refine⟨λh=>by unfold NT;rw[aj h],λh0=>?_⟩;obtain⟨h48,eG,dK,Rf,Ix⟩:=Lx h0
 have hT:NT e s=match p8 s e 0 []with
  | .inl (i,c)=>(((0:Int),(0:Int)),(i:Int),c)
  | .inr oT=>(oT.headD ((0:Int),(0:Int)),0,0):=by unfold NT;rw[ai (by omega)]
 refine Wp.count (λs=>s.1) e.length (λk q=>∃st sk,q.2.length=sk.length/\iQ e 0 [] []=iQ (e.drop k) k st sk/\p8 s e 0 []=p8 s (e.drop k) k q.2/\q.2.length<=k/\(0<k->q.2≠[])) (by omega) rfl (by grind) λk q hk hs hJ=>?_
 obtain⟨i,oT⟩:=q;obtain⟨st,sk,hl,hr,ht,TR,qe⟩:=hJ;dsimp only at hs hl ht TR qe;subst hs;simp only[W_,aq,au,reduceCtorEq,aQ,aO];refine⟨λaF=>?_,λhge=>?_⟩
 .have aF:k<e.length:=by omega
  rw[aqZ aF,iQ]at hr;rw[aqZ aF,p8]at ht;rw[Ix]at hr;have ha3:=qJ e[k].1;split at hr
  .cases hr
  split at hr
  .cases hr
  split at hr
  .cases hr
  rename_i ha0 ha1 ha2
  have w1:aqO.wrap ((oT.length:Int)-ar e[k].1)=((oT.length-(ar e[k].1).toNat:Nat):Int):=by rw[aE (by omega) (by omega)];omega
  have hd:((oT.drop (oT.length-(ar e[k].1).toNat)).length:Int)=ar e[k].1:=by rw[List.length_drop];omega
  simp only[aC aF,w1,pU (show oT.length-(ar e[k].1).toNat<=oT.length by omega),zn (l:=oT) (oT.length-(ar e[k].1).toNat) oT.length rfl rfl (by omega) (aqU _),List.take_length,JQ (hw _ (aqS aF)) hd,W_,aq,au,reduceCtorEq];refine⟨λhc=>?_,λhc=>?_⟩
  .grind
  .rw[ai (λg=>g hc)]at ht;refine nO.2 ⟨by rw[ard];simp;omega,aF,bQ (m:=e.length) (by omega) aF,_,_,?_,Ix.trans hr,ht,?_,λ_=>by simp⟩
   all_goals grind
 .obtain rfl:k=e.length:=by omega
  rw[List.drop_length,p8]at ht;rw[hT,ht];have:oT≠[]:=qe (List.length_pos_iff.2 eG);obtain⟨a,l,rfl⟩:=List.exists_cons_of_ne_nil this;exact fo.2 ⟨by simp,rfl⟩
end L
namespace L
def ins(n:Int):List Int->List Int
 |[]=>[n]
 |x::l=>if x<n then x::ins n l else if x=n then x::l else n::x::l
def GM(n x:Int)(l:List Int):ins n (x::l)=if x<n then x::ins n l else if x=n then x::l else n::x::l:=rfl
theorem wv(n:Int):∀l:List Int,(ins n l).length<=l.length+1
 |[]=>aqU _
 |x::l=>by
  have:=wv n l
  grind [ins]
theorem qK{n y:Int}:∀{l:List Int},y∈ins n l↔y=n\/y∈l
 |[]=>by simp[ins]
 |x::l=>by
  unfold ins;split
  .rw[arx,qK,arx]
   grind
  grind
def qL(l:List Int)(n:Int)(hl:l.length<=4294967000):M.lz aK l n=aa (ins n l):=by
 apply Wp.eq;unfold M.lz;rw[wp_bind]
 refine Wp.count (λs=>s.2.1) l.length (λk s=>(s.1=ag->s.2.2++ins n (l.drop k)=ins n l/\s.2.2.length<=k)/\(s.1=af->s.2.2++l.drop k=ins n l)/\s.2.2.length<=k+1) (by omega) rfl (by grind) λk s hk hs hJ=>?_
 obtain⟨d,i,out⟩:=s;dsimp only at hs hJ;subst hs;obtain⟨h1,h2,h3⟩:=hJ;simp only[W_,aq,au,reduceCtorEq,aQ,aO];refine⟨λaF=>?_,λhge=>?_⟩
 .have aF:k<l.length:=by omega
  rw[aqZ aF]at h1 h2;simp only[aC aF,bQ (m:=l.length) (by omega) aF,W_,aq,au,reduceCtorEq];refine⟨λhd=>?_,λhd=>?_⟩
  .obtain⟨h1,h4⟩:=h1 hd;rw[GM]at h1
   grind [nO]
  grind [nO]
 .obtain rfl:k=l.length:=by omega
  rw[List.drop_length]at h1 h2;refine⟨λhd=>nO.2 ⟨by simp;omega,(h1 hd).1⟩,λhd=>?_⟩
  grind
def tt(l:List Int)(n:Int)(hl:l.length<=4294967000):M.nF aK l n=aa (ins n l):=qL l n hl
def iO(p:Int->Bool)(e:List Ty):List Int:=e.foldl (λl n=>if p n.1=af then ins n.2 l else l) []
def GN(p:Int->Bool)(e:List Ty):(iO p e).length<=e.length:=by
 unfold iO
 suffices∀(e:List Ty)(l:List Int),(e.foldl (λl n=>if p n.1=af then ins n.2 l else l) l).length<=l.length+e.length by grind
 intro e
 induction e with
 |nil=>intro l;simp
 |cons n e ih=>
  grind [wv]
def GO(op:Int):Bool:=decide (op=7)
def lJ(op:Int):Bool:=decide (op=8)
def GP(op:Int):Bool:=decide (36<=op/\op<=39)
def Ly(e:List Ty)(he:e.length<=100000):M.ji aK e=aa (iO GO e,iO lJ e,iO GP e):=by
 apply Wp.eq;unfold M.ji;rw[wp_bind]
 refine Wp.fold (λs=>s.1) (λs=>s.2) e (λ(c:List Int×List Int×List Int)n=>(if GO n.1=af then ins n.2 c.1 else c.1,if lJ n.1=af then ins n.2 c.2.1 else c.2.1,if GP n.1=af then ins n.2 c.2.2 else c.2.2)) ([],[],[]) (λk c=>c.1.length<=k/\c.2.1.length<=k/\c.2.2.length<=k) (by omega) rfl rfl (by simp) (λk s aF hs hI=>?_) λs hs hc hI=>?_
 .obtain⟨i,a,b,c⟩:=s;dsimp only at hs hI;subst hs;have l1:=wv e[k].2 a;have l2:=wv e[k].2 b;have l3:=wv e[k].2 c;simp only[aj (nP aF),aC aF,qL a _ (by omega),qL b _ (by omega),qL c _ (by omega),bQ (m:=e.length) (by omega) aF,W_,aq,au,reduceCtorEq,ot];unfold GO lJ GP;generalize e[k]=n at*;obtain⟨(op:Int),(m:Int)⟩:=n;dsimp only[az,Row.den]at*;by_cases g1:op=7
  .subst g1;simp only[show¬(7:Int)=8 by omega,show¬(36:Int)<=7 by omega,W_,aq,au,reduceCtorEq];omega
  by_cases g2:op=8
  .subst g2;simp only[show¬(8:Int)=7 by omega,show¬(36:Int)<=8 by omega,W_,aq,au,reduceCtorEq];omega
  by_cases g3:36<=op<;>by_cases g4:op<=39<;>simp only[g1,g2,g3,g4,W_,aq,au,reduceCtorEq]<;>omega
 .obtain⟨i,a,b,c⟩:=s;dsimp only at hs hc;subst hs;simp only[show¬((e.length:Int)<(e.length:Int)) by omega,W_,aq,au,reduceCtorEq,ou]
  have:∀(e:List Ty)(c:List Int×List Int×List Int),e.foldl (λ(c:List Int×List Int×List Int)n=>(if GO n.1=af then ins n.2 c.1 else c.1,if lJ n.1=af then ins n.2 c.2.1 else c.2.1,if GP n.1=af then ins n.2 c.2.2 else c.2.2)) c=(e.foldl (λl n=>if GO n.1=af then ins n.2 l else l) c.1,e.foldl (λl n=>if lJ n.1=af then ins n.2 l else l) c.2.1,e.foldl (λl n=>if GP n.1=af then ins n.2 l else l) c.2.2):=by
   intro e
   induction e with
   |nil=>intro c;rfl
   |cons n e ih=>intro c;rw[List.foldl_cons,ih];rfl
  rw[hc,this];rfl
def uH(n:Nat)(l:List Int):Prop:=l.Pairwise (· < ·)/\∀x∈l,0<=x/\x<(n:Int)
theorem uH.nil{n:Nat}:uH n []:=⟨.nil,λ_ h=>by cases h⟩
def Yd{l:List Int}:∀{a b:Int},l.Pairwise (· < ·)->(∀x∈l,a<=x/\x<b)->(l.length:Int)<=max 0 (b-a):=by
 induction l with
 |nil=>grind
 |cons x l ih=>
  intro a b hp hb;obtain⟨h1,h2⟩:=arb.1 hp;have hx:=hb x (List.mem_cons_self ..);have:=ih (a:=x+1) (b:=b) h2 (by grind)
  grind
theorem uH.len{n:Nat}{l:List Int}(h:uH n l):l.length<=n:=by
 have:=Yd h.1 h.2;omega
def JR{n:Int}:∀{l:List Int},l.Pairwise (· < ·)->(ins n l).Pairwise (· < ·)
 |[],_=>List.pairwise_singleton ..
 |x::l,h=>by
  obtain⟨h1,h2⟩:=arb.1 h;rw[GM];split
  .exact arb.2 ⟨λy hy=>by grind [qK],JR h2⟩
  grind [arb]
theorem uH.ins{n:Nat}{x:Int}{l:List Int}(h:uH n l)(hx:0<=x/\x<(n:Int)):uH n (ins x l):=
 ⟨JR h.1,λy hy=>by rcases qK.1 hy with rfl|hy;exact hx;exact h.2 y hy⟩
def pb(n:Nat)(out l:List Int):List Int:=l.foldl (λo x=>if 0<=x/\x<(n:Int)then ins x o else o) out
theorem uH.pb{n:Nat}:∀{l out:List Int},uH n out->uH n (pb n out l)
 |[],_,h=>h
 |x::l,out,h=>by
  show uH n (L.pb n (if 0<=x/\x<(n:Int)then L.ins x out else out) l)
  refine uH.pb ?_;split
  .exact h.ins ‹_›
  .exact h
def lQ(s:jm)(d:Int):List Int:=
 if 0<=d/\d<(s.2.2.2.1.length:Int)then s.2.2.2.2.foldl (λout r=>if(r.2.1:Int)=d then pb s.2.2.2.1.length (pb s.2.2.2.1.length out (iO lJ r.2.2.2.2.2.1)) (iO lJ r.2.2.2.2.2.2.1)else out) []else[]
def kW(s:jm)(d:Int):uH s.2.2.2.1.length (lQ s d):=by
 unfold lQ;split
 .suffices∀(rs:List kr)(out:List Int),uH s.2.2.2.1.length out->uH s.2.2.2.1.length (rs.foldl (λout r=>if(r.2.1:Int)=d then pb s.2.2.2.1.length (pb s.2.2.2.1.length out (iO lJ r.2.2.2.2.2.1)) (iO lJ r.2.2.2.2.2.2.1)else out) out)from this _ _ .nil
  intro rs
  induction rs with
  |nil=>grind
  |cons r rs ih=>
   grind [uH.pb]
 .exact .nil
def abw(s:jm)(d:Int):M.rC aK s d=aa (decide (0<=d/\d<(s.2.2.2.1.length:Int))):=by
 apply Wp.eq;unfold M.rC;simp only[W_,aq,au,reduceCtorEq];omega
def Few(s:jm):Prop:=s.2.2.2.1.length<=100000/\s.2.2.2.2.length<=100000/\∀r∈s.2.2.2.2,r.2.2.2.2.2.1.length<=100000/\r.2.2.2.2.2.2.1.length<=100000
def Lz(s:jm)(hs:Few s)(d:Int):M.lA aK s d=aa (lQ s d):=by
 apply Wp.eq;unfold M.lA;simp only[abw,W_,aq,au,reduceCtorEq];unfold lQ;refine⟨λh=>by rw[ai h],λh=>?_⟩;rw[aj h];obtain⟨hn,hm,hr⟩:=hs
 refine Wp.fold (λs=>s.1) (λs=>s.2) s.2.2.2.2 (λout(r:kr)=>if(r.2.1:Int)=d then pb s.2.2.2.1.length (pb s.2.2.2.1.length out (iO lJ r.2.2.2.2.2.1)) (iO lJ r.2.2.2.2.2.2.1)else out) [] (λ_ c=>uH s.2.2.2.1.length c) (by omega) rfl rfl .nil (λk q aF hs hI=>?_) λq hs hc hI=>?_
 .obtain⟨i,out⟩:=q;dsimp only at hs hI;subst hs;obtain⟨r1,r2⟩:=hr _ (aqS aF);have l1:=GN lJ s.2.2.2.2[k].2.2.2.2.2.1;have l2:=GN lJ s.2.2.2.2[k].2.2.2.2.2.2.1;simp only[aj (nP aF),tl aF,aC aF,Ly _ r1,Ly _ r2,bQ (m:=s.2.2.2.2.length) (by omega) aF,W_,aq,au,reduceCtorEq,ot];refine⟨(by grind),λhd=>?_⟩
  .simp only[hd,if_true]
   refine Wp.fold (λs=>s.1) (λs=>s.2) (iO lJ s.2.2.2.2[k].2.2.2.2.2.1) (λo x=>if 0<=x/\x<(s.2.2.2.1.length:Int)then ins x o else o) _ (λ_ c=>uH s.2.2.2.1.length c) (by omega) rfl rfl hI (λi c LA hs hI=>?_) λc hs hc hI=>?_
   .obtain⟨i,o⟩:=c;dsimp only at hs hI;subst hs;have:=hI.len;simp only[aj (nP LA),tl LA,aC LA,tt o _ (by omega),bQ (m:=(iO lJ s.2.2.2.2[k].2.2.2.2.2.1).length) (by omega) LA,W_,aq,au,reduceCtorEq,ot];exact⟨λh=>⟨by rw[aj h],by rw[aj h];exact hI.ins h⟩,(by grind)⟩
   obtain⟨i,o⟩:=c;dsimp only at hs hc hI;subst hs;simp only[o8,W_,aq,au,reduceCtorEq,ou];have hc:o=pb _ out (iO lJ s.2.2.2.2[k].2.2.2.2.2.1):=hc;subst hc
   refine Wp.fold (λs=>s.1) (λs=>s.2) (iO lJ s.2.2.2.2[k].2.2.2.2.2.2.1) (λo x=>if 0<=x/\x<(s.2.2.2.1.length:Int)then ins x o else o) _ (λ_ c=>uH s.2.2.2.1.length c) (by omega) rfl rfl hI (λi c LA hs hI=>?_) λc hs hc hI=>?_
   .obtain⟨i,o⟩:=c;dsimp only at hs hI;subst hs;have:=hI.len;simp only[aj (nP LA),tl LA,aC LA,tt o _ (by omega),bQ (m:=(iO lJ s.2.2.2.2[k].2.2.2.2.2.2.1).length) (by omega) LA,W_,aq,au,reduceCtorEq,ot];exact⟨λh=>⟨by rw[aj h],by rw[aj h];exact hI.ins h⟩,(by grind)⟩
   obtain⟨i,o⟩:=c;dsimp only at hs hc hI;subst hs;simp only[o8,W_,aq,au,reduceCtorEq,ou]
   grind [pb]
 .obtain⟨i,out⟩:=q;dsimp only at hs hc;subst hs;simp only[o8,W_,aq,au,reduceCtorEq,ou];exact hc
def stepT(s:jm)(out:List Int):List Int:=out.foldl (λo x=>(lQ s x).foldl (λo y=>ins y o) o) out
def nR(s:jm):Nat->List Int->List Int
 |0,out=>out
 |n+1,out=>stepT s (nR s n out)
def El(s:jm)(d:Int):List Int:=nR s s.2.2.2.1.length (lQ s d)
def uH.Rg{n:Nat}:∀{l out:List Int},(∀x∈l,0<=x/\x<(n:Int))->uH n out->uH n (l.foldl (λo y=>L.ins y o) out)
 |[],_,_,h=>h
 |x::l,out,hx,h=>uH.Rg (l:=l) (out:=L.ins x out) (by grind) (h.ins (hx x (List.mem_cons_self ..)))
def uo(s:jm){out:List Int}(h:uH s.2.2.2.1.length out):uH s.2.2.2.1.length (stepT s out):=by
 unfold stepT
 suffices∀(l o:List Int),uH s.2.2.2.1.length o->uH s.2.2.2.1.length (l.foldl (λo x=>(lQ s x).foldl (λo y=>ins y o) o) o)from this _ _ h
 intro l
 induction l with
 |nil=>grind
 |cons x l ih=>intro o h;exact ih _ (h.Rg (kW s x).2)
def Ye(s:jm)(hs:Few s)(d:Int):M.lB aK s d=aa (El s d):=by
 apply Wp.eq;unfold M.lB;simp only[Lz s hs,W_,aq,au,reduceCtorEq];have hn:=hs.1
 refine Wp.count (λs=>s.2) s.2.2.2.1.length (λk q=>q.1=nR s k (lQ s d)/\uH s.2.2.2.1.length q.1) (by omega) rfl ⟨rfl,kW s d⟩ λk q hk vo hJ=>?_
 obtain⟨out,i⟩:=q;dsimp only at vo hJ;subst vo;obtain⟨hJ,hI⟩:=hJ;have hlen:=hI.len;simp only[W_,aq,au,reduceCtorEq,aQ,aO];refine⟨λaF=>?_,λhge=>?_⟩
 .have aF:k<s.2.2.2.1.length:=by omega
  refine Wp.fold (λs=>s.2) (λs=>s.1) out (λo x=>(lQ s x).foldl (λo y=>ins y o) o) out (λ_ c=>uH s.2.2.2.1.length c) (by omega) rfl rfl hI (λj q hlj vo Wb=>?_) λq vo hc Wb=>?_
  .obtain⟨o,i⟩:=q;dsimp only at vo Wb;subst vo;have dl:=(kW s out[j]).len;simp only[tl hlj,aC hlj,bQ (m:=out.length) (by omega) hlj,W_,aq,au,reduceCtorEq,ot]
   refine Wp.fold (λs=>s.2) (λs=>s.1) (lQ s out[j]) (λo y=>ins y o) o (λ_ c=>uH s.2.2.2.1.length c) (by omega) rfl rfl Wb (λi q LA vo hI2=>?_) λq vo hc hI2=>?_
   .obtain⟨o,i'⟩:=q;dsimp only at vo hI2;subst vo;have:=hI2.len;simp only[tl LA,aC LA,tt o _ (by omega),bQ (m:=(lQ s out[j]).length) (by omega) LA,W_,aq,au,reduceCtorEq,ot];exact hI2.ins ((kW s out[j]).2 _ (aqS LA))
   .obtain⟨o',i'⟩:=q;dsimp only at vo hc hI2;subst vo;simp only[o8,W_,aq,au,reduceCtorEq,ou]
    grind
  .obtain⟨o,i⟩:=q;dsimp only at vo hc Wb;subst vo;simp only[o8,W_,aq,au,reduceCtorEq,ou];exact⟨aF,bQ (m:=s.2.2.2.1.length) (by omega) aF,by rw[hc,hJ];rfl,Wb⟩
 .obtain rfl:k=s.2.2.2.1.length:=by omega
  exact hJ
end L
namespace L
def ow(s:jm):Prop:=s.1.size<=80/\s.2.2.1.length<=14/\s.2.2.2.1.length<=14/\s.2.2.2.2.length<=60/\(∀f∈s.2.2.1,f.1.size<=80)/\(∀f∈s.2.2.2.1,f.1.size<=80)/\∀r∈s.2.2.2.2,r.1.size<=80/\r.2.2.2.2.2.2.2.size<=80/\r.2.2.2.2.2.1.length<=50/\r.2.2.2.2.2.2.1.length<=50
def fZ(l:Lw):Prop:=l.1.length<=9/\l.2.1.length<=9/\l.2.2.length<=5/\(∀e∈l.1,e.1.size<=80/\e.2.length<=20/\∀m∈e.2,m.size<=80)/\(∀t∈l.2.1,t.1.size<=80)/\∀s∈l.2.2,ow s
def vp{α:Type}{l:List α}{p:α->Prop}(h:∀j,j<l.length->∀h:j<l.length,p l[j]):∀x∈l,p x:=λx hx=>by
 grind [aq6]
def NU(s:jm)(hw:WF bn s):Wp (M.mj aK s) λr=>r=af->ow s:=by
 have w1:=hw.2.2.1.1;have w2:=hw.2.2.2.1.1;have w3:=hw.2.2.2.2.1;unfold maxLen at w1 w2 w3;unfold M.mj;simp only[W_,aq,au,reduceCtorEq]
 refine λh1 h2 h3 h4=>?_
 refine Wp.count (λs=>s) s.2.2.1.length (λk _=>∀j,j<k->∀h:j<s.2.2.1.length,(s.2.2.1[j].1:ByteArray).size<=80) w1 rfl (λj hj=>by omega) λk c hk hs hA=>?_
 obtain rfl:c=_:=hs;simp only[W_,aq,au,reduceCtorEq,aQ,aO];refine⟨λaF=>?_,λhge=>?_⟩
 .have aF:k<s.2.2.1.length:=by omega
  simp only[aC aF,bQ w1 aF,W_,aq,au,reduceCtorEq]
  grind
 have hA:=λj(hj:j<s.2.2.1.length)=>hA j (by omega)
 refine Wp.count (λs=>s) s.2.2.2.1.length (λk _=>∀j,j<k->∀h:j<s.2.2.2.1.length,(s.2.2.2.1[j].1:ByteArray).size<=80) w2 rfl (λj hj=>by omega) λk c hk hs hB=>?_
 obtain rfl:c=_:=hs;simp only[W_,aq,au,reduceCtorEq,aQ,aO];refine⟨λaF=>?_,λhge=>?_⟩
 .have aF:k<s.2.2.2.1.length:=by omega
  simp only[aC aF,bQ w2 aF,W_,aq,au,reduceCtorEq]
  grind
 have hB:=λj(hj:j<s.2.2.2.1.length)=>hB j (by omega)
 refine Wp.count (λs=>s) s.2.2.2.2.length (λk _=>∀j,j<k->∀h:j<s.2.2.2.2.length,(s.2.2.2.2[j].1:ByteArray).size<=80/\(s.2.2.2.2[j].2.2.2.2.2.2.2:ByteArray).size<=80/\s.2.2.2.2[j].2.2.2.2.2.1.length<=50/\s.2.2.2.2[j].2.2.2.2.2.2.1.length<=50) w3 rfl (λj hj=>by omega) λk c hk hs hC=>?_
 obtain rfl:c=_:=hs;simp only[W_,aq,au,reduceCtorEq,aQ,aO];refine⟨λaF=>?_,λhge=>?_⟩
 .have aF:k<s.2.2.2.2.length:=by omega
  simp only[aC aF,bQ w3 aF,W_,aq,au,reduceCtorEq]
  exact λh1 h2 h3 h4=>⟨aF,dZ hC (by omega)⟩
 exact⟨by omega,by omega,by omega,by omega,vp hA,vp hB,vp λj hj=>hC j (by omega)⟩
def NV(l:Lw)(hw:WF cz l):Wp (M.oN aK l) λr=>r=af->fZ l:=by
 have w1:=hw.1.1;have w2:=hw.2.1.1;have w3:=hw.2.2.1;unfold maxLen at w1 w2 w3;unfold M.oN;simp only[W_,aq,au,reduceCtorEq]
 refine λh1 h2 h3=>?_
 refine Wp.count (λs=>s) l.1.length (λk _=>∀j,j<k->∀h:j<l.1.length,(l.1[j].1:ByteArray).size<=80/\l.1[j].2.length<=20/\∀m∈l.1[j].2,ByteArray.size m<=80) w1 rfl (λj hj=>by omega) λk c hk hs hA=>?_
 obtain rfl:c=_:=hs;simp only[W_,aq,au,reduceCtorEq,aQ,aO];refine⟨λaF=>?_,λhge=>?_⟩
 .have aF:k<l.1.length:=by omega
  simp only[aC aF,bQ w1 aF,W_,aq,au,reduceCtorEq]
  refine λg1 g2=>?_
  refine Wp.count (λs=>s) l.1[k].2.length (λi _=>∀j,j<i->∀h:j<l.1[k].2.length,ByteArray.size l.1[k].2[j]<=80) (by omega) rfl (λj hj=>by omega) λi c hi hs hB=>?_
  obtain rfl:c=_:=hs;simp only[W_,aq,au,reduceCtorEq,aQ,aO];refine⟨λrN=>?_,λrN=>⟨aF,dZ hA λ_=>⟨by omega,by omega,vp λj hj=>hB j (by omega)⟩⟩⟩
  have rN:i<l.1[k].2.length:=by omega
  simp only[aC rN,bQ (m:=l.1[k].2.length) (by omega) rN,W_,aq,au,reduceCtorEq]
  grind
 have hA:=λj(hj:j<l.1.length)=>hA j (by omega)
 refine Wp.count (λs=>s.2) l.2.1.length (λk _=>∀j,j<k->∀h:j<l.2.1.length,(l.2.1[j].1:ByteArray).size<=80) w2 rfl (λj hj=>by omega) λk c hk hs hB=>?_
 obtain⟨c1,c2⟩:=c;dsimp only at hs;subst hs;simp only[W_,aq,au,reduceCtorEq,aQ,aO];refine⟨λaF=>?_,λhge=>?_⟩
 .have aF:k<l.2.1.length:=by omega
  simp only[aC aF,bQ w2 aF,W_,aq,au,reduceCtorEq]
  grind
 have hB:=λj(hj:j<l.2.1.length)=>hB j (by omega)
 refine Wp.count (λs=>s.2) l.2.2.length (λk _=>∀j,j<k->∀h:j<l.2.2.length,ow l.2.2[j]) w3 rfl (λj hj=>by omega) λk c hk hs hC=>?_
 obtain⟨c1,c2⟩:=c;dsimp only at hs;subst hs;simp only[W_,aq,au,reduceCtorEq,aQ,aO];refine⟨λaF=>?_,λhge=>?_⟩
 .have aF:k<l.2.2.length:=by omega
  simp only[aC aF,bQ w3 aF,W_,aq,au,reduceCtorEq]
  refine λh=>(NU _ (hw.2.2.2 _ (aqS aF))).mono (by grind)
 exact⟨by omega,by omega,by omega,vp hA,vp hB,vp λj hj=>hC j (by omega)⟩
def ow.few{s:jm}(h:ow s):Few s:=⟨by have:=h.2.2.1;omega,by have:=h.2.2.2.1;omega,λr hr=>by
 have:=h.2.2.2.2.2.2 r hr
 omega⟩
abbrev LE:Type:=aD.den
def E9:LE:=((0:Int),((0:Int),((0:Int),(0:Int))))
def oa(sec:Int)(k:Int):Option (Int×Int)->LE
 |none=>E9
 |some (c,e)=>(c,(sec,(k,e)))
noncomputable def Em(ms:List ByteArray)(i:Nat):Option (Int×Int):=match ms[i]? with
 |none=>ae
 |some m=>if mN m=ag then aa (2,100+(i:Int))else if m∈ms.take i then aa (7,100+(i:Int))else ae
noncomputable def pD(l:Lw)(k:Nat):Option (Int×Int):=match l.1[k]? with
 |none=>ae
 |some x=>if mN x.1=ag then aa (2,0)else if eU (l.1.take k) x.1 then aa (7,0)else if x.2.length=0 then aa (5,0)else if 16<x.2.length then aa (4,116)else cZ (Em x.2) x.2.length
def oU{k:Nat}{a:Int}(h:k<=100000)(ha:0<=a/\a<=1000):aqO.wrap (a+(k:Int))=a+(k:Int):=aE (by omega) (by omega)
def nt1(l:Lw)(hw:WF cz l)(k:Nat)(nm:ByteArray):Wp (M.eB aK l 1 (k:Int) nm) λr=>r=af↔eU (l.1.take k) nm:=by
 rw[sc l 1 k nm ⟨hw.1.1,hw.2.1.1,hw.2.2.1⟩];refine .some ?_
 grind [rE]
def nt2(l:Lw)(hw:WF cz l)(k:Nat)(nm:ByteArray):Wp (M.eB aK l 2 (k:Int) nm) λr=>r=af↔eU l.1 nm\/eU (l.2.1.take k) nm:=by
 rw[sc l 2 k nm ⟨hw.1.1,hw.2.1.1,hw.2.2.1⟩];refine .some ?_
 grind [Ej]
def nt3(l:Lw)(hw:WF cz l)(k:Nat)(nm:ByteArray):Wp (M.eB aK l 3 (k:Int) nm) λr=>r=af↔eU l.1 nm\/eU l.2.1 nm\/eU (l.2.2.take k) nm:=by
 rw[sc l 3 k nm ⟨hw.1.1,hw.2.1.1,hw.2.2.1⟩];refine .some ?_
 grind [Ej]
def isT{b:Bool}{P:Prop}(h:b=af↔P):(b=ag↔¬P):=by grind
def Rh(l:Lw)(hw:WF cz l)(k:Nat)(hk:k<l.1.length):M.mo aK l (k:Int)=aa (oa 1 k (pD l k)):=by
 apply Wp.eq;unfold M.mo;simp only[aC hk,wu,W_,aq,au,reduceCtorEq]
 have hE:pD l k=if mN l.1[k].1=ag then aa (2,0)else if eU (l.1.take k) l.1[k].1 then aa (7,0)else if l.1[k].2.length=0 then aa (5,0)else if 16<l.1[k].2.length then aa (4,116)else cZ (Em l.1[k].2) l.1[k].2.length:=by
  unfold pD;rw[aqR hk]
 rw[hE];refine⟨λh=>by rw[aj h];rfl,λh1=>?_⟩;rw[ai (by simp[h1])]
 refine(nt1 l hw k l.1[k].1).mono λr hr=>?_
 refine⟨λh=>by rw[aj (hr.1 h)];rfl,λh2=>?_⟩;rw[ai ((isT hr).1 (by simpa using h2))];refine⟨λh=>by rw[aj (by omega)];rfl,λh3=>?_⟩;rw[ai (by omega)];refine⟨λh=>by rw[aj (by omega)];rfl,λh4=>?_⟩;rw[ai (by omega)]
 refine Wp.count (λs=>s.1) l.1[k].2.length (λi s=>(∀j,j<i->Em l.1[k].2 j=ae)/\s.2.2.1=(1:Int)/\s.2.2.2.1=(k:Int)) (by omega) rfl ⟨λj hj=>by omega,rfl,rfl⟩ λi s hi hs hJ=>?_
 obtain⟨c,s1,s2,s3,s4⟩:=s;dsimp only at hs hJ;subst hs;obtain⟨hJ,g2,g3⟩:=hJ;subst g2 g3;simp only[W_,aq,au,reduceCtorEq,aQ,aO];refine⟨λaF=>?_,λhge=>?_⟩
 .have aF:i<l.1[k].2.length:=by omega
  have hf:Em l.1[k].2 i=if mN l.1[k].2[i]=ag then aa (2,100+(i:Int))else if l.1[k].2[i]∈l.1[k].2.take i then aa (7,100+(i:Int))else ae:=by
   unfold Em;rw[aqR aF]
  simp only[aC aF,oU (k:=i) (a:=100) (by omega) (by omega),bQ (m:=l.1[k].2.length) (by omega) aF,W_,aq,au,reduceCtorEq];refine⟨λh=>?_,λh=>?_⟩
  .rw[cR (hf.trans (aj h)) hJ aF];rfl
  rw[ai (by simp[h])]at hf
  refine Wp.count (λs=>s) i (λj _=>∀q,q<j->∀h:q<l.1[k].2.length,¬l.1[k].2[q]=l.1[k].2[i]) (by omega) rfl (λj hj=>by omega) λj c hj hs hI=>?_
  obtain rfl:c=_:=hs;simp only[W_,aq,au,reduceCtorEq,aQ,aO];refine⟨λhji=>?_,λhji=>⟨aF,dZ hJ ?_⟩⟩
  .have xl:j<l.1[k].2.length:=by omega
   simp only[aC xl,bQ (m:=i) (by omega) (show j<i by omega),W_,aq,au,reduceCtorEq];refine⟨λhc=>?_,(by grind)⟩;rw[cR (hf.trans (aj (List.mem_take_iff_getElem.2 ⟨j,by omega,hc⟩))) hJ aF];rfl
  .rw[hf,ai]
   grind [List.mem_take_iff_getElem]
 .rw[bO.2 λj hj=>hJ j (by omega)];rfl
end L
namespace L
theorem UC{t:OY}{E:List En}{k:Nat}{x:Int×Int}(h:vn t E k=aa x):x.1=k/\(x.2=3\/x.2=11):=by
 unfold vn at h;split at h
 .cases h
 split at h
 .grind
 split at h
 all_goals grind
def UD(t:OY)(E:List En): -1<=(ov t E).1/\(ov t E).1<=64:=by
 unfold ov;split
 .grind
 split
 .grind
 cases h:cZ (vn t E) t.2.2.2.length with
 |none=>grind
 |some x=>
  grind [iB,UC]
noncomputable def sO(l:Lw)(k:Nat):Option (Int×Int):=match l.2.1[k]? with
 |none=>ae
 |some x=>if mN x.1=ag then aa (2,0)else if eU l.1 x.1\/eU (l.2.1.take k) x.1 then aa (7,0)else if(ov x l.1).2=0 then ae else aa ((ov x l.1).2,if 0<=(ov x l.1).1 then 100+(ov x l.1).1 else 0)
def UE(l:Lw)(hw:WF cz l)(k:Nat)(hk:k<l.2.1.length):M.lr aK l (k:Int)=aa (oa 2 k (sO l k)):=by
 apply Wp.eq;unfold M.lr;simp only[aC hk,wu,UA,W_,aq,au,reduceCtorEq]
 have hE:sO l k=if mN l.2.1[k].1=ag then aa (2,0)else if eU l.1 l.2.1[k].1\/eU (l.2.1.take k) l.2.1[k].1 then aa (7,0)else if(ov l.2.1[k] l.1).2=0 then ae else aa ((ov l.2.1[k] l.1).2,if 0<=(ov l.2.1[k] l.1).1 then 100+(ov l.2.1[k] l.1).1 else 0):=by
  unfold sO;rw[aqR hk]
 rw[hE];refine⟨λh=>by rw[aj h];rfl,λh1=>?_⟩;rw[ai (by simp[h1])]
 refine(nt2 l hw k l.2.1[k].1).mono λr hr=>?_
 refine⟨λh=>by rw[aj (hr.1 h)];rfl,λh2=>?_⟩;rw[ai ((isT hr).1 (by simpa using h2))];have hle:=UD l.2.1[k] l.1;refine⟨λh=>by rw[aj h];rfl,λh3=>?_⟩;rw[ai h3];refine⟨λh=>?_,λh=>?_⟩
 .rw[aj h,aE (by omega) (by omega)];rfl
 .rw[ai h];rfl
noncomputable def BK(l:Lw)(x:jm)(i:Nat):Option (Int×Int):=match x.2.2.1[i]? with
 |none=>ae
 |some f=>if mN f.1=ag then aa (2,100+(i:Int))else if eU (x.2.2.1.take i) f.1 then aa (7,100+(i:Int))else if¬qd f.2 l.1.length then aa (8,100+(i:Int))else ae
noncomputable def BL(l:Lw)(x:jm)(i:Nat):Option (Int×Int):=match x.2.2.2.1[i]? with
 |none=>ae
 |some f=>if mN f.1=ag then aa (2,200+(i:Int))else if eU x.2.2.1 f.1\/eU (x.2.2.2.1.take i) f.1 then aa (7,200+(i:Int))else if¬qd f.2 l.1.length then aa (8,200+(i:Int))else ae
noncomputable def vq(l:Lw)(x:jm):Option (Int×Int):=(cZ (BK l x) x.2.2.1.length).or (cZ (BL l x) x.2.2.2.1.length)
def UF(l:Lw)(k:Nat)(hk:k<l.2.2.length)(h1:l.2.2[k].2.2.1.length<=12)(h2:l.2.2[k].2.2.2.1.length<=12):M.jh aK l (k:Int)=aa (oa 3 k (vq l l.2.2[k])):=by
 obtain⟨x,hx⟩:∃x,x=l.2.2[k]:=⟨_,rfl⟩
 rw[<-hx]at h1 h2⊢;apply Wp.eq;unfold M.jh;simp only[aC hk,<-hx,wu,cA,W_,aq,au,reduceCtorEq]
 refine Wp.count (λs=>s) x.2.2.1.length (λi _=>∀j,j<i->BK l x j=ae) (by omega) rfl (λj hj=>by omega) λi c hi hs hJ=>?_
 obtain rfl:c=_:=hs;simp only[W_,aq,au,reduceCtorEq,aQ,aO];refine⟨λaF=>?_,λhge=>?_⟩
 .have aF:i<x.2.2.1.length:=by omega
  have hf:BK l x i=if mN x.2.2.1[i].1=ag then aa (2,100+(i:Int))else if eU (x.2.2.1.take i) x.2.2.1[i].1 then aa (7,100+(i:Int))else if¬qd x.2.2.1[i].2 l.1.length then aa (8,100+(i:Int))else ae:=by
   unfold BK;rw[aqR aF]
  simp only[aC aF,tn x.2.2.1 i _ (by unfold maxLen;omega),oU (k:=i) (a:=100) (by omega) (by omega),bQ (m:=x.2.2.1.length) (by omega) aF,W_,aq,au,reduceCtorEq]
  have res:∀c:Int,c≠0->BK l x i=aa (c,100+(i:Int))->(¬c=0->(c,(3:Int),(k:Int),100+(i:Int))=oa 3 (k:Int) (vq l x))/\(c=0->i<x.2.2.1.length/\∀j,j<i+1->BK l x j=ae):=λc h0 h=>⟨λ_=>by
   unfold vq
   rw[cR h hJ aF];rfl,λh=>absurd h h0⟩
  grind
 have hJ:=bO.2 λj(hj:j<x.2.2.1.length)=>hJ j (by omega)
 refine Wp.count (λs=>s) x.2.2.2.1.length (λi _=>∀j,j<i->BL l x j=ae) (by omega) rfl (λj hj=>by omega) λi c hi hs hI=>?_
 obtain rfl:c=_:=hs;simp only[W_,aq,au,reduceCtorEq,aQ,aO];refine⟨λaF=>?_,λhge=>?_⟩
 .have aF:i<x.2.2.2.1.length:=by omega
  have hf:BL l x i=if mN x.2.2.2.1[i].1=ag then aa (2,200+(i:Int))else if eU x.2.2.1 x.2.2.2.1[i].1\/eU (x.2.2.2.1.take i) x.2.2.2.1[i].1 then aa (7,200+(i:Int))else if¬qd x.2.2.2.1[i].2 l.1.length then aa (8,200+(i:Int))else ae:=by
   unfold BL;rw[aqR aF]
  simp only[aC aF,tn x.2.2.2.1 i _ (by unfold maxLen;omega),tn x.2.2.1 x.2.2.1.length _ (by unfold maxLen;omega),List.take_length,oU (k:=i) (a:=200) (by omega) (by omega),bQ (m:=x.2.2.2.1.length) (by omega) aF,W_,aq,au,reduceCtorEq]
  have res:∀c:Int,c≠0->BL l x i=aa (c,200+(i:Int))->(¬c=0->(c,(3:Int),(k:Int),200+(i:Int))=oa 3 (k:Int) (vq l x))/\(c=0->i<x.2.2.2.1.length/\∀j,j<i+1->BL l x j=ae):=λc h0 h=>⟨λ_=>by
   unfold vq
   rw[hJ,cR h hI aF];rfl,λh=>absurd h h0⟩
  grind
 unfold vq;rw[hJ,bO.2 λj hj=>hI j (by omega)];rfl
def plain(s:ByteArray):Prop:=(∀i,∀h:i<s.size,32<=(s[i].toNat:Int)/\(s[i].toNat:Int)<=126/\(s[i].toNat:Int)≠34)/\s.size<=64
noncomputable instance(s:ByteArray):Decidable (plain s):=aro _
def Ri(s:ByteArray)(hs:s.size<=100000):M.jP aK s=aa (decide (plain s)):=by
 apply Wp.eq;unfold M.jP
 refine Wp.count (λs=>s) s.size (λi _=>∀j,j<i->∀h:j<s.size,32<=(s[j].toNat:Int)/\(s[j].toNat:Int)<=126/\(s[j].toNat:Int)≠34) (by omega) rfl (λj hj=>by omega) λi c hi hs hJ=>?_
 obtain rfl:c=_:=hs;simp only[W_,aq,au,reduceCtorEq,aQ,aO];refine⟨λaF=>?_,λhge=>?_⟩
 .have aF:i<s.size:=by omega
  have hb:lH s (i:Int)=aa (s[i].toNat:Int):=Q5.1 (qI.2 ⟨by omega,rfl⟩);simp only[hb,bQ (m:=s.size) (by omega) aF,W_,aq,au,reduceCtorEq]
  have no:¬(32<=(s[i].toNat:Int)/\(s[i].toNat:Int)<=126/\(s[i].toNat:Int)≠34)->¬plain s:=λh g=>h (g.1 i aF)
  exact⟨λh=>no (by omega),λh=>⟨λh'=>no (by omega),λh'=>⟨λh2=>no (by omega),λh2=>⟨aF,(by grind)⟩⟩⟩⟩
 .refine⟨λh=>⟨λj hj=>hJ j (by omega) hj,by omega⟩,λh=>?_⟩;have:=h.2;omega
def Aw(f:List Fd)(hf:f.length<=100000):M.gD aK f=aa (f.map (·.2)):=by
 apply Wp.eq;unfold M.gD
 refine Wp.fold (λs=>s.1) (λs=>s.2) f (λ(o:List Ty)x=>o++[x.2]) [] (λk c=>c.length<=k) (by omega) rfl rfl (aqU _) (λk s aF hs hI=>?_) λs hs hc hI=>?_
 .obtain⟨i,o⟩:=s;dsimp only at hs hI;subst hs;simp only[tl aF,aC aF,bQ (m:=f.length) (by omega) aF,W_,aq,au,reduceCtorEq,ot]
  grind [nO]
 .obtain⟨i,o⟩:=s;dsimp only at hs hc;subst hs;simp only[o8,W_,aq,au,reduceCtorEq,ou];rw[hc]
  have:∀(f:List Fd)(o:List Ty),f.foldl (λ(o:List Ty)x=>o++[x.2]) o=o++f.map (·.2):=by
   intro f
   induction f with
   |nil=>intro o;simp
   |cons x f ih=>grind
  rw[this];rfl
def gS(l:Lw)(x:jm):vL:=(l.1,(l.2.1,(x.2.2.1.map (·.2),(x.2.2.2.1.map (·.2),(match l.2.2[(x.2.1:Int).toNat]? with
 |some y=>if 0<=(x.2.1:Int)then y.2.2.2.1.map (·.2)else[]
 |none=>[],decide (0<=(x.2.1:Int)/\(x.2.1:Int)<(l.2.2.length:Int)))))))
def LB(l:Lw)(k:Nat)(hk:k<l.2.2.length)(hs:∀s∈l.2.2,s.2.2.1.length<=100000/\s.2.2.2.1.length<=100000):M.ik aK l (k:Int)=aa ((gS l l.2.2[k]).1,(gS l l.2.2[k]).2.1,(gS l l.2.2[k]).2.2.2.2.2,(gS l l.2.2[k]).2.2.1,(gS l l.2.2[k]).2.2.2.1,(gS l l.2.2[k]).2.2.2.2.1):=by
 apply Wp.eq;unfold M.ik;have h1:=hs _ (aqS hk);simp only[show¬(k:Int)<0 by omega,show¬(l.2.2.length:Int)<=(k:Int) by omega,aC hk,Aw _ h1.1,Aw _ h1.2,W_,aq,au,reduceCtorEq];unfold gS;generalize l.2.2[k]=x at*;obtain⟨x1,(x2:Int),x3,x4,x5⟩:=x;dsimp only[az,Row.den]at*;refine⟨λh=>⟨λh'=>?_,λh'=>?_⟩,λh=>?_⟩
 .refine fo.2 ⟨by omega,?_⟩
  have hi:x2.toNat<l.2.2.length:=by omega
  simp only[Aw _ (hs _ (aqS hi)).2,W_,aq,au,reduceCtorEq,aqR hi,h,h',if_true]
 .rw[List.getElem?_eq_none (by omega)];simp only[h',W_,aq,au,reduceCtorEq]
 .simp only[h,W_,aq,au,reduceCtorEq]
  split<;>rfl
end L
namespace L
noncomputable def uI(e:List Ty)(s:vL)(want:Ty):Int:=if(NT e s).2.2≠0 then(NT e s).2.2 else if(NT e s).1≠want then 8 else 0
def LC{e:List Ty}{s:vL}(want:Ty)(hw:∀n∈e,WF aA n):M.fk aK e s want=aa (uI e s want):=by
 apply Wp.eq;unfold M.fk;simp only[Yc hw,NS,W_,aq,au,reduceCtorEq]
 grind [uI]
def Eo(x:jm)(k:Nat)(d:Int):Nat:=(x.2.2.2.2.take k).countP λr=>decide ((r.2.1:Int)=d)
def vr(x:jm)(k:Nat)(r:kr):Prop:=(r.2.2.1:Int)≠-1/\((r.2.2.1:Int)<0\/(k:Int)<=r.2.2.1\/∃y,x.2.2.2.2[(r.2.2.1:Int).toNat]? =aa y/\(y.2.1:Int)≠r.2.1)
noncomputable instance(x:jm)(k:Nat)(r:kr):Decidable (vr x k r):=aro _
noncomputable def wy(l:Lw)(x:jm)(k:Nat)(r:kr):Int:=
 if mN r.1=ag then 2 else if eU (x.2.2.2.2.take k) r.1 then 7 else if¬(0<=(r.2.1:Int)/\(r.2.1:Int)<(x.2.2.2.1.length:Int))then 6 else if vr x k r then 9 else
 if(r.2.2.2.1:Int)<0\/9<(r.2.2.2.1:Int)\/¬VR r.2.2.2.2.1\/(r.2.2.2.2.1.1:Int)=r.2.2.2.2.1.2 then 3 else if 8<=Eo x k r.2.1 then 4 else if¬plain r.2.2.2.2.2.2.2 then 2 else
 if 0<r.2.2.2.2.2.1.length/\uI r.2.2.2.2.2.1 (gS l x) ((1:Int),(0:Int))≠0 then uI r.2.2.2.2.2.1 (gS l x) ((1:Int),(0:Int))else
 match x.2.2.2.1[(r.2.1:Int).toNat]? with
 |some d=>uI r.2.2.2.2.2.2.1 (gS l x) d.2
 |none=>0
def UG(l:Lw)(hw:WF cz l)(gk:fZ l)(i:Nat)(hi:i<l.2.2.length)(k:Nat)(hk:k<l.2.2[i].2.2.2.2.length):M.jQ aK l (i:Int) (k:Int)=aa (wy l l.2.2[i] k l.2.2[i].2.2.2.2[k]):=by
 have Rj:=LB l i hi λs hs=>⟨by have:=(gk.2.2.2.2.2 s hs).2.1;omega,by have:=(gk.2.2.2.2.2 s hs).2.2.1;omega⟩
 have sB:=gk.2.2.2.2.2 _ (aqS hi);have Fa:=hw.2.2.2 _ (aqS hi)
 obtain⟨x,hx⟩:∃x,x=l.2.2[i]:=⟨_,rfl⟩
 simp only[<-hx]at hk Rj sB Fa⊢;have JT:=Fa.2.2.2.2.2 _ (aqS hk);have Ix:=sB.2.2.2.2.2.2 _ (aqS hk)
 obtain⟨r,hr⟩:∃r,r=x.2.2.2.2[k]:=⟨_,rfl⟩
 have Zn:=sB.2.2.2.1;apply Wp.eq;unfold M.jQ;simp only[aC hi,<-hx,aC hk,<-hr,wu,Ls,W_,aq,au,reduceCtorEq];simp only[<-hr]at JT Ix;unfold wy;refine⟨λh=>by rw[aj h],λh1=>?_⟩;rw[ai (c:=mN r.1=ag) (by simp[h1])]
 refine Wp.count (λs=>s.2) k (λj s=>(∀q,q<j->∀h:q<x.2.2.2.2.length,¬(x.2.2.2.2[q].1:ByteArray)=r.1)/\s.1=(((x.2.2.2.2.take j).countP λr'=>decide ((r'.2.1:Int)=r.2.1):Nat):Int)) (by omega) rfl ⟨λj hj=>by omega,rfl⟩ λj s hj hs hJ=>?_
 obtain⟨sb,c⟩:=s;dsimp only at hs hJ;subst hs;obtain⟨hJ,UH⟩:=hJ;have Ln:(x.2.2.2.2.take j).countP (λr'=>decide ((r'.2.1:Int)=r.2.1))<=60:=ark List.countP_le_length (by grind);simp only[W_,aq,au,reduceCtorEq,aQ,aO];refine⟨λZm=>?_,λZm=>?_⟩
 .have xl:j<x.2.2.2.2.length:=by omega
  simp only[aC xl,bQ (m:=k) (by omega) (show j<k by omega),W_,aq,au,reduceCtorEq];refine⟨λh=>?_,λh=>?_⟩
  .grind [rE]
  have hct:(x.2.2.2.2.take (j+1)).countP (λr'=>decide ((r'.2.1:Int)=r.2.1))=(x.2.2.2.2.take j).countP (λr'=>decide ((r'.2.1:Int)=r.2.1))+if(x.2.2.2.2[j].2.1:Int)=r.2.1 then 1 else 0:=by
   rw[<-ara xl,List.countP_append];simp[List.countP_cons]
  refine⟨λh'=>⟨by omega,dZ hJ λ_=>h,?_⟩,(by grind)⟩
  all_goals grind [aE]
 obtain rfl:j=k:=by omega
 rw[ai (c:=eU (x.2.2.2.2.take j) r.1) (λh=>by grind [rE])];clear hJ;have Ln:Eo x j r.2.1<=60:=Ln;have UH:sb=(Eo x j r.2.1:Int):=UH;clear hk hr Zm hj;generalize Eo x j r.2.1=q at*;subst UH;have po:=Ix.2.1;have hg:=JT.2.2.2.2.2.1.2;have hv:=JT.2.2.2.2.2.2.1.2;have OZ:vr x j r↔(r.2.2.1:Int)≠-1/\((r.2.2.1:Int)<0\/(j:Int)<=r.2.2.1\/∃y,x.2.2.2.2[(r.2.2.1:Int).toNat]? =aa y/\(y.2.1:Int)≠r.2.1):=Iff.rfl;clear JT Ix;obtain⟨nm,(d:Int),(p:Int),(pr:Int),v,g,val,src⟩:=r;dsimp only[az,Row.den]at*
 have rest:0<=d->d<(x.2.2.2.1.length:Int)->Wp (if decide (pr<0)=af then aa af else if decide (9<pr)=af then aa af else if¬VR v then aa af else aa (decide ((v.1:Int)=v.2))) (λTf=>Wp (if Tf=af then aa (3:Int)else if decide ((8:Int)<=(q:Int))=af then aa 4 else(M.jP aK src).bind λGQ=>if(!GQ)=af then aa (2:Int)else(M.ik aK l (i:Int)).bind λO0=>bS (J:=Unit) (R:=Int) (if decide (0<(g.length:Int))=af then(M.fk aK g (O0.1,(O0.2.1,(O0.2.2.2.1,(O0.2.2.2.2.1,(O0.2.2.2.2.2,O0.2.2.1))))) ((1:Int),(0:Int))).bind λy17=>if(!decide (y17=0))=af then aa (arM y17)else aa (Sum.inl ())else aa (Sum.inl ())) λ_=>(idx x.2.2.2.1 d).bind λx18=>(M.fk aK val (O0.1,(O0.2.1,(O0.2.2.2.1,(O0.2.2.2.2.1,(O0.2.2.2.2.2,O0.2.2.1))))) x18.2).bind λy19=>aa y19)
  (· =if pr<0\/9<pr\/¬VR v\/(v.1:Int)=v.2 then 3 else if 8<=q then 4 else if¬plain src then 2 else if 0<g.length/\uI g (gS l x) ((1:Int),(0:Int))≠0 then uI g (gS l x) ((1:Int),(0:Int))else match x.2.2.2.1[d.toNat]? with
    |some d=>uI val (gS l x) d.2
    |none=>0)):=by
  intro Zo yB
  refine Wp.mono (Q:=λTf=>Tf=af↔pr<0\/9<pr\/¬VR v\/(v.1:Int)=v.2) (by simp only[W_,aq,au,reduceCtorEq];grind) λTf h12=>?_
  by_cases g1:pr<0\/9<pr\/¬VR v\/(v.1:Int)=v.2
  .rw[aj g1,aj (h12.2 g1)];exact .some rfl
  rw[ai g1,ai λh=>g1 (h12.1 h)];by_cases g2:8<=q
  .rw[aj (an (by omega)),aj g2];exact .some rfl
  rw[ai (by rw[aw];omega),ai g2,Ri _ (by omega),aqN];by_cases g3:¬plain src
  .rw[aj (by simp[g3]),aj g3];exact .some rfl
  rw[ai (by simpa using g3),ai g3,Rj,aqN]
  have hd:d.toNat<x.2.2.2.1.length:=by omega
  have last:Wp ((idx x.2.2.2.1 d).bind λx18=>(M.fk aK val (gS l x) x18.2).bind λy19=>aa y19) (· =match x.2.2.2.1[d.toNat]? with
   |some d=>uI val (gS l x) d.2
   |none=>0):=by
   rw[wp_bind];refine fo.2 ⟨by omega,?_⟩;rw[LC _ hv,aqR hd];exact .some rfl
  rw[zo];by_cases g4:0<g.length
  .rw[aj (by simpa using g4),wp_bind,show((gS l x).1,((gS l x).2.1,((gS l x).2.2.1,((gS l x).2.2.2.1,((gS l x).2.2.2.2.1,(gS l x).2.2.2.2.2)))))=gS l x from rfl,LC _ hg];refine .some ?_;by_cases g5:uI g (gS l x) ((1:Int),(0:Int))=0
   .rw[ai (by simp[g5]),ai (λh=>h.2 g5)];exact .some last
   .rw[aj (by simp[g5]),aj ⟨g4,g5⟩];exact .some rfl
  .rw[ai (by simpa using g4),ai (λh=>g4 h.1)];exact .some last
 simp only[W_,aq,au,reduceCtorEq]at rest;refine⟨λh=>by rw[aj (c:=¬(0<=d/\d<(x.2.2.2.1.length:Int))) (by omega)],λh2=>⟨(by grind),λh3=>?_⟩⟩;rw[ai (c:=¬(0<=d/\d<(x.2.2.2.1.length:Int))) (by omega)];have rest:=rest (by omega) (by omega)
 have hjx:j<x.2.2.2.2.length:=by rw[hx];exact hk
 refine⟨λhp=>⟨λh=>by rw[aj (OZ.2 ⟨hp, .inl h⟩)],λh=>⟨λh'=>by rw[aj (OZ.2 ⟨hp, .inr (.inl h')⟩)],λh'=>fo.2 ⟨⟨by omega,by omega⟩,(by grind),λh5=>?_⟩⟩⟩,λhp=>?_⟩
 .rw[ai (λh=>by
   obtain⟨_,g1|g1|⟨y,g1,g2⟩⟩:=OZ.1 h
   .omega
   .omega
   .rw[aqR (by omega)]at g1;cases g1
    exact g2 h5)]
  exact rest
 .rw[ai (λh=>(OZ.1 h).1 hp)];exact rest
noncomputable def yL(l:Lw)(x:jm)(k:Nat):Option (Int×Int):=match x.2.2.2.2[k]? with
 |none=>ae
 |some r=>if wy l x k r≠0 then aa (wy l x k r,300+(k:Int))else ae
noncomputable def Ax(x:jm)(d:Nat):Option (Int×Int):=if(d:Int)∈El x d then aa (9,200+(d:Int))else ae
def qW(l:Lw)(k:Nat)(x:jm):Prop:=(x.2.1:Int)≠-1/\((x.2.1:Int)<0\/(k:Int)<=x.2.1\/∃y,l.2.2[(x.2.1:Int).toNat]? =aa y/\(y.2.1:Int)≠-1)
noncomputable instance(l:Lw)(k:Nat)(x:jm):Decidable (qW l k x):=aro _
noncomputable def uJ(l:Lw)(k:Nat):Option (Int×Int):=match l.2.2[k]? with
 |none=>ae
 |some x=>
  if mN x.1=ag then aa (2,0)else if eU l.1 x.1\/eU l.2.1 x.1\/eU (l.2.2.take k) x.1 then aa (7,0)else if qW l k x then aa (6,0)else
  if 12<x.2.2.1.length then aa (4,112)else if 12<x.2.2.2.1.length then aa (4,212)else((vq l x).or (cZ (yL l x) x.2.2.2.2.length)).or (cZ (Ax x) x.2.2.2.1.length)
theorem GR{l:Lw}{x:jm}{e:Int×Int}(h:vq l x=aa e):e.1≠0:=by
 grind [iB,vq,BK,BL,Option.or_eq_some_iff]
def LD(x:jm)(d:Int):uH x.2.2.2.1.length (El x d):=by
 have:∀m,uH x.2.2.2.1.length (nR x m (lQ x d)):=λm=>by
  induction m with
  |zero=>exact kW x d
  |succ m ih=>exact uo x ih
 exact this _
def UI(l:Lw)(hw:WF cz l)(gk:fZ l)(k:Nat)(hk:k<l.2.2.length):M.lC aK l (k:Int)=aa (oa 3 k (uJ l k)):=by
 have sB:=gk.2.2.2.2.2 _ (aqS hk);have aby:=UG l hw gk k hk;have abz:=UF l k hk
 have hE:uJ l k=if mN l.2.2[k].1=ag then aa (2,0)else if eU l.1 l.2.2[k].1\/eU l.2.1 l.2.2[k].1\/eU (l.2.2.take k) l.2.2[k].1 then aa (7,0)else if qW l k l.2.2[k]then aa (6,0)else
  if 12<l.2.2[k].2.2.1.length then aa (4,112)else if 12<l.2.2[k].2.2.2.1.length then aa (4,212)else((vq l l.2.2[k]).or (cZ (yL l l.2.2[k]) l.2.2[k].2.2.2.2.length)).or (cZ (Ax l.2.2[k]) l.2.2[k].2.2.2.1.length):=by
  unfold uJ;rw[aqR hk]
 have hn3:=nt3 l hw k l.2.2[k].1
 obtain⟨x,hx⟩:∃x,x=l.2.2[k]:=⟨_,rfl⟩
 simp only[<-hx]at sB aby abz hE hn3;have h5:=gk.2.2.1;have Fb:=sB.2.2.1;have Zn:=sB.2.2.2.1;apply Wp.eq;unfold M.lC;simp only[aC hk,<-hx,wu,Ye x sB.few,W_,aq,au,reduceCtorEq];rw[hE];refine⟨λh=>by rw[aj h];rfl,λh1=>?_⟩;rw[ai (c:=mN x.1=ag) (by simp[h1])]
 refine hn3.mono λr hr=>?_
 refine⟨λh=>by rw[aj (hr.1 h)];rfl,λh2=>?_⟩;rw[ai (c:=eU l.1 x.1\/eU l.2.1 x.1\/eU (l.2.2.take k) x.1) ((isT hr).1 (by simpa using h2))];clear hn3 hr h2 r
 have rest:Wp ((if(decide ((12:Int)<(x.2.2.1.length:Int)))=af then
  some ((4:Int),((3:Int),((k:Int),(112:Int))))
  else
  (if(decide ((12:Int)<(x.2.2.2.1.length:Int)))=af then
  some ((4:Int),((3:Int),((k:Int),(212:Int))))
  else
  (M.jh aK l (k:Int)).bind λy6=>
  (if(!decide (y6.1=(0:Int)))=af then
  some y6
  else
  bS (J:=Unit) (R:=aD.den) (Loop (S:=Int) (X:=(Unit)⊕(aD.den)) (λs8=>
  (if(decide (s8<(x.2.2.2.2.length:Int)))=af then
  (M.jQ aK l (k:Int) s8).bind λy9=>
  (if(!decide (y9=(0:Int)))=af then
  some (arM (arM (y9,((3:Int),((k:Int),aqO.wrap ((300:Int)+s8))))))
  else
  some (Sum.inl (aqO.wrap (s8+(1:Int)))))
  else
  some (arM (Sum.inl ())))) aK (0:Int)) λj7=>
  bS (J:=Unit) (R:=aD.den) (Loop (S:=Int) (X:=(Unit)⊕(aD.den)) (λs11=>
  (if(decide (s11<(x.2.2.2.1.length:Int)))=af then
  bS (J:=Unit) (R:=(Int)⊕((Unit)⊕(aD.den))) ((aa (El x s11)).bind λy13=>
  Loop (S:=Int) (X:=(Unit)⊕((Int)⊕((Unit)⊕(aD.den)))) (λs14=>
  (if(decide (s14<(y13.length:Int)))=af then
  (idx y13 s14).bind λZp=>
  (if(decide (Zp=s11))=af then
  some (arM (arM (arM (arM ((9:Int),((3:Int),((k:Int),aqO.wrap ((200:Int)+s11))))))))
  else
  some (Sum.inl (aqO.wrap (s14+(1:Int)))))
  else
  some (arM (Sum.inl ())))) aK (0:Int)) λTf=>
  some (Sum.inl (aqO.wrap (s11+(1:Int))))
  else
  some (arM (Sum.inl ())))) aK (0:Int)) λj10=>
  some ((0:Int),((0:Int),((0:Int),(0:Int))))))):Option aD.den) (· =oa 3 (k:Int) (if 12<x.2.2.1.length then aa (4,112)else if 12<x.2.2.2.1.length then aa (4,212)else((vq l x).or (cZ (yL l x) x.2.2.2.2.length)).or (cZ (Ax x) x.2.2.2.1.length))):=by
  by_cases h3:12<x.2.2.1.length
  .rw[aj h3,aj (an (by omega))];exact .some rfl
  rw[ai h3,ai (by rw[aw];omega)];by_cases h4:12<x.2.2.2.1.length
  .rw[aj h4,aj (an (by omega))];exact .some rfl
  rw[ai h4,ai (by rw[aw];omega),abz (by omega) (by omega),aqN]
  cases hf:vq l x with
  |some e=>
   have:=GR hf;rw[aj (by show(!decide (e.1=0))=af;simp[this])];exact .some rfl
  |none=>
   rw[ai (by simp[oa,E9]),Option.none_or];simp only[W_,aq,au,reduceCtorEq]
   refine Wp.count (λs=>s) x.2.2.2.2.length (λi _=>∀j,j<i->yL l x j=ae) (by omega) rfl (λj hj=>by omega) λi c hi hs hJ=>?_
   obtain rfl:c=_:=hs;simp only[W_,aq,au,reduceCtorEq,aQ,aO];refine⟨λaF=>?_,λhge=>?_⟩
   .have aF:i<x.2.2.2.2.length:=by omega
    have hr:yL l x i=if wy l x i x.2.2.2.2[i]≠0 then aa (wy l x i x.2.2.2.2[i],300+(i:Int))else ae:=by
     unfold yL;rw[aqR aF]
    simp only[aby i aF,oU (k:=i) (a:=300) (by omega) (by omega),bQ (m:=x.2.2.2.2.length) (by omega) aF,W_,aq,au,reduceCtorEq];refine⟨λh=>?_,(by grind)⟩;rw[cR (hr.trans (aj h)) hJ aF];rfl
   rw[bO.2 λj hj=>hJ j (by omega),Option.none_or];clear hJ
   refine Wp.count (λs=>s) x.2.2.2.1.length (λi _=>∀j,j<i->Ax x j=ae) (by omega) rfl (λj hj=>by omega) λi c hi hs hJ=>?_
   obtain rfl:c=_:=hs;simp only[W_,aq,au,reduceCtorEq,aQ,aO];refine⟨λaF=>?_,λhge=>?_⟩
   .have aF:i<x.2.2.2.1.length:=by omega
    have hlen:=(LD x i).len
    refine Wp.count (λs=>s) (El x i).length (λj _=>∀q,q<j->∀h:q<(El x i).length,¬(El x i)[q]=(i:Int)) (by omega) rfl (λj hj=>by omega) λj c hj hs hI=>?_
    obtain rfl:c=_:=hs;simp only[W_,aq,au,reduceCtorEq,aQ,aO,oU (k:=i) (a:=200) (by omega) (by omega),bQ (m:=x.2.2.2.1.length) (by omega) aF];refine⟨λxl=>?_,λxl=>⟨aF,dZ hJ ?_⟩⟩
    .have xl:j<(El x i).length:=by omega
     simp only[aC xl,bQ (m:=(El x i).length) (by omega) xl,W_,aq,au,reduceCtorEq];refine⟨λh=>?_,(by grind)⟩;rw[cR (show Ax x i=aa (9,200+(i:Int))from aj (List.mem_of_getElem h)) hJ aF];rfl
    .unfold Ax;rw[ai]
     grind [aq6]
   .rw[bO.2 λj hj=>hJ j (by omega)];rfl
 simp only[W_,aq,au,reduceCtorEq]at rest;have NW:qW l k x↔(x.2.1:Int)≠-1/\((x.2.1:Int)<0\/(k:Int)<=x.2.1\/∃y,l.2.2[(x.2.1:Int).toNat]? =aa y/\(y.2.1:Int)≠-1):=Iff.rfl;refine⟨λhp=>⟨λh=>by rw[aj (NW.2 ⟨hp, .inl h⟩)];rfl,λh=>⟨λh'=>by rw[aj (NW.2 ⟨hp, .inr (.inl h')⟩)];rfl,λh'=>?_⟩⟩,λhp=>?_⟩
 .obtain⟨(m:Int),hm⟩:∃m:Int,m=x.2.1:=⟨_,rfl⟩
  have Wc:m.toNat<l.2.2.length:=by dsimp only[az,Row.den]at*;omega
  refine fo.2 ⟨by dsimp only[az,Row.den]at*;omega,λh5=>by rw[aj (NW.2 ⟨hp, .inr (.inr ⟨_,aqR (hm▸Wc),h5⟩)⟩)];rfl,λh5=>?_⟩
  rw[ai (λh=>by
   obtain⟨_,g1|g1|⟨y,g1,g2⟩⟩:=NW.1 h
   .exact absurd g1 ‹_›
   .exact absurd g1 h'
   .rw[aqR (hm▸Wc)]at g1;cases g1
    exact g2 h5)]
  exact rest
 grind
noncomputable def vu(l:Lw):LE:=
 if 8<l.1.length then((4:Int),((1:Int),((8:Int),(0:Int))))else match cZ (λk=>(pD l k).map λe=>(k,e)) l.1.length with
 |some (k,e)=>oa 1 (k:Int) (aa e)
 |none=>if 8<l.2.1.length then((4:Int),((2:Int),((8:Int),(0:Int))))else match cZ (λk=>(sO l k).map λe=>(k,e)) l.2.1.length with
  |some (k,e)=>oa 2 (k:Int) (aa e)
  |none=>if 4<l.2.2.length then((4:Int),((3:Int),((4:Int),(0:Int))))else match cZ (λk=>(uJ l k).map λe=>(k,e)) l.2.2.length with
   |some (k,e)=>oa 3 (k:Int) (aa e)
   |none=>E9
theorem vv{f:Nat->Option (Int×Int)}(hf:∀i e,f i=aa e->e.1≠0){m:Nat}{e:Int×Int}(h:cZ f m=aa e):e.1≠0:=by
 grind [iB]
theorem uq{l:Lw}{k:Nat}{e:Int×Int}(h:pD l k=aa e):e.1≠0:=by
 grind [pD,vv,Em]
def Ay{l:Lw}{k:Nat}{e:Int×Int}(h:sO l k=aa e):e.1≠0:=by
 grind [sO]
theorem Az{l:Lw}{k:Nat}{e:Int×Int}(h:uJ l k=aa e):e.1≠0:=by
 unfold uJ at h
 repeat' split at h
 all_goals first|cases h|skip
 all_goals first|simp;done|skip
 rcases Option.or_eq_some_iff.1 h with h|⟨_,h⟩
 .rcases Option.or_eq_some_iff.1 h with h|⟨_,h⟩
  all_goals grind [GR,vv,yL]
 grind [vv,Ax]
def vw{sec k:Int}{o:Option (Int×Int)}(h:∀e,o=aa e->e.1≠0):(oa sec k o).1=0↔o=ae:=by
 cases o with
 |none=>exact⟨λ_=>rfl,λ_=>rfl⟩
 |some e=>exact⟨λg=>absurd g (h e rfl),λg=>by cases g⟩
def NX{f:Nat->Option (Int×Int)}{k:Nat}{e:Int×Int}(h:f k=aa e):(λk=>(f k).map λe=>(k,e)) k=aa (k,e):=by simp[h]
def UJ(l:Lw)(hw:WF cz l)(gk:fZ l):M.nG aK l=aa (vu l):=by
 apply Wp.eq;obtain⟨h9,h9',h5,_⟩:=gk;unfold M.nG;simp only[W_,aq,au,reduceCtorEq];refine⟨λh=>by unfold vu;grind,λh8=>?_⟩
 refine Wp.count (λs=>s) l.1.length (λi _=>∀j,j<i->(λk=>(pD l k).map λe=>(k,e)) j=ae) (by omega) rfl (λj hj=>by omega) λi c hi hs hJ=>?_
 obtain rfl:c=_:=hs;simp only[W_,aq,au,reduceCtorEq,aQ,aO];refine⟨λaF=>?_,λhge=>?_⟩
 .have aF:i<l.1.length:=by omega
  simp only[Rh l hw i aF,bQ (m:=l.1.length) (by omega) aF,W_,aq,au,reduceCtorEq,vw λe he=>uq he];refine⟨λh=>?_,(by grind)⟩;obtain⟨e,he⟩:=asv.1 h;unfold vu;rw[ai (by omega),cR (NX he) hJ aF,he]
 have hA:=bO.2 λj(hj:j<l.1.length)=>hJ j (by omega)
 clear hJ;refine⟨λh=>by grind [vu],λh8'=>?_⟩
 refine Wp.count (λs=>s) l.2.1.length (λi _=>∀j,j<i->(λk=>(sO l k).map λe=>(k,e)) j=ae) (by omega) rfl (λj hj=>by omega) λi c hi hs hJ=>?_
 obtain rfl:c=_:=hs;simp only[W_,aq,au,reduceCtorEq,aQ,aO];refine⟨λaF=>?_,λhge=>?_⟩
 .have aF:i<l.2.1.length:=by omega
  simp only[UE l hw i aF,bQ (m:=l.2.1.length) (by omega) aF,W_,aq,au,reduceCtorEq,vw λe he=>Ay he];refine⟨λh=>?_,(by grind)⟩;obtain⟨e,he⟩:=asv.1 h;unfold vu;rw[ai (by omega),hA];dsimp only;rw[ai (by omega),cR (NX he) hJ aF,he]
 have hB:=bO.2 λj(hj:j<l.2.1.length)=>hJ j (by omega)
 clear hJ;refine⟨λh=>by grind [vu],λh4=>?_⟩
 refine Wp.count (λs=>s) l.2.2.length (λi _=>∀j,j<i->(λk=>(uJ l k).map λe=>(k,e)) j=ae) (by omega) rfl (λj hj=>by omega) λi c hi hs hJ=>?_
 obtain rfl:c=_:=hs;simp only[W_,aq,au,reduceCtorEq,aQ,aO];refine⟨λaF=>?_,λhge=>?_⟩
 .have aF:i<l.2.2.length:=by omega
  simp only[UI l hw ⟨h9,h9',h5,‹_›⟩ i aF,bQ (m:=l.2.2.length) (by omega) aF,W_,aq,au,reduceCtorEq,vw λe he=>Az he];refine⟨λh=>?_,(by grind)⟩;obtain⟨e,he⟩:=asv.1 h;unfold vu;rw[ai (by omega),hA];dsimp only;rw[ai (by omega),hB];dsimp only;rw[ai (by omega),cR (NX he) hJ aF,he]
 have hC:=bO.2 λj(hj:j<l.2.2.length)=>hJ j (by omega)
 unfold vu;rw[ai (by omega),hA];dsimp only;rw[ai (by omega),hB];dsimp only;rw[ai (by omega),hC];rfl
def Valid(l:Lw):Prop:=(vu l).1=0
noncomputable instance(l:Lw):Decidable (Valid l):=aro _
theorem Valid.scopes{l:Lw}(h:Valid l):l.1.length<=8/\l.2.1.length<=8/\l.2.2.length<=4/\(∀k,k<l.1.length->pD l k=ae)/\(∀k,k<l.2.1.length->sO l k=ae)/\∀k,k<l.2.2.length->uJ l k=ae:=by
 unfold Valid vu at h;split at h
 .cases h
 split at h
 .rename_i k e hf;obtain⟨j,_,hj,_⟩:=iB hf;obtain⟨e',za,h2⟩:=Option.map_eq_some_iff.1 hj;cases h2;exact absurd h (uq za)
 rename_i hA;split at h
 .cases h
 split at h
 .rename_i k e hf;obtain⟨j,_,hj,_⟩:=iB hf;obtain⟨e',za,h2⟩:=Option.map_eq_some_iff.1 hj;cases h2;exact absurd h (Ay za)
 rename_i hB;split at h
 .cases h
 split at h
 .rename_i k e hf;obtain⟨j,_,hj,_⟩:=iB hf;obtain⟨e',za,h2⟩:=Option.map_eq_some_iff.1 hj;cases h2;exact absurd h (Az za)
 rename_i hC;exact⟨by omega,by omega,by omega,λk hk=>by simpa using bO.1 hA k hk,λk hk=>by simpa using bO.1 hB k hk,λk hk=>by simpa using bO.1 hC k hk⟩
def Valid.scope{l:Lw}(h:Valid l)(k:Nat)(hk:k<l.2.2.length):mN l.2.2[k].1=af/\¬eU (l.2.2.take k) l.2.2[k].1/\¬qW l k l.2.2[k]/\l.2.2[k].2.2.1.length<=12/\l.2.2[k].2.2.2.1.length<=12/\vq l l.2.2[k]=ae/\
 (∀i,∀hi:i<l.2.2[k].2.2.2.2.length,wy l l.2.2[k] i l.2.2[k].2.2.2.2[i]=0)/\∀d:Nat,d<l.2.2[k].2.2.2.1.length->¬(d:Int)∈El l.2.2[k] d:=by
 have h:=h.scopes.2.2.2.2.2 k hk;unfold uJ at h;rw[aqR hk]at h
 grind [bO,yL,Ax]
end L
namespace L
def gT{α:Type}(p:α->Bool)(l:List α):Int:=if l.findIdx p<l.length then((l.findIdx p:Nat):Int)else-1
def zp{α:Type}{p:α->Bool}{l:List α}{k:Nat}(hk:k<l.length)(hp:p l[k]=af)(hn:∀j,j<k->∀h:j<l.length,p l[j]=ag):gT p l=(k:Int):=by
 grind [gT]
def CW{α:Type}{p:α->Bool}{l:List α}(hn:∀j,∀h:j<l.length,p l[j]=ag):gT p l= -1:=by
 grind [gT]
theorem pc{α:Type}{p:α->Bool}{l:List α}:0<=gT p l↔∃x∈l,p x=af:=by
 grind [gT]
def AA{α Y:Type}{l:List α}{y:Y}{p:α->Bool}{body:Int×Y->Option ((Int×Y)⊕(Int×Y))}(hl:l.length<=maxLen)
 (hb:∀k,∀h:k<l.length,body ((k:Int),y)=if p l[k]=af then aa (.inr ((k:Int),y))else aa (.inl (aqO.wrap ((k:Int)+1),y)))
 (he:body ((l.length:Int),y)=aa (.inr ((-1:Int),y))):Loop body aK ((0:Int),y)=aa (gT p l,y):=by
 apply Wp.eq
 refine Wp.count (λs=>s.1) l.length (λk s=>s.2=y/\∀j,j<k->∀h:j<l.length,p l[j]=ag) hl rfl ⟨rfl,λj hj=>by omega⟩ λk c hk hs hJ=>?_
 obtain⟨c1,c2⟩:=c;obtain⟨h1,hJ⟩:=hJ;obtain rfl:c2=y:=h1;obtain rfl:c1=_:=hs
 rcases Nat.lt_or_ge k l.length with aF|hge
 .rw[hb k aF];simp only[W_,aq,au,reduceCtorEq,aQ,aO,bQ hl aF];exact⟨λh=>by rw[zp aF h hJ],(by grind)⟩
 .obtain rfl:k=l.length:=by omega
  rw[he];simp only[W_,aq,au,reduceCtorEq,aO];rw[CW λj h=>hJ j h h]
def wz{α:Type}{l:List α}{p:α->Bool}{body:Int->Option (Int⊕Int)}(hl:l.length<=maxLen)
 (hb:∀k,∀h:k<l.length,body (k:Int)=if p l[k]=af then aa (.inr (k:Int))else aa (.inl (aqO.wrap ((k:Int)+1))))
 (he:body (l.length:Int)=aa (.inr (-1:Int))):Loop body aK (0:Int)=aa (gT p l):=by
 apply Wp.eq
 refine Wp.count (λs=>s) l.length (λk _=>∀j,j<k->∀h:j<l.length,p l[j]=ag) hl rfl (λj hj=>by omega) λk c hk hs hJ=>?_
 obtain rfl:c=_:=hs
 rcases Nat.lt_or_ge k l.length with aF|hge
 .rw[hb k aF];simp only[W_,aq,au,reduceCtorEq,aQ,aO,bQ hl aF];exact⟨λh=>by rw[zp aF h hJ],(by grind)⟩
 .obtain rfl:k=l.length:=by omega
  rw[he];simp only[W_,aq,au,reduceCtorEq,aO];rw[CW λj h=>hJ j h h]
def pd(r:Row)(x:r.den):mD r x x=af:=by unfold mD;simp
end L
namespace L
noncomputable def AB:List ByteArray:=(M.jd aK).getD []
def UK:M.jd aK=aa AB:=by kernel_rfl
def Rk:AB.length<=100:=by unfold AB;decide+kernel
def Wd(c:Int):Prop:=(97<=c/\c<=122)\/(48<=c/\c<=57)\/c=95
def IdS(s:ByteArray):Prop:=s.size<=16/\(∃h:0<s.size,97<=s[0].toNat/\s[0].toNat<=122)/\(∀k,∀h:k<s.size,Wd (s[k].toNat:Int))/\s∉AB
theorem Rl(s:ByteArray):mN s=af↔IdS s:=by
 have key:Wp (M.bU aK s) λr=>r=af↔IdS s:=by
  have hl:=Rk;unfold M.bU;simp only[Au,Lr,UK,W_,aq,au,reduceCtorEq];refine⟨λh=>?_,λh0=>⟨λh=>?_,λh16=>?_⟩⟩
  .exact ax id λg=>by obtain⟨_,⟨g,_⟩,_⟩:=g;omega
  .exact ax id λg=>by have:=g.1;omega
  refine qI.2 ⟨by omega,?_⟩;have e0:((0:Int).toNat)=0:=rfl;simp only[e0];refine⟨λh=>ax id λg=>?_,λYf=>?_⟩
  .obtain⟨_,⟨_,g⟩,_⟩:=g;grind
  refine Wp.count (λs=>s) s.size (λk _=>∀j,j<k->∀h:j<s.size,Wd (s[j].toNat:Int)) (by omega) rfl (λj hj=>by omega) λk c hk hs hJ=>?_
  obtain rfl:c=_:=hs;simp only[W_,aq,au,reduceCtorEq,aQ,aO];refine⟨λaF=>qI.2 ⟨by omega,?_⟩,λhge=>?_⟩
  .have aF:k<s.size:=by omega
   have ek:((k:Int).toNat)=k:=by omega
   simp only[ek];exact⟨λh=>ax id λg=>h (g.2.2.1 k aF),λh=>⟨aF,aR (by omega),dZ hJ λ_=>h⟩⟩
  refine Wp.count (λs=>s) AB.length (λk _=>∀j,j<k->∀h:j<AB.length,AB[j]≠s) (by omega) rfl (λj hj=>by omega) λi c hi hs hI=>?_
  obtain rfl:c=_:=hs;simp only[W_,aq,au,reduceCtorEq,aQ,aO];refine⟨λaF=>?_,λanw=>?_⟩
  .have aF:i<AB.length:=by omega
   simp only[aC aF,bQ (m:=AB.length) (by omega) aF,W_,aq,au,reduceCtorEq];exact⟨λh=>ax id λg=>g.2.2.2 (h▸aqS aF),(by grind)⟩
  .refine iff_of_true trivial ⟨by omega,⟨by omega,by omega⟩,λj h=>hJ j (by omega) h,λhm=>?_⟩
   grind [aq6]
 obtain⟨r,hr,h⟩:=key;unfold mN
 grind
def xI(s:ByteArray):List ByteArray->Option Bool
 |[]=>aa ag
 |[w]=>aa (decide (s=w))
 |w::l=>if decide (s=w)=af then aa (decide (s=w))else xI s l
theorem CX(s:ByteArray):(l:List ByteArray)->xI s l=aa (decide (s∈l))
 |[]=>by simp[xI]
 |[w]=>by simp[xI]
 |w::w'::l=>by
  unfold xI;rw[CX s (w'::l)]
  grind
def GS(s:ByteArray):M.mZ aK s=aa (decide (s∈AB)):=by
 have:M.mZ aK s=(xI s AB).bind λj=>if j=af then aa af else aa ag:=by kernel_rfl
 grind [CX]
def CY(c:Int):M.lU aK c=aa (decide (97<=c/\c<=122)):=by
 apply Wp.eq;unfold M.lU;simp only[W_,aq,au,reduceCtorEq];omega
def NY(c:Int):M.oE aK c=aa (decide (48<=c/\c<=57)):=by
 apply Wp.eq;unfold M.oE;simp only[W_,aq,au,reduceCtorEq];omega
def BM(s:ByteArray)(hs:s.size<=maxLen):Wp (M.lc aK s) λn=>n=(s.size:Int)↔∀k,∀h:k<s.size,Wd (s[k].toNat:Int):=by
 unfold M.lc;simp only[CY,NY]
 refine Wp.count (λs=>s) s.size (λk _=>∀j,j<k->∀h:j<s.size,Wd (s[j].toNat:Int)) hs rfl (λj hj=>by omega) λk c hk vo hJ=>?_
 obtain rfl:c=_:=vo
 rcases Nat.lt_or_ge k s.size with aF|hge
 .have hb:lH s (k:Int)=aa (s[k].toNat:Int):=by
   have:=(Q5 (x:=((s[k].toNat:Nat):Int))).1 (qI (s:=s) (i:=(k:Int)).2 ⟨by omega,by simp⟩);exact this
  simp only[tl aF,hb,bQ hs aF,W_,aq,au,reduceCtorEq,aQ,aO];unfold Wd at*
  have ok:(97<=(s[k].toNat:Int)/\(s[k].toNat:Int)<=122)\/(48<=(s[k].toNat:Int)/\(s[k].toNat:Int)<=57)\/(s[k].toNat:Int)=95->k<s.size/\∀j,j<k+1->∀h:j<s.size,(97<=(s[j].toNat:Int)/\(s[j].toNat:Int)<=122)\/(48<=(s[j].toNat:Int)/\(s[j].toNat:Int)<=57)\/(s[j].toNat:Int)=95:=λh=>⟨aF,dZ hJ λ_=>h⟩
  grind
 .obtain rfl:k=s.size:=by omega
  simp only[o8,W_,aq,au,reduceCtorEq,aO]
  grind
def xJ(s:ByteArray)(hs:s.size<=maxLen):M.cI aK s=aa (mN s):=by
 have key:Wp (M.cI aK s) λr=>r=af↔IdS s:=by
  unfold M.cI;simp only[CY,GS,W_,aq,au,reduceCtorEq];refine⟨λh=>?_,λh=>?_⟩
  .have h0:0<s.size:=by
    rcases Nat.eq_zero_or_pos s.size with e|e
    .exact absurd (ByteArray.ext (by simp_all)) h
    .exact e
   refine qI.2 ⟨by omega,?_⟩;have e0:((0:Int).toNat)=0:=rfl;simp only[e0];refine⟨λYf=>(BM s hs).mono λn hn=>⟨λe=>⟨λh16=>?_,λh16=>ax id λg=>h16 (by have:=g.1;omega)⟩,λe=>ax id λg=>e (hn.2 g.2.2.1)⟩,λYf=>ax id λg=>?_⟩
   .exact⟨λg=>⟨by omega,⟨h0,by omega⟩,hn.1 e,g⟩,λg=>g.2.2.2⟩
   .obtain⟨_,⟨_,g⟩,_⟩:=g;grind
  .refine ax id λg=>?_
   obtain⟨_,⟨g,_⟩,_⟩:=g;subst h;cases g
 obtain⟨r,hr,h⟩:=key
 grind [Rl]
theorem tv{β:Type}{l:List (ByteArray×β)}{nm:ByteArray}:0<=gT (λx=>decide (x.1=nm)) l↔eU l nm:=by
 rw[pc];unfold eU;simp
def vx(l:List En)(nm:ByteArray)(hl:l.length<=maxLen):M.kJ aK l nm=aa (decide (eU l nm)):=by
 have:M.bL aK l nm=aa (gT (λx=>decide (x.1=nm)) l,nm):=by
  unfold M.bL M.nf;exact AA hl (λk h=>by simp only[aC h,nP h,aqN,if_true]) (by grind)
 grind [M.kJ,M.cd,tv]
def yk(l:List OY)(nm:ByteArray)(hl:l.length<=maxLen):M.lf aK l nm=aa (decide (eU l nm)):=by
 have:M.bE aK l nm=aa (gT (λx=>decide (x.1=nm)) l,nm):=by
  unfold M.bE M.my;exact AA hl (λk h=>by simp only[aC h,nP h,aqN,if_true]) (by grind)
 grind [M.lf,M.bT,tv]
def wA(l:List Fd)(f:Fd)(hl:l.length<=maxLen):M.bl aK l f=aa (decide (eU l f.1),f):=by
 have:M.bF aK l f=aa (gT (λx=>decide (x.1=f.1)) l,f):=by
  unfold M.bF M.kL;exact AA hl (λk h=>by simp only[aC h,nP h,aqN,if_true]) (by grind)
 grind [M.bl,tv]
def GU(l:List kr)(f:kr)(hl:l.length<=maxLen):M.bC aK l f=aa (decide (eU l f.1),f):=by
 have:M.bM aK l f=aa (gT (λx=>decide (x.1=f.1)) l,f):=by
  unfold M.bM M.lP;exact AA hl (λk h=>by simp only[aC h,nP h,aqN,if_true]) (by grind)
 grind [M.bC,tv]
def Ep(l:List jm)(f:jm)(hl:l.length<=maxLen):M.bm aK l f=aa (decide (eU l f.1),f):=by
 have:M.bG aK l f=aa (gT (λx=>decide (x.1=f.1)) l,f):=by
  unfold M.bG M.kP;exact AA hl (λk h=>by simp only[aC h,nP h,aqN,if_true]) (by grind)
 grind [M.bm,tv]
def JU(l:List ByteArray)(m:ByteArray)(hl:l.length<=maxLen):M.dP aK l m=aa (decide (m∈l)):=by
 have:M.eQ aK l m=aa (gT (λx=>decide (m=x)) l):=by
  unfold M.eQ;exact wz hl (λk h=>by simp only[aC h,nP h,aqN,if_true]) (by grind)
 grind [M.dP,pc]
def JV(l:List Int)(m:Int)(hl:l.length<=maxLen):M.fR aK l m=aa (decide (m∈l)):=by
 have:M.ir aK l m=aa (gT (λx=>decide (m=x)) l):=by
  unfold M.ir;exact wz hl (λk h=>by simp only[aC h,nP h,aqN,if_true]) (by grind)
 grind [M.fR,pc]
def pe{α:Type}{l:List α}{k:Nat}(h:k<=l.length):iE l (0:Int) (k:Int)=aa (l.take k):=by
 apply Wp.eq;exact wp_cut.2 ⟨by omega,by simp⟩
def Er(l:Lw)(hw:WF cz l)(k:Nat)(hk:k<l.1.length):M.oF aK l (k:Int) l.1[k]=aa ((pD l k).getD (0,0)):=by
 have hx:WF di l.1[k]:=hw.1.2 _ (aqS hk);have w1:=hw.1.1;have hs:l.1[k].1.size<=maxLen:=hx.1;have hm:∀m∈l.1[k].2,ByteArray.size m<=maxLen:=hx.2.2;apply Wp.eq;unfold M.oF pD;rw[aqR hk];simp only[xJ _ hs,pe (ash hk),vx (l.1.take k) _ (by grind),W_,aq,au,reduceCtorEq];generalize l.1[k]=x at*;refine⟨λh=>by grind,λh=>?_⟩;rw[ai (by simp[h])];refine⟨λh=>by grind,λh2=>?_⟩;rw[ai h2];refine⟨λh=>by grind,λh3=>?_⟩;rw[ai (by omega)];refine⟨λh=>by grind,λh4=>?_⟩;rw[ai (by omega)]
 refine Wp.count (λs=>s) x.2.length (λi _=>∀j,j<i->Em x.2 j=ae) (by omega) rfl (λj hj=>by omega) λi c hi hs hJ=>?_
 obtain rfl:c=_:=hs;simp only[W_,aq,au,reduceCtorEq,aQ,aO];refine⟨λaF=>?_,λhge=>?_⟩
 .have aF:i<x.2.length:=by omega
  have hf:Em x.2 i=if mN x.2[i]=ag then aa (2,100+(i:Int))else if x.2[i]∈x.2.take i then aa (7,100+(i:Int))else ae:=by
   unfold Em;rw[aqR aF]
  simp only[aC aF,xJ _ (hm _ (aqS aF)),pe (ash aF),JU (x.2.take i) _ (by rw[ard];unfold maxLen;omega),oU (k:=i) (a:=100) (by omega) (by omega),bQ (m:=x.2.length) (by omega) aF,W_,aq,au,reduceCtorEq];refine⟨λh=>?_,λh=>⟨λh2=>?_,λh2=>⟨aF,dZ hJ ?_⟩⟩⟩
  all_goals grind [cR]
 grind [bO]
def BN(l:Lw)(hw:WF cz l):M.nh aK l=aa (if 8<l.1.length then((4:Int),((1:Int),((8:Int),(0:Int))))else match cZ (λk=>(pD l k).map λe=>(k,e)) l.1.length with
 |some (k,e)=>oa 1 (k:Int) (aa e)
 |none=>E9):=by
 have w1:=hw.1.1;unfold maxLen at w1;apply Wp.eq;unfold M.nh;simp only[W_,aq,au,reduceCtorEq];refine⟨λh=>by grind,λh8=>?_⟩;rw[ai (by omega)]
 refine Wp.count (λs=>s) l.1.length (λi _=>∀j,j<i->(λk=>(pD l k).map λe=>(k,e)) j=ae) w1 rfl (λj hj=>by omega) λi c hi hs hJ=>?_
 obtain rfl:c=_:=hs;simp only[W_,aq,au,reduceCtorEq,aQ,aO];refine⟨λaF=>?_,λhge=>?_⟩
 .have aF:i<l.1.length:=by omega
  simp only[aC aF,Er l hw i aF,bQ w1 aF,W_,aq,au,reduceCtorEq];refine⟨λh=>?_,λh=>⟨aF,dZ hJ ?_⟩⟩
  .cases he:pD l i with
   |none=>grind
   |some e=>rw[cR (NX he) hJ aF];rfl
  .cases he:pD l i with
   |none=>rfl
   |some e=>grind [uq]
 .rw[bO.2 λj hj=>hJ j (by omega)];rfl
theorem sd(t:Ty)(E:List En):M.dA aK t E=aa (decide (qd t E.length)):=by
 obtain⟨(k:Int),(e:Int)⟩:=t;apply Wp.eq;unfold M.dA;simp only[W_,aq,au,reduceCtorEq];simp only[qd];dsimp only[az,Row.den]at*;omega
def zq(t:Ty)(E:List En):M.jD aK t E=aa (Ju t E):=by
 obtain⟨(k:Int),(e:Int)⟩:=t;apply Wp.eq;unfold M.jD Ju;simp only[sd,W_,aq,au,reduceCtorEq];by_cases hv:qd (k,e) E.length
 .simp only[hv,not_true_eq_false,if_false,false_implies,true_implies,true_and];refine⟨λh=>by rw[aj h],λh1=>⟨λh=>by rw[ai h1,aj h],λh2=>⟨λh=>by rw[ai h1,ai h2,aj h],λh3=>⟨λh=>by rw[ai h1,ai h2,ai h3,aj h],λh4=>⟨(by grind),λh5=>?_⟩⟩⟩⟩⟩;simp only[qd]at hv;dsimp only[az,Row.den]at*
  have hi:e.toNat<E.length:=by omega
  refine fo.2 ⟨by omega,?_⟩
  grind
 grind
def JW(r:Ty):M.fi aK r=aa (decide (VR r)):=by
 obtain⟨(k:Int),(e:Int)⟩:=r;apply Wp.eq;unfold M.fi;simp only[W_,aq,au,reduceCtorEq];simp only[VR];grind
def NZ(a b:Rw):M.ni aK a b=aa (decide (sF a b)):=by
 obtain⟨⟨(a1:Int),(a2:Int)⟩,(a3:Int),(a4:Int),(a5:Int)⟩:=a;obtain⟨⟨(b1:Int),(b2:Int)⟩,(b3:Int),(b4:Int),(b5:Int)⟩:=b;apply Wp.eq;unfold M.ni M.lN M.kf;simp only[JW,W_,aq,au,reduceCtorEq];simp only[sF];dsimp only[az,Row.den]at*
 by_cases h1:VR (a1,a2)<;>by_cases h2:VR (b1,b2)<;>simp only[h1,h2,W_,aq,au,reduceCtorEq]<;>omega
def Rm(l:List Rw)(x:Rw)(hl:l.length<=maxLen):Wp (M.cM aK l x) λr=>r.2.1=af↔∃y∈l,sF y x:=by
 unfold M.cM M.kK
 refine Wp.count (λs=>s.1) l.length (λk s=>s.2=x/\∀j,j<k->∀h:j<l.length,¬sF l[j] x) hl rfl ⟨rfl,λj hj=>by omega⟩ λk c hk hs hJ=>?_
 obtain⟨c1,c2⟩:=c;obtain⟨h1,hJ⟩:=hJ;obtain rfl:c2=x:=h1;obtain rfl:c1=_:=hs;simp only[NZ,W_,aq,au,reduceCtorEq,aQ,aO];refine⟨λaF=>?_,λhge=>?_⟩
 .have aF:k<l.length:=by omega
  simp only[aC aF,bQ hl aF,W_,aq,au,reduceCtorEq]
  grind
 .refine ax id ?_
  grind [aq6]
def UL(t:OY)(E:List En):M.nk aK t E=aa (ov t E):=by
 apply Wp.eq;unfold M.nk ov;simp only[sd,zq,JW,W_,aq,au,reduceCtorEq];refine⟨λh=>by grind,λh64=>?_⟩;rw[ai (c:=64<t.2.2.2.length) (by omega)];refine⟨λh1=>by rw[aj (λg=>h1 g.1)],λh1=>⟨(by grind),λh2=>?_⟩⟩;rw[ai (λg=>g ⟨h1,h2⟩)]
 refine Wp.count (λs=>s) t.2.2.2.length (λk _=>∀j,j<k->vn t E j=ae) (by omega) rfl (λj hj=>by omega) λk s hk hs hJ=>?_
 obtain rfl:s=_:=hs;simp only[W_,aq,au,reduceCtorEq,aQ,aO];refine⟨λaF=>?_,λhge=>?_⟩
 .have aF:k<t.2.2.2.length:=by omega
  have hf:vn t E k=if uT t.2.2.2[k] t E then aa ((k:Int),3)else if∃y∈t.2.2.2.take k,sF y t.2.2.2[k]then aa ((k:Int),11)else ae:=by
   unfold vn;rw[aqR aF]
  have bad:uT t.2.2.2[k] t E->((k:Int),(3:Int))=(cZ (vn t E) t.2.2.2.length).getD (0,0):=λhw=>by
   grind [cR]
  have good:¬uT t.2.2.2[k] t E->Wp (M.cM aK (t.2.2.2.take k) t.2.2.2[k]) λy=>(y.2.1=af->((k:Int),(11:Int))=(cZ (vn t E) t.2.2.2.length).getD (0,0))/\(y.2.1=ag->k<t.2.2.2.length/\∀j,j<k+1->vn t E j=ae):=λhw=>by
   rw[ai hw]at hf
   refine(Rm _ _ (by rw[ard];unfold maxLen;omega)).mono λy hy=>⟨λh=>?_,λh=>⟨aF,dZ hJ ?_⟩⟩
   all_goals grind [cR]
  simp only[aC aF,pe (ash aF),bQ (m:=t.2.2.2.length) (by omega) aF,W_,aq,au,reduceCtorEq];unfold uT at bad good;unfold Ek at bad good
  grind
 grind [bO]
def Rn{t:OY}{E:List En}:(ov t E).2≠0->((ov t E).1= -1\/(0<=(ov t E).1/\(ov t E).1<=64)):=by
 unfold ov;intro h;split
 .grind
 split
 .exact .inl rfl
 rename_i h1 h2
 cases hf:cZ (vn t E) t.2.2.2.length with
 |none=>grind
 |some e=>
  obtain⟨k,hk,he,_⟩:=iB hf;unfold vn at he;split at he
  .cases he
  split at he
  .grind
  split at he
  all_goals grind
def AD(l:Lw)(hw:WF cz l):M.me aK l=aa (if 8<l.2.1.length then((4:Int),((2:Int),((8:Int),(0:Int))))else match cZ (λk=>(sO l k).map λe=>(k,e)) l.2.1.length with
 |some (k,e)=>oa 2 (k:Int) (aa e)
 |none=>E9):=by
 have w1:=hw.2.1.1;have w0:=hw.1.1;have wt:∀t∈l.2.1,WF bj t:=hw.2.1.2;unfold maxLen at w1;apply Wp.eq;unfold M.me;simp only[W_,aq,au,reduceCtorEq];refine⟨λh=>by grind,λh8=>?_⟩;rw[ai (by omega)]
 refine Wp.count (λs=>s) l.2.1.length (λi _=>∀j,j<i->(λk=>(sO l k).map λe=>(k,e)) j=ae) w1 rfl (λj hj=>by omega) λi c hi hs hJ=>?_
 obtain rfl:c=_:=hs;simp only[W_,aq,au,reduceCtorEq,aQ,aO];refine⟨λaF=>?_,λhge=>?_⟩
 .have aF:i<l.2.1.length:=by omega
  have po:l.2.1[i].1.size<=maxLen:=(wt _ (aqS aF)).1
  have hE:sO l i=if mN l.2.1[i].1=ag then aa (2,0)else if eU l.1 l.2.1[i].1\/eU (l.2.1.take i) l.2.1[i].1 then aa (7,0)else if(ov l.2.1[i] l.1).2=0 then ae else aa ((ov l.2.1[i] l.1).2,if 0<=(ov l.2.1[i] l.1).1 then 100+(ov l.2.1[i] l.1).1 else 0):=by
   unfold sO;rw[aqR aF]
  simp only[aC aF,UL,xJ _ po,pe (ash aF),vx _ _ w0,yk (l.2.1.take i) _ (by rw[ard];unfold maxLen;omega),bQ w1 aF,W_,aq,au,reduceCtorEq]
  have bad:∀e,sO l i=aa e->oa 2 (i:Int) (aa e)=(match cZ (λk=>(sO l k).map λe=>(k,e)) l.2.1.length with|some (k,e)=>oa 2 (k:Int) (aa e)|none=>E9):=λe he=>by
   rw[cR (NX he) hJ aF]
  have good:sO l i=ae->i<l.2.1.length/\∀j,j<i+1->(λk=>(sO l k).map λe=>(k,e)) j=ae:=(by grind)
  have QR:=Rn (t:=l.2.1[i]) (E:=l.1);generalize ov l.2.1[i] l.1=te at*;obtain⟨(r:Int),(c:Int)⟩:=te;dsimp only at*;refine⟨λh=>?_,λh=>⟨λh2=>?_,λh2=>⟨λh3=>?_,λh3=>⟨λh4=>?_,λh4=>?_⟩⟩⟩⟩
  .exact⟨λ_=>bad (2,0) (hE.trans (aj h)),λg=>absurd g (by decide)⟩
  .rw[ai (c:=mN l.2.1[i].1=ag) (by simp[h]),aj (Or.inl h2)]at hE;exact⟨λ_=>bad (7,0) hE,λg=>absurd g (by decide)⟩
  .rw[ai (c:=mN l.2.1[i].1=ag) (by simp[h]),aj (Or.inr h3)]at hE;exact⟨λ_=>bad (7,0) hE,λg=>absurd g (by decide)⟩
  .rw[ai (c:=mN l.2.1[i].1=ag) (by simp[h]),ai (λg=>g.elim h2 h3),ai h4]at hE;have hr:=QR h4;refine⟨λg=>⟨λ_=>?_,λe=>absurd e h4⟩,λg=>⟨λ_=>?_,λe=>absurd e h4⟩⟩
   .rw[aE (by omega) (by omega)];exact bad (c,100+r) (hE.trans (by grind))
   .exact bad (c,0) (hE.trans (by grind))
  grind
 .rw[bO.2 λj hj=>hJ j (by omega)];rfl
noncomputable def tw(l:Lw)(f:Fd)(a b:List Fd):Int:=if mN f.1=ag then 2 else if eU a f.1\/eU b f.1 then 7 else if¬qd f.2 l.1.length then 8 else 0
def uU(l:Lw)(f:Fd)(a b:List Fd)(hf:f.1.size<=maxLen)(ha:a.length<=maxLen)(hb:b.length<=maxLen):M.kM aK l f a b=aa (tw l f a b):=by
 apply Wp.eq;unfold M.kM;simp only[xJ _ hf,wA _ _ ha,wA _ _ hb,sd,W_,aq,au,reduceCtorEq]
 grind [tw]
def Es(l:List UInt8)(c:UInt8):0<=ar5 l c↔c∈l:=by
 induction l with
 |nil=>simp[ar5]
 |cons b l ih=>
  have hg:=Go.Lib.indexByte_ge l c;unfold ar5
  grind
def AE(s:ByteArray)(_:s.size<=maxLen):M.mf aK s=aa (decide (plain s)):=by
 have hc:M.strings_Contains aK s (⟨#[34]⟩:ByteArray)=aa (decide (0<=ar5 s.data.toList 34)):=rfl
 have dC:0<=ar5 s.data.toList 34↔∃i,∃h:i<s.size,(s[i].toNat:Int)=34:=by
  rw[Es];constructor
  .intro h;obtain⟨i,hi,e⟩:=aq6 h;refine⟨i,by simpa using hi,?_⟩
   have:s[i]'(by simpa using hi)=34:=by
    have e:s.data[i]'(by simpa using hi)=34:=by simpa using e
    exact e
   rw[this];rfl
  .rintro⟨i,hi,e⟩
   have e2:s[i]=34:=by
    apply UInt8.toNat_inj.1
    show s[i].toNat=34
    omega
   have:(34:UInt8)=s.data.toList[i]'(by simpa using hi):=by rw[<-e2];simp;rfl
   grind
 apply Wp.eq;unfold M.mf;simp only[hc,W_,aq,au,reduceCtorEq];refine⟨λh=>?_,λh64=>⟨λh=>?_,λUM=>?_⟩⟩
 .grind [plain]
 .grind [plain]
 refine Wp.count (λs=>s) s.size (λi _=>∀j,j<i->∀h:j<s.size,32<=(s[j].toNat:Int)/\(s[j].toNat:Int)<=126) (by omega) rfl (λj hj=>by omega) λi c hi hs hJ=>?_
 obtain rfl:c=_:=hs
 rcases Nat.lt_or_ge i s.size with aF|hge
 .have hb:lH s (i:Int)=aa (s[i].toNat:Int):=by
   have:=(Q5 (x:=((s[i].toNat:Nat):Int))).1 (qI (s:=s) (i:=(i:Int)).2 ⟨by omega,by simp⟩);exact this
  simp only[tl aF,hb,bQ (m:=s.size) (by omega) aF,W_,aq,au,reduceCtorEq,aQ,aO];refine⟨λh=>?_,λh=>⟨λh2=>?_,λh2=>⟨aF,dZ hJ λ_=>by omega⟩⟩⟩
  all_goals grind [plain]
 .obtain rfl:i=s.size:=by omega
  simp only[o8,W_,aq,au,reduceCtorEq,aO];refine(⟨λi hi=>?_,by omega⟩:plain s)
  grind
def GV(sg:vL):Prop:=∀e:List Ty,(∀n∈e,WF aA n)->M.qy aK e sg=aa (NT e sg)
def pP{sg:vL}(hT:GV sg){e:List Ty}(want:Ty)(hw:∀n∈e,WF aA n):M.iK aK e sg want=aa (uI e sg want):=by
 apply Wp.eq;unfold M.iK;simp only[hT e hw,NS,W_,aq,au,reduceCtorEq]
 grind [uI]
def Et(l:Lw)(x:jm)(hw:WF bn x)(gk:ow x)(hT:GV (gS l x))(k:Nat)(hk:k<x.2.2.2.2.length):M.lV aK x (k:Int) (gS l x)=aa (wy l x k x.2.2.2.2[k]):=by
 have JT:=hw.2.2.2.2.2 _ (aqS hk);have Ix:=gk.2.2.2.2.2.2 _ (aqS hk)
 obtain⟨r,hr⟩:∃r,r=x.2.2.2.2[k]:=⟨_,rfl⟩
 have Zn:=gk.2.2.2.1
 have UN:Wp (Loop (S:=Int×Int) (X:=Int) (λs4=>
  (if(decide (s4.2<((x.2.2.2.2.take k).length:Int)))=af then
  ((idx (x.2.2.2.2.take k) s4.2).bind λx6=>
  (if(decide ((x6.2.1:Int)=r.2.1))=af then
  some (aqO.wrap (s4.1+(1:Int)))
  else
  some s4.1):Option (Int)).bind λj5=>
  some (Sum.inl (j5,aqO.wrap (s4.2+(1:Int))))
  else
  some (arM s4.1))) aK ((0:Int),(0:Int))) λn=>n=(Eo x k r.2.1:Int):=by
  have TR:(x.2.2.2.2.take k).length=k:=by rw[ard];omega
  refine Wp.count (λs=>s.2) k (λj s=>s.1=(((x.2.2.2.2.take j).countP λr'=>decide ((r'.2.1:Int)=r.2.1):Nat):Int)) (by omega) rfl rfl λj s hj hs UH=>?_
  obtain⟨sb,c⟩:=s;dsimp only at hs UH;subst hs;rw[TR];have Ln:(x.2.2.2.2.take j).countP (λr'=>decide ((r'.2.1:Int)=r.2.1))<=60:=ark List.countP_le_length (by rw[ard];omega);simp only[W_,aq,au,reduceCtorEq,aQ,aO];refine⟨λZm=>?_,λZm=>?_⟩
  .have xl:j<x.2.2.2.2.length:=by omega
   have O1:j<(x.2.2.2.2.take k).length:=by omega
   simp only[aC O1,List.getElem_take,bQ (m:=k) (by omega) (show j<k by omega),W_,aq,au,reduceCtorEq]
   have hct:(x.2.2.2.2.take (j+1)).countP (λr'=>decide ((r'.2.1:Int)=r.2.1))=(x.2.2.2.2.take j).countP (λr'=>decide ((r'.2.1:Int)=r.2.1))+if(x.2.2.2.2[j].2.1:Int)=r.2.1 then 1 else 0:=by
    rw[<-ara xl,List.countP_append];simp[List.countP_cons]
   refine⟨λh'=>⟨by omega,?_⟩,λh'=>⟨by omega,?_⟩⟩
   .rw[hct,aj h',UH,aE (by omega) (by omega)];rfl
   .rw[hct,ai h',UH];rfl
  .obtain rfl:j=k:=by omega
   exact UH
 apply Wp.eq;unfold M.lV;rw[<-hr];have po:r.1.size<=maxLen:=(hr▸JT).1
 have ah0:r.2.2.2.2.2.2.2.size<=maxLen:=by
  have:=(hr▸Ix).2.1;unfold maxLen;omega
 have Ln:Eo x k r.2.1<=60:=ark List.countP_le_length (by rw[ard];omega);have hg:∀n∈r.2.2.2.2.2.1,WF aA n:=(hr▸JT).2.2.2.2.2.1.2;have hv:∀n∈r.2.2.2.2.2.2.1,WF aA n:=(hr▸JT).2.2.2.2.2.2.1.2;have OZ:vr x k r↔(r.2.2.1:Int)≠-1/\((r.2.2.1:Int)<0\/(k:Int)<=r.2.2.1\/∃y,x.2.2.2.2[(r.2.2.1:Int).toNat]? =aa y/\(y.2.1:Int)≠r.2.1):=Iff.rfl;simp only[aC hk,<-hr,pe (ash hk),GU (x.2.2.2.2.take k) _ (by rw[ard];unfold maxLen;omega),xJ _ po,AE _ ah0,W_,aq,au,reduceCtorEq];simp only[aw]at UN
 refine UN.mono λn hn=>?_
 subst hn;clear UN JT Ix hr;unfold wy;refine⟨λh=>by rw[aj h],λh1=>?_⟩;rw[ai (c:=mN r.1=ag) (by simp[h1])];refine⟨λh=>by rw[aj h],λh2=>?_⟩;rw[ai (c:=eU (x.2.2.2.2.take k) r.1) h2];generalize Eo x k r.2.1=q at*;obtain⟨nm,(d:Int),(p:Int),(pr:Int),v,g,val,src⟩:=r;obtain⟨(v1:Int),(v2:Int)⟩:=v;dsimp only[az,Row.den]at*;refine⟨λh=>by rw[aj (c:=¬(0<=d/\d<(x.2.2.2.1.length:Int))) (by omega)],λh3=>⟨λh=>by rw[aj (c:=¬(0<=d/\d<(x.2.2.2.1.length:Int))) (by omega)],λh4=>?_⟩⟩;rw[ai (c:=¬(0<=d/\d<(x.2.2.2.1.length:Int))) (by omega)]
 have hd:d.toNat<x.2.2.2.1.length:=by omega
 have hvr:¬VR ((v1,v2):Ty)\/v1=v2↔v1<0\/v2<=v1\/109573<v2:=by
  simp only[VR];dsimp only[az,Row.den];omega
 refine⟨λhp=>⟨λh=>by rw[aj (OZ.2 ⟨hp, .inl h⟩)],λh5=>⟨λh=>by rw[aj (OZ.2 ⟨hp, .inr (.inl h)⟩)],λh6=>fo.2 ⟨⟨by omega,by omega⟩,λh7=>by rw[aj (OZ.2 ⟨hp, .inr (.inr ⟨_,aqR (by omega),h7⟩)⟩)],λh7=>?_⟩⟩⟩,λhp=>?_⟩
 .have Y3:¬vr x k (nm,d,p,pr,(v1,v2),g,val,src):=λh=>by
   obtain⟨_,g1|g1|⟨y,g1,g2⟩⟩:=OZ.1 h
   .omega
   .omega
   .rw[aqR (by omega)]at g1;cases g1;exact g2 h7
  clear OZ;rw[ai Y3]
  have last:Wp (idx x.2.2.2.1 d) λx_3=>Wp (M.iK aK val (gS l x) x_3.2) λx_4=>x_4=match x.2.2.2.1[d.toNat]? with
   |some d=>uI val (gS l x) d.2
   |none=>0:=by
   refine fo.2 ⟨by omega,?_⟩;rw[pP hT _ hv,aqR hd];exact .some rfl
  by_cases g1:pr<0\/9<pr\/¬VR ((v1,v2):Ty)\/v1=v2
  .rw[aj g1];refine⟨λ_=>rfl,λa1=>⟨λ_=>rfl,λa2=>⟨λ_=>rfl,λa3=>⟨λ_=>rfl,λa4=>⟨λ_=>rfl,λa5=>?_⟩⟩⟩⟩⟩;rw[hvr]at g1;omega
  rw[ai g1]
  have ZF:¬(pr<0\/9<pr\/v1<0\/v2<=v1\/109573<v2):=by rw[<-hvr];exact g1
  refine⟨λh=>by omega,λa1=>⟨λh=>by omega,λa2=>⟨λh=>by omega,λa3=>⟨λh=>by omega,λa4=>⟨λh=>by omega,λa5=>?_⟩⟩⟩⟩⟩;refine⟨λh=>by rw[aj (by omega)],λh8=>?_⟩;rw[ai (by omega)];refine⟨λh=>by rw[aj h],λh9=>?_⟩;rw[ai (λh=>h h9)];refine⟨λh=>?_,λh=>?_⟩
  .rw[pP hT _ hg];refine .some ⟨λh'=>by rw[aj ⟨by omega,h'⟩],λh'=>?_⟩;rw[ai (λg=>g.2 h')];exact last
  .rw[ai (λg=>h (by omega))];exact last
 .have Y3:¬vr x k (nm,d,p,pr,(v1,v2),g,val,src):=λh=>(OZ.1 h).1 hp
  clear OZ;rw[ai Y3]
  have last:Wp (idx x.2.2.2.1 d) λx_3=>Wp (M.iK aK val (gS l x) x_3.2) λx_4=>x_4=match x.2.2.2.1[d.toNat]? with
   |some d=>uI val (gS l x) d.2
   |none=>0:=by
   refine fo.2 ⟨by omega,?_⟩;rw[pP hT _ hv,aqR hd];exact .some rfl
  by_cases g1:pr<0\/9<pr\/¬VR ((v1,v2):Ty)\/v1=v2
  .rw[aj g1];refine⟨λ_=>rfl,λa1=>⟨λ_=>rfl,λa2=>⟨λ_=>rfl,λa3=>⟨λ_=>rfl,λa4=>⟨λ_=>rfl,λa5=>?_⟩⟩⟩⟩⟩;rw[hvr]at g1;omega
  rw[ai g1]
  have ZF:¬(pr<0\/9<pr\/v1<0\/v2<=v1\/109573<v2):=by rw[<-hvr];exact g1
  refine⟨λh=>by omega,λa1=>⟨λh=>by omega,λa2=>⟨λh=>by omega,λa3=>⟨λh=>by omega,λa4=>⟨λh=>by omega,λa5=>?_⟩⟩⟩⟩⟩;refine⟨λh=>by rw[aj (by omega)],λh8=>?_⟩;rw[ai (by omega)];refine⟨λh=>by rw[aj h],λh9=>?_⟩;rw[ai (λh=>h h9)];refine⟨λh=>?_,λh=>?_⟩
  .rw[pP hT _ hg];refine .some ⟨λh'=>by rw[aj ⟨by omega,h'⟩],λh'=>?_⟩;rw[ai (λg=>g.2 h')];exact last
  .rw[ai (λg=>h (by omega))];exact last
def N0(x:jm):Prop:=∀d:Nat,d<x.2.2.2.1.length->∃tr,M.jO aK x (d:Int)=aa tr/\tr.length<=1000/\((d:Int)∈tr↔(d:Int)∈El x d)
def N1(l:Lw)(k:Nat)(hk:k<l.2.2.length)(hs:∀s∈l.2.2,s.2.2.1.length<=100000/\s.2.2.2.1.length<=100000):M.lO aK l (k:Int)=aa ((gS l l.2.2[k]).1,(gS l l.2.2[k]).2.1,(gS l l.2.2[k]).2.2.2.2.2,(gS l l.2.2[k]).2.2.1,(gS l l.2.2[k]).2.2.2.1,(gS l l.2.2[k]).2.2.2.2.1):=by
 rw[<-LB l k hk hs];unfold M.ik;rw[ai (by simp),aqN,ai (by simp;omega)];rfl
def Yg(l:Lw)(x:jm)(i:Nat)(h:i<x.2.2.1.length):BK l x i=if tw l x.2.2.1[i] (x.2.2.1.take i) []≠0 then aa (tw l x.2.2.1[i] (x.2.2.1.take i) [],100+(i:Int))else ae:=by
 have hn:∀nm,¬eU ([]:List Fd) nm:=λnm ⟨y,hy,_⟩=>by cases hy
 grind [BK,tw]
def Yh(l:Lw)(x:jm)(i:Nat)(h:i<x.2.2.2.1.length):BL l x i=if tw l x.2.2.2.1[i] x.2.2.1 (x.2.2.2.1.take i)≠0 then aa (tw l x.2.2.2.1[i] x.2.2.1 (x.2.2.2.1.take i),200+(i:Int))else ae:=by
 grind [BL,tw]
def BO(l:Lw)(hw:WF cz l)(gk:fZ l)(k:Nat)(hk:k<l.2.2.length)(hT:GV (gS l l.2.2[k]))(hC:N0 l.2.2[k]):M.nq aK l (k:Int)=aa ((uJ l k).getD (0,0)):=by
 have sB:=gk.2.2.2.2.2 _ (aqS hk);have Fa:=hw.2.2.2 _ (aqS hk)
 have Rj:=N1 l k hk λs hs=>⟨by have:=(gk.2.2.2.2.2 s hs).2.1;omega,by have:=(gk.2.2.2.2.2 s hs).2.2.1;omega⟩
 have hE:uJ l k=if mN l.2.2[k].1=ag then aa (2,0)else if eU l.1 l.2.2[k].1\/eU l.2.1 l.2.2[k].1\/eU (l.2.2.take k) l.2.2[k].1 then aa (7,0)else if qW l k l.2.2[k]then aa (6,0)else
  if 12<l.2.2[k].2.2.1.length then aa (4,112)else if 12<l.2.2[k].2.2.2.1.length then aa (4,212)else((vq l l.2.2[k]).or (cZ (yL l l.2.2[k]) l.2.2[k].2.2.2.2.length)).or (cZ (Ax l.2.2[k]) l.2.2[k].2.2.2.1.length):=by
  unfold uJ;rw[aqR hk]
 have h5:=gk.2.2.1
 obtain⟨x,hx⟩:∃x,x=l.2.2[k]:=⟨_,rfl⟩
 simp only[<-hx]at sB Fa Rj hE hT hC;have Fb:=sB.2.2.1;have Zn:=sB.2.2.2.1;have anx:=sB.2.1;have po:x.1.size<=maxLen:=Fa.1
 have TR:(l.2.2.take k).length=k:=by rw[ard];omega
 have dC:∀f∈x.2.2.1,(f.1:ByteArray).size<=maxLen:=λf hf=>by have:=sB.2.2.2.2.1 f hf;unfold maxLen;omega
 have hdf:∀f∈x.2.2.2.1,(f.1:ByteArray).size<=maxLen:=λf hf=>by have:=sB.2.2.2.2.2.1 f hf;unfold maxLen;omega
 apply Wp.eq;unfold M.nq;rw[aC hk,aqN,pe (ash hk),aqN,<-hx]
 have Ro:(((M.kJ aK l.1 x.1).bind λy4=>
  (if y4=af then
  some (af,x)
  else
  (M.lf aK l.2.1 x.1).bind λy5=>
  (if y5=af then
  some (af,x)
  else
  (M.bm aK (l.2.2.take k) x).bind λy6=>
  some (y6.1,y6.2))):Option (Bool×bn.den)))=aa (decide (eU l.1 x.1\/eU l.2.1 x.1\/eU (l.2.2.take k) x.1),x):=by
  apply Wp.eq;simp only[vx _ _ hw.1.1,yk _ _ hw.2.1.1,Ep (l.2.2.take k) _ (by rw[TR];unfold maxLen;omega),W_,aq,au,reduceCtorEq];exact⟨λh=>by rw[an (Or.inl h)],λh1=>⟨λh=>by rw[an (Or.inr (Or.inl h))],λh2=>av (λb=>(b,x)) (decide_eq_decide.2 ⟨λh=> .inr (.inr h),λh=>(h.resolve_left h1).resolve_left h2⟩)⟩⟩
 rw[Ro,aqN,xJ _ po,aqN,hE];by_cases h1:mN x.1=ag
 .rw[aj (by simp[h1]),aj h1];exact .some rfl
 rw[ai (by simpa using h1),ai h1];by_cases h2:eU l.1 x.1\/eU l.2.1 x.1\/eU (l.2.2.take k) x.1
 .rw[aj (an h2),aj h2];exact .some rfl
 rw[ai (by simpa using h2),ai h2];have NW:qW l k x↔(x.2.1:Int)≠-1/\((x.2.1:Int)<0\/(k:Int)<=x.2.1\/∃y,l.2.2[(x.2.1:Int).toNat]? =aa y/\(y.2.1:Int)≠-1):=Iff.rfl
 have Rp:((if(!decide ((x.2.1:Int)=(-1:Int)))=af then
  (if(decide ((x.2.1:Int)<(0:Int)))=af then
  some af
  else
  (if(decide ((k:Int)<=x.2.1))=af then
  some af
  else
  (idx (l.2.2.take k) x.2.1).bind λx9=>
  some (!decide ((x9.2.1:Int)=(-1:Int)))))
  else
  some ag):Option (Bool))=aa (decide (qW l k x)):=by
  apply Wp.eq;simp only[W_,aq,au,reduceCtorEq]
  obtain⟨(m:Int),hm⟩:∃m:Int,m=x.2.1:=⟨_,rfl⟩
  simp only[<-hm]at NW⊢;refine⟨λhp=>⟨λh=>(NW.2 ⟨hp, .inl h⟩),λh3=>⟨λh=>(NW.2 ⟨hp, .inr (.inl h)⟩),λh4=>fo.2 ⟨by dsimp only[az,Row.den]at*;omega,?_⟩⟩⟩,λhp h=>(NW.1 h).1 hp⟩
  have Wc:m.toNat<k:=by dsimp only[az,Row.den]at*;omega
  rw[List.getElem_take];have Bq:l.2.2[m.toNat]? =aa (l.2.2[m.toNat]'(by omega)):=aqR (by omega);rw[<-decide_not];refine decide_eq_decide.2 ⟨λh g=>?_,λh=>Classical.not_not.1 λh'=>h (NW.2 ⟨hp, .inr (.inr ⟨_,Bq,h'⟩)⟩)⟩;obtain⟨_,g1|g1|⟨y,g1,g2⟩⟩:=NW.1 g
  .exact absurd g1 h3
  .exact absurd g1 h4
  .rw[Bq]at g1;cases g1;exact g2 h
 rw[Rp,aqN];by_cases h3:qW l k x
 .rw[aj (an h3),aj h3];exact .some rfl
 rw[ai (by simpa using h3),ai h3];clear Ro Rp NW hE;dsimp only;by_cases h4:12<x.2.2.1.length
 .rw[aj (an (by omega)),aj h4];exact .some rfl
 rw[ai (by rw[aw];omega),ai h4];by_cases h5:12<x.2.2.2.1.length
 .rw[aj (an (by omega)),aj h5];exact .some rfl
 rw[ai (by rw[aw];omega),ai h5,Rj];unfold vq;simp only[W_,aq,au,reduceCtorEq]
 refine Wp.count (λs=>s) x.2.2.1.length (λi _=>∀j,j<i->BK l x j=ae) (by omega) rfl (λj hj=>by omega) λi c hi hs hJ=>?_
 obtain rfl:c=_:=hs;simp only[W_,aq,au,reduceCtorEq,aQ,aO];refine⟨λaF=>?_,λhge=>?_⟩
 .have aF:i<x.2.2.1.length:=by omega
  have hf:=Yg l x i aF;simp only[aC aF,pe (ash aF),uU l _ (x.2.2.1.take i) [] (dC _ (aqS aF)) (by rw[ard];unfold maxLen;omega) (by simp),oU (k:=i) (a:=100) (by omega) (by omega),bQ (m:=x.2.2.1.length) (by omega) aF,W_,aq,au,reduceCtorEq];refine⟨λh=>?_,λh=>⟨aF,dZ hJ (by rw[hf,ai (λg=>g h)])⟩⟩;rw[cR (hf.trans (aj h)) hJ aF];rfl
 rw[bO.2 λj(hj:j<x.2.2.1.length)=>hJ j (by omega),Option.none_or];clear hJ
 refine Wp.count (λs=>s) x.2.2.2.1.length (λi _=>∀j,j<i->BL l x j=ae) (by omega) rfl (λj hj=>by omega) λi c hi hs hJ=>?_
 obtain rfl:c=_:=hs;simp only[W_,aq,au,reduceCtorEq,aQ,aO];refine⟨λaF=>?_,λhge=>?_⟩
 .have aF:i<x.2.2.2.1.length:=by omega
  have hf:=Yh l x i aF;simp only[aC aF,pe (ash aF),uU l _ x.2.2.1 (x.2.2.2.1.take i) (hdf _ (aqS aF)) (by unfold maxLen;omega) (by rw[ard];unfold maxLen;omega),oU (k:=i) (a:=200) (by omega) (by omega),bQ (m:=x.2.2.2.1.length) (by omega) aF,W_,aq,au,reduceCtorEq];refine⟨λh=>?_,λh=>⟨aF,dZ hJ (by rw[hf,ai (λg=>g h)])⟩⟩;rw[cR (hf.trans (aj h)) hJ aF];rfl
 rw[bO.2 λj(hj:j<x.2.2.2.1.length)=>hJ j (by omega),Option.none_or];clear hJ
 refine Wp.count (λs=>s) x.2.2.2.2.length (λi _=>∀j,j<i->yL l x j=ae) (by omega) rfl (λj hj=>by omega) λi c hi hs hJ=>?_
 obtain rfl:c=_:=hs;simp only[W_,aq,au,reduceCtorEq,aQ,aO];refine⟨λaF=>?_,λhge=>?_⟩
 .have aF:i<x.2.2.2.2.length:=by omega
  have hf:yL l x i=if wy l x i x.2.2.2.2[i]≠0 then aa (wy l x i x.2.2.2.2[i],300+(i:Int))else ae:=by
   unfold yL;rw[aqR aF]
  have hr:M.lV aK x (i:Int) ((gS l x).1,((gS l x).2.1,((gS l x).2.2.1,((gS l x).2.2.2.1,((gS l x).2.2.2.2.1,(gS l x).2.2.2.2.2)))))=_:=Et l x Fa sB hT i aF;simp only[hr,oU (k:=i) (a:=300) (by omega) (by omega),bQ (m:=x.2.2.2.2.length) (by omega) aF,W_,aq,au,reduceCtorEq];refine⟨λh=>?_,λh=>⟨aF,dZ hJ (by rw[hf,ai (λg=>g h)])⟩⟩;rw[cR (hf.trans (aj h)) hJ aF];rfl
 rw[bO.2 λj(hj:j<x.2.2.2.2.length)=>hJ j (by omega),Option.none_or];clear hJ
 refine Wp.count (λs=>s) x.2.2.2.1.length (λi _=>∀j,j<i->Ax x j=ae) (by omega) rfl (λj hj=>by omega) λi c hi hs hJ=>?_
 obtain rfl:c=_:=hs;simp only[W_,aq,au,reduceCtorEq,aQ,aO];refine⟨λaF=>?_,λhge=>?_⟩
 .have aF:i<x.2.2.2.1.length:=by omega
  obtain⟨tr,e1,e2,e3⟩:=hC i aF
  have hf:Ax x i=if(i:Int)∈El x i then aa (9,200+(i:Int))else ae:=rfl
  simp only[e1,JV tr _ (by unfold maxLen;omega),oU (k:=i) (a:=200) (by omega) (by omega),bQ (m:=x.2.2.2.1.length) (by omega) aF,W_,aq,au,reduceCtorEq];refine⟨λh=>?_,λh=>⟨aF,dZ hJ (by rw[hf,ai (λg=>h (e3.2 g))])⟩⟩;rw[cR (hf.trans (aj (e3.1 h))) hJ aF];rfl
 .rw[bO.2 λj(hj:j<x.2.2.2.1.length)=>hJ j (by omega)];rfl
theorem AF(l:Lw)(hw:WF cz l)(gk:fZ l)(hT:∀x∈l.2.2,GV (gS l x))(hC:∀x∈l.2.2,N0 x):M.mg aK l=aa (if 4<l.2.2.length then((4:Int),((3:Int),((4:Int),(0:Int))))else match cZ (λk=>(uJ l k).map λe=>(k,e)) l.2.2.length with
 |some (k,e)=>oa 3 (k:Int) (aa e)
 |none=>E9):=by
 have w1:=hw.2.2.1;unfold maxLen at w1;apply Wp.eq;unfold M.mg;simp only[W_,aq,au,reduceCtorEq];refine⟨λh=>by grind,λh8=>?_⟩;rw[ai (by omega)]
 refine Wp.count (λs=>s) l.2.2.length (λi _=>∀j,j<i->(λk=>(uJ l k).map λe=>(k,e)) j=ae) w1 rfl (λj hj=>by omega) λi c hi hs hJ=>?_
 obtain rfl:c=_:=hs;simp only[W_,aq,au,reduceCtorEq,aQ,aO];refine⟨λaF=>?_,λhge=>?_⟩
 .have aF:i<l.2.2.length:=by omega
  simp only[BO l hw gk i aF (hT _ (aqS aF)) (hC _ (aqS aF)),bQ w1 aF,W_,aq,au,reduceCtorEq];refine⟨λh=>?_,λh=>⟨aF,dZ hJ ?_⟩⟩
  .cases he:uJ l i with
   |none=>grind
   |some e=>rw[cR (NX he) hJ aF];rfl
  .cases he:uJ l i with
   |none=>rfl
   |some e=>grind [Az]
 .rw[bO.2 λj hj=>hJ j (by omega)];rfl
def GW(l:Lw)(hw:WF cz l)(gk:fZ l)(hT:∀x∈l.2.2,GV (gS l x))(hC:∀x∈l.2.2,N0 x):M.iu aK l=aa (vu l):=by
 have bad:∀(f:Nat->Option (Int×Int))(m:Nat)(sec:Int)(k:Nat)(e:Int×Int),(∀i e,f i=aa e->e.1≠0)->cZ (λk=>(f k).map λe=>(k,e)) m=aa (k,e)->(!decide ((oa sec (k:Int) (aa e)).1=0))=af:=λf m sec k e hf he=>by
  obtain⟨j,_,hj,_⟩:=iB he;obtain⟨e',za,h2⟩:=Option.map_eq_some_iff.1 hj;cases h2;have:e.1≠0:=hf _ _ za
  show(!decide (e.1=0))=af
  simp[this]
 unfold M.iu vu;rw[BN l hw,aqN];by_cases h1:8<l.1.length
 .grind
 rw[ai h1,ai h1]
 cases hA:cZ (λk=>(pD l k).map λe=>(k,e)) l.1.length with
 |some p=>
  obtain⟨k,e⟩:=p;dsimp only;rw[aj (bad _ _ _ _ _ (λi e=>uq) hA)]
 |none=>
  dsimp only;rw[ai (by simp[E9]),AD l hw,aqN];by_cases h2:8<l.2.1.length
  .grind
  rw[ai h2,ai h2]
  cases hB:cZ (λk=>(sO l k).map λe=>(k,e)) l.2.1.length with
  |some p=>
   obtain⟨k,e⟩:=p;dsimp only;rw[aj (bad _ _ _ _ _ (λi e=>Ay) hB)]
  |none=>
   grind [E9,AF]
end L
end Go.Proofs.YtfeahmiobbjklaaGreatDoor
