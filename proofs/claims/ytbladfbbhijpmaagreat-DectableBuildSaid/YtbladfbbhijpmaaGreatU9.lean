/- Joined texts: ModelA Plain Wq PD RA RB RC RD RE RF RI. -/
import Derived.Test.YtbladfbbhijpmaaGreatU8
import Derived.Test.YtbladfbbhijpmaaGreatU1
import Derived.Test.YtbladfbbhijpmaaGreatU5
open _root_.Decidable renaming decide->acS
open _root_.Bool renaming false->acR,true->acQ
open _root_.Option renaming none->acP,bind_some->aaU,ne_none_iff_exists'->acI,none_or->abT
open _root_.Int renaming tdiv->ab7,tmod->acu
open _root_.Go.IntKind renaming i64->aaV
open _root_.List renaming length_map->ab0,range->aa2,getElem?_eq_getElem->aaW,getElem_mem->aaZ,getElem_of_mem->abD,length_take->abb,drop_eq_getElem_cons->abv,length_append->aba,length_cons->aa6,length_nil->abS,take_length->abg,foldl_cons->abN,mem_cons->aa7,mem_cons_of_mem->abz,mem_cons_self->abW,pairwise_cons->abr,take_append_getElem->abq
open _root_.Classical renaming propDecidable->abF,not_not->ack
open _root_.Nat renaming lt_succ_iff_lt_or_eq->abd,le_refl->aaX,le_trans->abi
namespace Go.Proofs.YtbladfbbhijpmaaGreat
open Go Go.RowKit
set_option maxRecDepth 100000
set_option linter.unusedSimpArgs false
set_option linter.unusedVariables false
set_option linter.defProp false
section
noncomputable section
set_option maxRecDepth 100000
set_option linter.unusedVariables false
def M.gm(N:Nat)(a0:List Int)(a1:Int):Option (List Int):=
(Loop (S:=Bool×Int×List Int) (X:=Bool×List Int) (λs2=>
(if(acS (s2.2.1<(a0.length:Int)))then
(((if(!s2.1)then
(idx a0 s2.2.1).bind λx5=>
some (acS (a1<=x5))
else
some acR):Option Bool).bind λj4=>
(if j4 then
((idx a0 s2.2.1).bind λx7=>
(if(acS (a1<x7))then
(bK s2.2.2 ([a1]:List Int)).bind λl8=>
some l8
else
some s2.2.2):Option (List Int)).bind λj6=>
some (acQ,j6)
else
some (s2.1,s2.2.2)):Option (Bool×List Int)).bind λj3=>
(idx a0 s2.2.1).bind λx9=>
(bK j3.2 ([x9]:List Int)).bind λBA=>
some (.inl (j3.1,aaV.wrap (s2.2.1+1),BA))
else
some (.inr (s2.1,s2.2.2)))) N (acR,0,([]:List Int)):Option (Bool×List Int)).bind λj1=>
((if(!j1.1)then
(bK j1.2 ([a1]:List Int)).bind λC0=>
some C0
else
some j1.2):Option (List Int)).bind λvJ=>
some vJ
theorem Ue(N:Nat):Fo 178 (.i1 [.l (.slice ae), .l ae]) (.w1 3 ae) (u2 (M.gm N)):=fz N [] (.o (.o (.o (.meet ⟨[(5, .val acR (.own 48)),(6, .l .bool)],[(48, .own 3 ae)],[],49⟩ (.o (.two (.loop ⟨[(5, .val acR (.own 64)),(6, .l .bool),(7, .l ae)],[(64, .own 3 ae)],[],65⟩ (.o (.two (.two (.meet ⟨[(5, .val acR (.own 129)),(6, .l .bool)],[(129, .own 3 ae)],[64],130⟩ (.meet ⟨[(23, .l .bool)],[],[],129⟩ .nil (.two (.meet ⟨[(5, .val acR (.own 129))],[(129, .own 3 ae)],[64],130⟩ .nil .nil) .nil)) .nil) .nil) .nil))) .nil)) (.meet ⟨[(5, .val acR (.own 49))],[(49, .own 3 ae)],[48],50⟩ .nil .nil))))) Tryz.func178
def M.eG(N:Nat)(a0:List aa.den):Option ((List Int)×(List Int)×List Int):=
(Loop (S:=Int×(List Int)×(List Int)×List Int) (X:=(List Int)×(List Int)×List Int) (λs2=>
(if(acS (s2.1<(a0.length:Int)))then
((idx a0 s2.1).bind λx4=>
((if(acS (x4.1=7))then
(idx a0 s2.1).bind λx6=>
(M.gm N s2.2.1 x6.2).bind λy7=>
some y7
else
some s2.2.1):Option (List Int)).bind λj5=>
((if(acS (x4.1=8))then
(idx a0 s2.1).bind λx9=>
(M.gm N s2.2.2.1 x9.2).bind λHE=>
some HE
else
some s2.2.2.1):Option (List Int)).bind λj8=>
((if(acS (36<=x4.1))then
some (acS (x4.1<=39))
else
some acR):Option Bool).bind λvJ=>
(if vJ then
(idx a0 s2.1).bind λAl=>
(M.gm N s2.2.2.2 Al.2).bind λHD=>
some (j5,j8,HD)
else
some (j5,j8,s2.2.2.2)):Option ((List Int)×(List Int)×List Int)).bind λj3=>
some (.inl (aaV.wrap (s2.1+1),j3.1,j3.2.1,j3.2.2))
else
some (.inr (s2.2.1,s2.2.2.1,s2.2.2.2)))) N (0,([]:List Int),([]:List Int),([]:List Int)):Option ((List Int)×(List Int)×List Int)).bind λj1=>
some (j1.1,j1.2.1,j1.2.2)
theorem Uf(N:Nat):Fo 155 (.i1 [.l (.slice aa)]) (.j1 [.val acR (.own 0), .val acR (.own 1), .val acR (.own 2)] [.own 3 ae, .own 3 ae, .own 3 ae] 3) (M.eG N):=fz N [ck (Ue N)] (.o (.o (.meet ⟨[(5, .val acR (.own 96)),(6, .val acR (.own 97)),(7, .val acR (.own 98))],[(96, .own 3 ae),(97, .own 3 ae),(98, .own 3 ae)],[],99⟩ (.o (.two (.loop ⟨[(5, .val acR (.own 112)),(6, .val acR (.own 113)),(7, .val acR (.own 114)),(8, .l ae)],[(112, .own 3 ae),(113, .own 3 ae),(114, .own 3 ae)],[],115⟩ (.o (.two (.meet ⟨[(5, .val acR (.own 179)),(6, .val acR (.own 180)),(7, .val acR (.own 181))],[(179, .own 3 ae),(180, .own 3 ae),(181, .own 3 ae)],[112,113,114],182⟩ (.o (.meet ⟨[(5, .val acR (.own 275))],[(275, .own 3 ae)],[112],276⟩ .nil (.meet ⟨[(6, .val acR (.own 276))],[(276, .own 3 ae)],[113],277⟩ .nil (.mb 44 277)))) .nil) .nil))) .nil)) .nil))) Tryz.func155
def M.iP(N:Nat)(a0:aV.den)(a1:Int):Option (List Int):=
(M.lW N a0 a1).bind λy1=>
(if(!y1)then
some ([]:List Int)
else
Loop (S:=Int×List Int) (X:=List Int) (λs2=>
(if(acS (s2.1<(a0.2.2.2.2.length:Int)))then
(((idx a0.2.2.2.2 s2.1).bind λx5=>
(if(!acS (x5.2.1=a1))then
some s2.2
else
(idx a0.2.2.2.2 s2.1).bind λx6=>
(M.eG N x6.2.2.2.2.2.1).bind λy7=>
(idx a0.2.2.2.2 s2.1).bind λx8=>
(M.eG N x8.2.2.2.2.2.2.1).bind λy9=>
(Loop (S:=Int×List Int) (X:=List Int) (λpt=>
(if(acS (pt.1<(y7.2.1.length:Int)))then
((idx y7.2.1 pt.1).bind λrU=>
(M.lW N a0 rU).bind λsv=>
(if sv then
(idx y7.2.1 pt.1).bind λAm=>
(M.iO N pt.2 Am).bind λPe=>
some Pe
else
some pt.2):Option (List Int)).bind λoG=>
some (.inl (aaV.wrap (pt.1+1),oG))
else
some (.inr pt.2))) N (0,s2.2):Option (List Int)).bind λpq=>
Loop (S:=Int×List Int) (X:=List Int) (λpU=>
(if(acS (pU.1<(y9.2.1.length:Int)))then
((idx y9.2.1 pU.1).bind λJ7=>
(M.lW N a0 J7).bind λFI=>
(if FI then
(idx y9.2.1 pU.1).bind λPz=>
(M.iO N pU.2 Pz).bind λTU=>
some TU
else
some pU.2):Option (List Int)).bind λMC=>
some (.inl (aaV.wrap (pU.1+1),MC))
else
some (.inr pU.2))) N (0,pq)):Option (List Int)).bind λj4=>
some j4:Option (List Int)).bind λj3=>
some (.inl (aaV.wrap (s2.1+1),j3))
else
some (.inr s2.2))) N (0,([]:List Int)))
theorem Ug(N:Nat):Fo 121 (.i1 [.g aV, .l ae]) (.w1 3 ae) (u2 (M.iP N)):=fz N [ck (PC N),ck (Ud N),ck (Uf N)] (.o (.o (.o (.two (.o (.two (.loop ⟨[(5, .val acR (.own 128)),(6, .l ae)],[(128, .own 3 ae)],[],129⟩ (.o (.meet ⟨[(5, .val acR (.own 209))],[(209, .own 3 ae)],[128],210⟩ (.meet ⟨[(5, .val acR (.own 209))],[(209, .own 3 ae)],[128],210⟩ (.o (.o (.o (.meet ⟨[(5, .val acR (.own 785))],[(785, .own 3 ae)],[128],786⟩ (.o (.two (.loop ⟨[(5, .val acR (.own 801)),(13, .l ae)],[(801, .own 3 ae)],[128],802⟩ (.o (.two (.meet ⟨[(5, .val acR (.own 866))],[(866, .own 3 ae)],[801],867⟩ .nil .nil) .nil))) .nil)) (.o (.two (.loop ⟨[(5, .val acR (.own 802)),(14, .l ae)],[(802, .own 3 ae)],[785],803⟩ (.o (.two (.meet ⟨[(5, .val acR (.own 867))],[(867, .own 3 ae)],[802],868⟩ .nil .nil) .nil))) .nil)))))) .nil) .nil))) .nil)) .nil)))) Tryz.func121
def M.gn(N:Nat)(a0:aV.den)(a1:Int):Option (List Int):=
(M.iP N a0 a1).bind λy1=>
Loop (S:=(List Int)×Int) (X:=List Int) (λs2=>
(if(acS (s2.2<(a0.2.2.2.1.length:Int)))then
(Loop (S:=(List Int)×Int) (X:=List Int) (λs4=>
(if(acS (s4.2<(s2.1.length:Int)))then
((idx s2.1 s4.2).bind λx6=>
(M.iP N a0 x6).bind λy7=>
Loop (S:=(List Int)×Int) (X:=List Int) (λs8=>
(if(acS (s8.2<(y7.length:Int)))then
(idx y7 s8.2).bind λx9=>
(M.iO N s8.1 x9).bind λHE=>
some (.inl (HE,aaV.wrap (s8.2+1)))
else
some (.inr s8.1))) N (s4.1,0):Option (List Int)).bind λj5=>
some (.inl (j5,aaV.wrap (s4.2+1)))
else
some (.inr s4.1))) N (s2.1,0):Option (List Int)).bind λj3=>
some (.inl (j3,aaV.wrap (s2.2+1)))
else
some (.inr s2.1))) N (y1,0)
theorem YM(N:Nat):Fo 74 (.i1 [.g aV, .l ae]) (.i1 [.l (.slice ae)]) (u2 (M.gn N)):=fz N [ck (Ug N),ck (PC N)] (.o (.o (.two (.o (.two (.loop ⟨[(5, .l (.slice ae)),(6, .l ae)],[],[64],112⟩ (.o (.meet ⟨[(5, .l (.slice ae))],[],[],192⟩ (.two (.o (.o (.two (.loop ⟨[(5, .l (.slice ae)),(8, .l ae)],[],[],240⟩ (.o (.meet ⟨[(5, .l (.slice ae))],[],[],304⟩ (.two (.o (.o (.two (.loop ⟨[(5, .l (.slice ae)),(10, .l ae)],[],[],432⟩ .nil) .nil))) .nil) .nil))) .nil))) .nil) .nil))) .nil)) .nil))) Tryz.func74
def M.gp(N:Nat)(a0:cC.den)(a1:Int):Option (al.den):=
(idx a0.2.2 a1).bind λx1=>
(M.bg N x1.1).bind λy2=>
(if(!y2)then
some (2,(3,(a1,0)))
else
(M.cH N a0 3 a1 x1.1).bind λy3=>
(if y3 then
some (7,(3,(a1,0)))
else
((if(!acS (x1.2.1=(-1)))then
(if(acS (x1.2.1<0))then
some acQ
else
(if(acS (a1<=x1.2.1))then
some acQ
else
(idx a0.2.2 x1.2.1).bind λx5=>
some (!acS (x5.2.1=(-1)))))
else
some acR):Option Bool).bind λj4=>
(if j4 then
some (6,(3,(a1,0)))
else
(if(acS (12<(x1.2.2.1.length:Int)))then
some (4,(3,(a1,112)))
else
(if(acS (12<(x1.2.2.2.1.length:Int)))then
some (4,(3,(a1,212)))
else
(M.eF N a0 a1).bind λy6=>
(if(!acS (y6.1=0))then
some y6
else
br (J:=Unit) (R:=al.den) (Loop (S:=Int) (X:=Unit⊕(al.den)) (λs8=>
(if(acS (s8<(x1.2.2.2.2.length:Int)))then
(M.ff N a0 a1 s8).bind λy9=>
(if(!acS (y9=0))then
some (.inr (.inr (y9,(3,(a1,aaV.wrap (300+s8))))))
else
some (.inl (aaV.wrap (s8+1))))
else
some (.inr (.inl ())))) N 0) λj7=>
br (J:=Unit) (R:=al.den) (Loop (S:=Int) (X:=Unit⊕(al.den)) (λpt=>
(if(acS (pt<(x1.2.2.2.1.length:Int)))then
br (J:=Unit) (R:=Int⊕(Unit⊕(al.den))) ((M.gn N x1 pt).bind λHD=>
Loop (S:=Int) (X:=Unit⊕(Int⊕(Unit⊕(al.den)))) (λtJ=>
(if(acS (tJ<(HD.length:Int)))then
(idx HD tJ).bind λAm=>
(if(acS (Am=pt))then
some (.inr (.inr (.inr (.inr (9,(3,(a1,aaV.wrap (200+pt))))))))
else
some (.inl (aaV.wrap (tJ+1))))
else
some (.inr (.inl ())))) N 0) λoG=>
some (.inl (aaV.wrap (pt+1)))
else
some (.inr (.inl ())))) N 0) λpq=>
some (0,(0,(0,0)))))))))
theorem YN(N:Nat):Fo 51 (.i1 [.g cC, .l ae]) (.i1 [.g al]) (u2 (M.gp N)):=fz N [ck (Px N),ck (TO N),ck (YK N),ck (YL N),ck (YM N)] (.o (.o (.o (.o (.o (.two (.mb 56 352) (.o (.o (.o (.o (.join ⟨[],[],[],608⟩ (.o (.two (.lp 8 624 .nil) .nil)) (.join ⟨[],[],[],608⟩ (.o (.two (.lp 10 624 (.o (.join ⟨[],[],[],704⟩ (.two (.o (.o (.two (.lp 12 784 .nil) .nil))) .nil) .nil))) .nil)) .nil)))))))))))) Tryz.func51
def M.iQ(N:Nat)(a0:cC.den):Option (al.den):=
(if(acS (8<(a0.1.length:Int)))then
some (4,(1,(8,0)))
else
br (J:=Unit) (R:=al.den) (Loop (S:=Int) (X:=Unit⊕(al.den)) (λs2=>
(if(acS (s2<(a0.1.length:Int)))then
(M.gT N a0 s2).bind λy3=>
(if(!acS (y3.1=0))then
some (.inr (.inr y3))
else
some (.inl (aaV.wrap (s2+1))))
else
some (.inr (.inl ())))) N 0) λj1=>
(if(acS (8<(a0.2.1.length:Int)))then
some (4,(2,(8,0)))
else
br (J:=Unit) (R:=al.den) (Loop (S:=Int) (X:=Unit⊕(al.den)) (λs5=>
(if(acS (s5<(a0.2.1.length:Int)))then
(M.gh N a0 s5).bind λy6=>
(if(!acS (y6.1=0))then
some (.inr (.inr y6))
else
some (.inl (aaV.wrap (s5+1))))
else
some (.inr (.inl ())))) N 0) λj4=>
(if(acS (4<(a0.2.2.length:Int)))then
some (4,(3,(4,0)))
else
br (J:=Unit) (R:=al.den) (Loop (S:=Int) (X:=Unit⊕(al.den)) (λs8=>
(if(acS (s8<(a0.2.2.length:Int)))then
(M.gp N a0 s8).bind λy9=>
(if(!acS (y9.1=0))then
some (.inr (.inr y9))
else
some (.inl (aaV.wrap (s8+1))))
else
some (.inr (.inl ())))) N 0) λj7=>
some (0,(0,(0,0))))))
theorem YO(N:Nat):Fo 28 (.i1 [.g cC]) (.i1 [.g al]) (M.iQ N):=fz N [ck (YH N),ck (YJ N),ck (YN N)] (.o (.o (.join ⟨[],[],[],96⟩ (.o (.two (.lp 3 112 .nil) .nil)) (.o (.join ⟨[],[],[],160⟩ (.o (.two (.lp 5 176 .nil) .nil)) (.o (.join ⟨[],[],[],224⟩ (.o (.two (.lp 7 240 .nil) .nil)) .nil))))))) Tryz.func28
def M.iR(N:Nat)(a0:aa.den)(a1:Int):Option Bool:=
((M.eP N a0).bind λy2=>
(if y2 then
(if(acS (a0.1<=a1))then
some (acS (a1<a0.2))
else
some acR)
else
some acR):Option Bool).bind λj1=>
some j1
theorem Uh(N:Nat):Fo 123 (.i1 [.g aa, .l ae]) (.i1 [.l .bool]) (u2 (M.iR N)):=fz N [ck (Ka N)] (.o (.mb 4 32)) Tryz.func123
def M.jz(N:Nat)(a0:aV.den)(a1:Int)(a2:Int):Option (List Int):=
Loop (S:=Int×List Int) (X:=List Int) (λs1=>
(if(acS (s1.1<(a0.2.2.2.2.length:Int)))then
(((idx a0.2.2.2.2 s1.1).bind λx4=>
(if(acS (x4.2.1=a1))then
(idx a0.2.2.2.2 s1.1).bind λx5=>
(M.iR N x5.2.2.2.2.1 a2).bind λy6=>
some y6
else
some acR):Option Bool).bind λj3=>
(if j3 then
(bK s1.2 ([s1.1]:List Int)).bind λl7=>
some l7
else
some s1.2):Option (List Int)).bind λj2=>
some (.inl (aaV.wrap (s1.1+1),j2))
else
some (.inr s1.2))) N (0,([]:List Int))
theorem YP(N:Nat):Fo 75 (.i1 [.g aV, .l ae, .l ae]) (.w1 3 ae) (u3 (M.jz N)):=fz N [ck (Uh N)] (.o (.o (.two (.o (.two (.loop ⟨[(7, .val acR (.own 64)),(8, .l ae)],[(64, .own 3 ae)],[],65⟩ (.o (.two (.meet ⟨[(7, .val acR (.own 145))],[(145, .own 3 ae)],[64],146⟩ (.mb 33 145) .nil) .nil))) .nil)) .nil))) Tryz.func75
def M.lc(N:Nat)(a0:List Int)(a1:Int):Option Int:=
Loop (S:=Int) (X:=Int) (λs1=>
(if(acS (s1<(a0.length:Int)))then
(idx a0 s1).bind λx2=>
(if(acS (x2=a1))then
some (.inr s1)
else
some (.inl (aaV.wrap (s1+1))))
else
some (.inr (-1)))) N 0
theorem Ui(N:Nat):Fo 124 (.i1 [.l (.slice ae), .l ae]) (.i1 [.l ae]) (u2 (M.lc N)):=fz N [] (.o (.two (.o (.two (.lp 5 32 .nil) .nil)) .nil)) Tryz.func124
def M.kq(N:Nat)(a0:aV.den)(a1:List Int)(a2:Int):Option Int:=
(idx a0.2.2.2.2 a2).bind λx1=>
Loop (S:=Int×Int) (X:=Int) (λs2=>
((if(acS (0<=s2.2))then
some (acS (s2.2<s2.1))
else
some acR):Option Bool).bind λj3=>
(if j3 then
(M.lc N a1 s2.2).bind λy4=>
(if(acS (0<=y4))then
some (.inr y4)
else
(idx a0.2.2.2.2 s2.2).bind λx5=>
some (.inl (s2.2,x5.2.2.1)))
else
some (.inr (-1)))) N (a2,x1.2.2.1)
theorem YQ(N:Nat):Fo 76 (.i1 [.g aV, .l (.slice ae), .l ae]) (.i1 [.l ae]) (u3 (M.kq N)):=fz N [ck (Ui N)] (.o (.o (.two (.two (.loop ⟨[(2, .l ae),(7, .l ae)],[],[],144⟩ (.two (.mb 21 144) .nil)) .nil) .nil))) Tryz.func76
def M.kr(N:Nat)(a0:aV.den)(a1:Int)(a2:Int):Option ((List Int)×(List Int)×List Int):=
(M.jz N a0 a1 a2).bind λy1=>
(Loop (S:=Int×(List Int)×List Int) (X:=(List Int)×List Int) (λs3=>
(if(acS (s3.1<(y1.length:Int)))then
(idx y1 s3.1).bind λx4=>
(M.kq N a0 y1 x4).bind λy5=>
(bK s3.2.1 ([y5]:List Int)).bind λl6=>
(idx y1 s3.1).bind λx7=>
(idx a0.2.2.2.2 x7).bind λx8=>
(bK s3.2.2 ([x8.2.2.2.1]:List Int)).bind λl9=>
some (.inl (aaV.wrap (s3.1+1),l6,l9))
else
some (.inr (s3.2.1,s3.2.2)))) N (0,([]:List Int),([]:List Int)):Option ((List Int)×List Int)).bind λj2=>
some (y1,j2.1,j2.2)
theorem YR(N:Nat):Fo 52 (.i1 [.g aV, .l ae, .l ae]) (.j1 [.val acR (.own 0), .val acR (.own 1), .val acR (.own 2)] [.own 3 ae, .own 3 ae, .own 3 ae] 3) (u3 (M.kr N)):=fz N [ck (YP N),ck (YQ N)] (.o (.o (.o (.meet ⟨[(10, .val acR (.own 176)),(11, .val acR (.own 177))],[(176, .own 3 ae),(177, .own 3 ae)],[],178⟩ (.o (.two (.loop ⟨[(10, .val acR (.own 192)),(11, .val acR (.own 193)),(12, .l ae)],[(192, .own 3 ae),(193, .own 3 ae)],[],194⟩ .nil) .nil)) .nil)))) Tryz.func52
def M.jl(N:Nat)(a0:List aa.den)(a1:List aa.den):Option Bool:=
(if(!acS ((a0.length:Int)=(a1.length:Int)))then
some acR
else
Loop (S:=Int) (X:=Bool) (λs1=>
((if(acS (s1<(a0.length:Int)))then
some (acS (s1<(a1.length:Int)))
else
some acR):Option Bool).bind λj2=>
(if j2 then
(idx a0 s1).bind λx3=>
(idx a1 s1).bind λx4=>
(if(!(lz aa x3 x4))then
some (.inr acR)
else
some (.inl (aaV.wrap (s1+1))))
else
some (.inr acQ))) N 0)
theorem VS(N:Nat):Fo 46 (.i1 [.l (.slice aa), .l (.slice aa)]) (.i1 [.l .bool]) (u2 (M.jl N)):=fz N [] (.o (.o (.two (.o (.two (.lp 5 112 (.two (.mb 20 112) .nil)) .nil)) .nil))) Tryz.func46
def M.kN(N:Nat)(a0:List (List aa.den))(a1:List aa.den):Option Int:=
Loop (S:=Int) (X:=Int) (λs1=>
(if(acS (s1<(a0.length:Int)))then
(idx a0 s1).bind λx2=>
(M.jl N x2 a1).bind λy3=>
(if y3 then
some (.inr s1)
else
some (.inl (aaV.wrap (s1+1))))
else
some (.inr (-1)))) N 0
theorem YS(N:Nat):Fo 53 (.i1 [.l (.slice (.slice aa)), .l (.slice aa)]) (.i1 [.l ae]) (u2 (M.kN N)):=fz N [ck (VS N)] (.o (.two (.o (.two (.lp 5 32 .nil) .nil)) .nil)) Tryz.func53
def M.iS(N:Nat)(a0:List Int)(a1:List Int):Option Int:=
(if(!acS ((a0.length:Int)=(a1.length:Int)))then
some 2
else
(if(acS (8<(a0.length:Int)))then
some 4
else
Loop (S:=Int) (X:=Int) (λs1=>
(if(acS (s1<(a0.length:Int)))then
((idx a0 s1).bind λx3=>
(if(acS (x3<(-1)))then
some acQ
else
(idx a0 s1).bind λx4=>
some (acS (s1<=x4))):Option Bool).bind λj2=>
(if j2 then
some (.inr 9)
else
((idx a1 s1).bind λx6=>
(if(acS (x6<0))then
some acQ
else
(idx a1 s1).bind λx7=>
some (acS (9<x7))):Option Bool).bind λj5=>
(if j5 then
some (.inr 3)
else
some (.inl (aaV.wrap (s1+1)))))
else
some (.inr 0))) N 0))
theorem YT(N:Nat):Fo 77 (.i1 [.l (.slice ae), .l (.slice ae)]) (.i1 [.l ae]) (u2 (M.iS N)):=fz N [] (.o (.o (.o (.two (.o (.two (.lp 5 160 (.o (.two (.two (.two (.mb 32 224) (.mb 44 224)) .nil) .nil))) .nil)) .nil)))) Tryz.func77
def M.kO(N:Nat)(a0:List Int)(a1:Int):Option (List Int):=
Loop (S:=Int×List Int) (X:=List Int) (λs1=>
(if(acS (s1.1<(a0.length:Int)))then
((idx a0 s1.1).bind λx3=>
(if(acS (x3=a1))then
(bK s1.2 ([s1.1]:List Int)).bind λl4=>
some l4
else
some s1.2):Option (List Int)).bind λj2=>
some (.inl (aaV.wrap (s1.1+1),j2))
else
some (.inr s1.2))) N (0,([]:List Int))
theorem Uj(N:Nat):Fo 156 (.i1 [.l (.slice ae), .l ae]) (.w1 3 ae) (u2 (M.kO N)):=fz N [] (.o (.o (.two (.o (.two (.loop ⟨[(5, .val acR (.own 64)),(6, .l ae)],[(64, .own 3 ae)],[16],65⟩ (.o (.two (.meet ⟨[(5, .val acR (.own 129))],[(129, .own 3 ae)],[64],130⟩ .nil .nil) .nil))) .nil)) .nil))) Tryz.func156
mutual
def M.dA(B:Nat):Nat->(List Int)->(List Int)->(List Bool)->Int->Option Int
 |0,_,_,_,_=>acP
 |N+1,a0,a1,a2,a3=>
  (M.ku B N a0 a1 a2 a3).bind λy2=>
  (if(acS ((y2.length:Int)=0))then
  some (-1)
  else
  (if(acS (1<(y2.length:Int)))then
  some (-2)
  else
  (idx y2 0).bind λx5=>
  (M.cI B N a0 a1 a2 x5).bind λy6=>
  some y6))
def M.ku(B:Nat):Nat->(List Int)->(List Int)->(List Bool)->Int->Option (List Int)
 |0,_,_,_,_=>acP
 |N+1,a0,a1,a2,a3=>
  (M.kO B a0 a3).bind λy2=>
  Loop (S:=Int×List Int) (X:=List Int) (λtM=>
  (if(acS (tM.1<(y2.length:Int)))then
  ((idx y2 tM.1).bind λUk=>
  (M.cI B N a0 a1 a2 Uk).bind λUl=>
  (if(acS (Ul=(-1)))then
  some tM.2
  else
  (((if(acS (0<(tM.2.length:Int)))then
  (idx y2 tM.1).bind λUm=>
  (idx a1 Um).bind λUn=>
  (idx tM.2 0).bind λUo=>
  (idx a1 Uo).bind λUp=>
  some (acS (Up<Un))
  else
  some acR):Option Bool).bind λUq=>
  (if Uq then
  some ([]:List Int)
  else
  some tM.2):Option (List Int)).bind λKb=>
  ((if(acS ((Kb.length:Int)=0))then
  some acQ
  else
  (idx y2 tM.1).bind λUr=>
  (idx a1 Ur).bind λUs=>
  (idx Kb 0).bind λUt=>
  (idx a1 Ut).bind λUu=>
  some (acS (Us=Uu))):Option Bool).bind λUv=>
  (if Uv then
  (idx y2 tM.1).bind λUw=>
  (bK Kb ([Uw]:List Int)).bind λUx=>
  some Ux
  else
  some Kb)):Option (List Int)).bind λUy=>
  some (.inl (aaV.wrap (tM.1+1),Uy))
  else
  some (.inr tM.2))) B (0,([]:List Int))
def M.cI(B:Nat):Nat->(List Int)->(List Int)->(List Bool)->Int->Option Int
 |0,_,_,_,_=>acP
 |N+1,a0,a1,a2,a3=>
  (M.dA B N a0 a1 a2 a3).bind λy2=>
  ((if(acS (y2=(-1)))then
  (idx a2 a3).bind λx7=>
  some x7
  else
  some acR):Option Bool).bind λj6=>
  (if j6 then
  some a3
  else
  some y2)
end
def M.iT(N:Nat)(a0:List Int)(a1:List Int)(a2:List Bool)(a3:Int):Option Int:=M.dA N N a0 a1 a2 a3
def YU(N:Nat):ng:=⟨.i1 [.l (.slice ae), .l (.slice ae), .l (.slice .bool), .l ae], .i1 [.l ae],u4 (M.iT N)⟩
def YV(B N:Nat):ng:={inn:=⟨[(0, .l (.slice ae)),(1, .l (.slice ae)),(2, .l (.slice .bool)),(3, .l ae)],[],[],0⟩,out:=⟨[(0, .l ae)],[],[],0⟩,fn:=λ(x:(List Int)×(List Int)×(List Bool)×Int)=>M.dA B N x.1 x.2.1 x.2.2.1 x.2.2.2}
def Uz(B N:Nat):ng:={inn:=⟨[(0, .l (.slice ae)),(1, .l (.slice ae)),(2, .l (.slice .bool)),(3, .l ae)],[],[],0⟩,out:=⟨[(0, .l (.slice ae))],[],[],0⟩,fn:=λ(x:(List Int)×(List Int)×(List Bool)×Int)=>M.ku B N x.1 x.2.1 x.2.2.1 x.2.2.2}
def UA(B N:Nat):ng:={inn:=⟨[(0, .l (.slice ae)),(1, .l (.slice ae)),(2, .l (.slice .bool)),(3, .l ae)],[],[],0⟩,out:=⟨[(0, .l ae)],[],[],0⟩,fn:=λ(x:(List Int)×(List Int)×(List Bool)×Int)=>M.cI B N x.1 x.2.1 x.2.2.1 x.2.2.2}
theorem HH(B:Nat):∀N,fH Tryz.prog 78 (YV B N)/\fH Tryz.prog 125 (Uz B N)/\fH Tryz.prog 126 (UA B N)
 |0=>⟨xf Tryz.func78 (by kernel_rfl) (by kernel_rfl) λ_=>rfl,xf Tryz.func125 (by kernel_rfl) (by kernel_rfl) λ_=>rfl,xf Tryz.func126 (by kernel_rfl) (by kernel_rfl) λ_=>rfl⟩
 |N+1=>⟨fw (en [ck ((HH B N).2.1),ck ((HH B N).2.2)] acR acR) (N:=B) .nil Tryz.func78 (by kernel_rfl) λx=>by kernel_rfl,
  fw (en [ck ((HH B N).2.2),ck (Uj B)] acR acR) (N:=B) (.o (.o (.o (.two (.o (.two (.loop ⟨[(10, .val acR (.own 128)),(11, .l ae)],[(128, .own 3 ae)],[80],129⟩ (.o (.two (.meet ⟨[(10, .val acR (.own 193))],[(193, .own 3 ae)],[128],194⟩ (.o (.meet ⟨[(10, .val acR (.own 337))],[(337, .own 3 ae)],[128],338⟩ (.meet ⟨[(49, .l .bool)],[],[],337⟩ .nil .nil) (.meet ⟨[(69, .l .bool)],[],[],338⟩ .nil .nil))) .nil) .nil))) .nil)) .nil)))) Tryz.func125 (by kernel_rfl) λx=>by kernel_rfl,
  fw (en [ck ((HH B N).1)] acR acR) (N:=B) (.o (.o (.two (.meet ⟨[(22, .l .bool)],[],[],112⟩ .nil .nil) .nil))) Tryz.func126 (by kernel_rfl) λx=>by kernel_rfl⟩
theorem YW(N:Nat):fH Tryz.prog 78 (YU N):=(HH N N).1
def M.gq(N:Nat)(a0:List Int)(a1:List Int)(a2:List Bool):Option Int:=
((M.iS N a0 a1).bind λy2=>
(if(!acS (y2=0))then
some acQ
else
some (!acS ((a2.length:Int)=(a0.length:Int)))):Option Bool).bind λj1=>
(if j1 then
some (-1)
else
(M.iT N a0 a1 a2 (-1)).bind λy3=>
some y3)
theorem YX(N:Nat):Fo 54 (.i1 [.l (.slice ae), .l (.slice ae), .l (.slice .bool)]) (.i1 [.l ae]) (u3 (M.gq N)):=fz N [ck (YT N),ck (YW N)] (.o (.two (.mb 17 16) .nil)) Tryz.func54
def M.fi(N:Nat)(a0:aa.den)(a1:Int):Option Bool:=
some (acS ((au .and .i64 a1 a0.1)=a0.2))
theorem UB(N:Nat):Fo 32 (.i1 [.g aa, .l ae]) (.i1 [.l .bool]) (u2 (M.fi N)):=fz N [] .nil Tryz.func32
def M.lf(N:Nat)(a0:Int):Option Int:=
(if(acS (a0<0))then
some 0
else
(if(acS (8<a0))then
some 8
else
some a0))
theorem YY(N:Nat):Fo 58 (.i1 [.l ae]) (.i1 [.l ae]) (M.lf N):=fz N [] .nil Tryz.func58
def M.mw(N:Nat)(a0:Int):Option Int:=
Loop (S:=Int×Int) (X:=Int) (λs1=>
(if(acS (s1.2<a0))then
some (.inl (aaV.wrap (s1.1*2),aaV.wrap (s1.2+1)))
else
some (.inr s1.1))) N (1,0)
theorem YZ(N:Nat):Fo 57 (.i1 [.l ae]) (.i1 [.l ae]) (M.mw N):=fz N [] (.o (.o (.two (.o (.two (.loop ⟨[(3, .l ae),(4, .l ae)],[],[],48⟩ .nil) .nil)) .nil))) Tryz.func57
def M.jA(N:Nat)(a0:List Int)(a1:Int):Option (List Bool):=
(M.mw N a1).bind λy1=>
(uU y1 acR).bind λl2=>
Loop (S:=Int×List Bool) (X:=List Bool) (λs3=>
(if(acS (s3.1<(a0.length:Int)))then
(((idx a0 s3.1).bind λx6=>
(if(acS (0<=x6))then
(idx a0 s3.1).bind λx7=>
some (acS (x7<(s3.2.length:Int)))
else
some acR):Option Bool).bind λj5=>
(if j5 then
(idx a0 s3.1).bind λx8=>
(idx s3.2 x8).bind λx9=>
some (bF s3.2 x8 acQ)
else
some s3.2):Option (List Bool)).bind λj4=>
some (.inl (aaV.wrap (s3.1+1),j4))
else
some (.inr s3.2))) N (0,l2)
theorem Y0(N:Nat):Fo 79 (.i1 [.l (.slice ae), .l ae]) (.w1 4 .bool) (u2 (M.jA N)):=fz N [ck (YZ N)] (.o (.o (.two (.o (.two (.loop ⟨[(6, .l ae)],[(48, .own 4 .bool)],[],97⟩ (.o (.two (.meet ⟨[],[(48, .own 4 .bool)],[],162⟩ (.mb 29 161) .nil) .nil))) .nil)) .nil))) Tryz.func79
def M.my(N:Nat)(a0:Int):Option Int:=
Loop (S:=Int×Int) (X:=Int) (λs1=>
(if(acS (0<s1.1))then
some (.inl (aaV.wrap (ab7 s1.1 2),aaV.wrap (s1.2+(acu s1.1 2))))
else
some (.inr s1.2))) N (a0,0)
theorem Y1(N:Nat):Fo 80 (.i1 [.l ae]) (.i1 [.l ae]) (M.my N):=fz N [] (.o (.o (.two (.two (.loop ⟨[(0, .l ae),(3, .l ae)],[],[],32⟩ .nil) .nil) .nil))) Tryz.func80
def M.lg(N:Nat)(a0:aa.den)(a1:List Bool)(a2:List Bool):Option Bool:=
Loop (S:=Int) (X:=Bool) (λs1=>
(if(acS (s1<(a1.length:Int)))then
((M.fi N a0 s1).bind λy3=>
(if y3 then
(idx a1 s1).bind λx4=>
(if x4 then
(idx a2 s1).bind λx5=>
some (!x5)
else
some acR)
else
some acR):Option Bool).bind λj2=>
(if j2 then
some (.inr acQ)
else
some (.inl (aaV.wrap (s1+1))))
else
some (.inr acR))) N 0
theorem Y2(N:Nat):Fo 81 (.i1 [.g aa, .l (.slice .bool), .l (.slice .bool)]) (.i1 [.l .bool]) (u3 (M.lg N)):=fz N [ck (UB N)] (.o (.two (.o (.two (.lp 7 48 (.o (.two (.two (.mb 29 112) .nil) .nil))) .nil)) .nil)) Tryz.func81
def M.fg(N:Nat)(a0:aa.den)(a1:List Bool):Option Bool:=
Loop (S:=Int) (X:=Bool) (λs1=>
(if(acS (s1<(a1.length:Int)))then
((M.fi N a0 s1).bind λy3=>
(if y3 then
(idx a1 s1).bind λx4=>
some (!x4)
else
some acR):Option Bool).bind λj2=>
(if j2 then
some (.inr acR)
else
some (.inl (aaV.wrap (s1+1))))
else
some (.inr acQ))) N 0
theorem UC(N:Nat):Fo 127 (.i1 [.g aa, .l (.slice .bool)]) (.i1 [.l .bool]) (u2 (M.fg N)):=fz N [ck (UB N)] (.o (.two (.o (.two (.lp 5 48 (.o (.two (.two (.mb 21 112) .nil) .nil))) .nil)) .nil)) Tryz.func127
def M.lj(N:Nat)(a0:aa.den)(a1:List Bool):Option Bool:=
(M.fg N a0 a1).bind λy1=>
(if(!y1)then
some acR
else
Loop (S:=Int) (X:=Bool) (λs2=>
(if(acS (s2<(a1.length:Int)))then
((if(!acS ((au .and .i64 a0.1 s2)=0))then
(M.fg N (au .andNot .i64 a0.1 s2,au .andNot .i64 a0.2 s2) a1).bind λy4=>
some y4
else
some acR):Option Bool).bind λj3=>
(if j3 then
some (.inr acR)
else
some (.inl (aaV.wrap (s2*2))))
else
some (.inr acQ))) N 1)
theorem Y3(N:Nat):Fo 82 (.i1 [.g aa, .l (.slice .bool)]) (.i1 [.l .bool]) (u2 (M.lj N)):=fz N [ck (UC N)] (.o (.o (.two (.o (.two (.lp 5 112 (.o (.two (.two (.mb 33 176) .nil) .nil))) .nil)) .nil))) Tryz.func82
def M.iU(N:Nat)(a0:List Int)(a1:Int):Option (List aa.den):=
(M.lf N a1).bind λy1=>
(M.jA N a0 y1).bind λy2=>
(uU (y2.length:Int) acR).bind λl3=>
Loop (S:=Int×(List Bool)×List aa.den) (X:=List aa.den) (λs4=>
(if(acS (s4.1<=y1))then
(Loop (S:=Int×(List Bool)×List aa.den) (X:=(List Bool)×List aa.den) (λs6=>
(if(acS (s6.1<(y2.length:Int)))then
(((M.my N s6.1).bind λy9=>
(if(!acS (y9=s4.1))then
some (s6.2.1,s6.2.2)
else
Loop (S:=Int×(List Bool)×List aa.den) (X:=(List Bool)×List aa.den) (λtK=>
(if(acS (tK.1<=s6.1))then
((((if(!acS ((au .and .i64 tK.1 s6.1)=tK.1))then
some acQ
else
(M.lg N (s6.1,tK.1) y2 tK.2.1).bind λsv=>
(if(!sv)then
some acQ
else
(M.lj N (s6.1,tK.1) y2).bind λmT=>
some (!mT))):Option Bool).bind λEZ=>
(if EZ then
some (tK.2.1,tK.2.2)
else
(Loop (S:=Int×List Bool) (X:=List Bool) (λpU=>
(if(acS (pU.1<(y2.length:Int)))then
((idx pU.2 pU.1).bind λJ7=>
(if J7 then
(idx pU.2 pU.1).bind λVC=>
some (bF pU.2 pU.1 acQ)
else
(M.fi N (s6.1,tK.1) pU.1).bind λLj=>
(idx pU.2 pU.1).bind λMq=>
some (bF pU.2 pU.1 Lj)):Option (List Bool)).bind λMC=>
some (.inl (aaV.wrap (pU.1+1),MC))
else
some (.inr pU.2))) N (0,tK.2.1):Option (List Bool)).bind λEY=>
(bK tK.2.2 ([(s6.1,tK.1)]:List aa.den)).bind λUD=>
some (EY,UD)):Option ((List Bool)×List aa.den)).bind λoG=>
some (oG.1,oG.2):Option ((List Bool)×List aa.den)).bind λvJ=>
some (.inl (aaV.wrap (tK.1+1),vJ.1,vJ.2))
else
some (.inr (tK.2.1,tK.2.2)))) N (0,s6.2.1,s6.2.2)):Option ((List Bool)×List aa.den)).bind λj8=>
some (j8.1,j8.2):Option ((List Bool)×List aa.den)).bind λj7=>
some (.inl (aaV.wrap (s6.1+1),j7.1,j7.2))
else
some (.inr (s6.2.1,s6.2.2)))) N (0,s4.2.1,s4.2.2):Option ((List Bool)×List aa.den)).bind λj5=>
some (.inl (aaV.wrap (s4.1+1),j5.1,j5.2))
else
some (.inr s4.2.2))) N (0,l3,([]:List aa.den))
theorem Y4(N:Nat):Fo 55 (.i1 [.l (.slice ae), .l ae]) (.w1 58 aa) (u2 (M.iU N)):=fz N [ck (UB N),ck (YY N),ck (Y0 N),ck (Y1 N),ck (Y2 N),ck (Y3 N)] (.o (.o (.o (.o (.o (.two (.o (.two (.loop ⟨[(7, .val acR (.own 224)),(8, .l ae)],[(160, .own 4 .bool),(224, .own 58 aa)],[],226⟩ (.o (.meet ⟨[(7, .val acR (.own 274))],[(160, .own 4 .bool),(274, .own 58 aa)],[224],276⟩ (.two (.o (.two (.loop ⟨[(7, .val acR (.own 290)),(9, .l ae)],[(160, .own 4 .bool),(290, .own 58 aa)],[224],292⟩ (.o (.meet ⟨[(7, .val acR (.own 356))],[(160, .own 4 .bool),(356, .own 58 aa)],[290],358⟩ (.meet ⟨[(7, .val acR (.own 356))],[(160, .own 4 .bool),(356, .own 58 aa)],[290],358⟩ (.o (.o (.two (.loop ⟨[(7, .val acR (.own 436)),(10, .l ae)],[(160, .own 4 .bool),(436, .own 58 aa)],[290],438⟩ (.o (.meet ⟨[(7, .val acR (.own 486))],[(160, .own 4 .bool),(486, .own 58 aa)],[436],488⟩ (.meet ⟨[(7, .val acR (.own 486))],[(160, .own 4 .bool),(486, .own 58 aa)],[436],488⟩ (.o (.two (.mb 61 566) (.meet ⟨[],[(160, .own 4 .bool)],[],567⟩ (.o (.two (.loop ⟨[(12, .l ae)],[(160, .own 4 .bool)],[],583⟩ (.o (.two (.meet ⟨[],[(160, .own 4 .bool)],[],648⟩ .nil .nil) .nil))) .nil)) .nil))) .nil) .nil))) .nil))) .nil) .nil))) .nil)) .nil) .nil))) .nil)) .nil)))))) Tryz.func55
def M.eH(N:Nat)(a0:cC.den)(a1:Int)(a2:Int)(a3:Int):Option (Int×(List (List aa.den))×(List Int)×List af.den):=
(idx a0.2.2 a1).bind λx1=>
(M.kr N x1 a2 a3).bind λy2=>
(Loop (S:=Int×Int×(List (List aa.den))×List Int) (X:=Int×(List (List aa.den))×List Int) (λs4=>
(if(acS (s4.1<(y2.1.length:Int)))then
((idx y2.1 s4.1).bind λx6=>
(idx x1.2.2.2.2 x6).bind λx7=>
((if(acS (0<(x7.2.2.2.2.2.1.length:Int)))then
(M.kN N s4.2.2.1 x7.2.2.2.2.2.1).bind λy9=>
some (acS (y9<0))
else
some acR):Option Bool).bind λj8=>
(if j8 then
(bK ([]:List aa.den) x7.2.2.2.2.2.1).bind λBA=>
(bK s4.2.2.1 ([BA]:List (List aa.den))).bind λJ9=>
(idx y2.1 s4.1).bind λAl=>
(bK s4.2.2.2 ([Al]:List Int)).bind λPh=>
some (s4.2.1,J9,Ph)
else
some (s4.2.1,s4.2.2.1,s4.2.2.2)):Option (Int×(List (List aa.den))×List Int)).bind λj5=>
some (.inl (aaV.wrap (s4.1+1),j5.1,j5.2.1,j5.2.2))
else
some (.inr (s4.2.1,s4.2.2.1,s4.2.2.2)))) N (0,a2,([]:List (List aa.den)),([]:List Int)):Option (Int×(List (List aa.den))×List Int)).bind λj3=>
(Loop (S:=Int×List Int) (X:=List Int) (λzy=>
(rP .i64 1 (j3.2.1.length:Int)).bind λMj=>
(if(acS (zy.1<Mj))then
((Loop (S:=Int×List Bool) (X:=List Bool) (λNu=>
(if(acS (Nu.1<(y2.1.length:Int)))then
((idx y2.1 Nu.1).bind λPz=>
(idx x1.2.2.2.2 Pz).bind λMq=>
(if(acS ((Mq.2.2.2.2.2.1.length:Int)=0))then
(bK Nu.2 ([acQ]:List Bool)).bind λUD=>
some UD
else
(M.kN N j3.2.1 Mq.2.2.2.2.2.1).bind λY5=>
(DQ .i64 zy.1 Y5).bind λTb=>
(bK Nu.2 ([acS ((au .and .i64 Tb 1)=1)]:List Bool)).bind λY6=>
some Y6):Option (List Bool)).bind λNr=>
some (.inl (aaV.wrap (Nu.1+1),Nr))
else
some (.inr Nu.2))) N (0,([]:List Bool)):Option (List Bool)).bind λMC=>
(M.gq N y2.2.1 y2.2.2 MC).bind λUE=>
((if(acS (0<=UE))then
(idx y2.1 UE).bind λTf=>
some Tf
else
some UE):Option Int).bind λTe=>
(bK zy.2 ([Te]:List Int)).bind λY7=>
some Y7:Option (List Int)).bind λNt=>
some (.inl (aaV.wrap (zy.1+1),Nt))
else
some (.inr zy.2))) N (0,([]:List Int)):Option (List Int)).bind λJa=>
(Loop (S:=Int×Int×(List (List aa.den))×(List Int)×List af.den) (X:=Int×(List (List aa.den))×(List Int)×List af.den) (λAn=>
(if(acS (An.1<(x1.2.2.2.2.length:Int)))then
(((Loop (S:=Int×List Int) (X:=List Int) (λMD=>
(if(acS (MD.1<(Ja.length:Int)))then
((idx Ja MD.1).bind λY8=>
(if(acS (Y8=An.1))then
(bK MD.2 ([MD.1]:List Int)).bind λY9=>
some Y9
else
some MD.2):Option (List Int)).bind λZa=>
some (.inl (aaV.wrap (MD.1+1),Za))
else
some (.inr MD.2))) N (0,([]:List Int)):Option (List Int)).bind λVT=>
(if(acS ((VT.length:Int)=0))then
some (An.2.1,An.2.2.1,An.2.2.2.1,An.2.2.2.2)
else
(M.iU N VT (j3.2.1.length:Int)).bind λVU=>
Loop (S:=Int×Int×(List (List aa.den))×(List Int)×List af.den) (X:=Int×(List (List aa.den))×(List Int)×List af.den) (λHI=>
(if(acS (HI.1<(VU.length:Int)))then
(idx VU HI.1).bind λZb=>
(bK HI.2.2.2.2 ([(Zb,An.1)]:List af.den)).bind λZc=>
some (.inl (aaV.wrap (HI.1+1),HI.2.1,HI.2.2.1,HI.2.2.2.1,Zc))
else
some (.inr (HI.2.1,HI.2.2.1,HI.2.2.2.1,HI.2.2.2.2)))) N (0,An.2.1,An.2.2.1,An.2.2.2.1,An.2.2.2.2)):Option (Int×(List (List aa.den))×(List Int)×List af.den)).bind λQz=>
some (Qz.1,Qz.2.1,Qz.2.2.1,Qz.2.2.2):Option (Int×(List (List aa.den))×(List Int)×List af.den)).bind λQA=>
some (.inl (aaV.wrap (An.1+1),QA.1,QA.2.1,QA.2.2.1,QA.2.2.2))
else
some (.inr (An.2.1,An.2.2.1,An.2.2.2.1,An.2.2.2.2)))) N ((-2),j3.1,j3.2.1,j3.2.2,([]:List af.den)):Option (Int×(List (List aa.den))×(List Int)×List af.den)).bind λNs=>
some (Ns.1,Ns.2.1,Ns.2.2.1,Ns.2.2.2)
theorem Zd(N:Nat):Fo 29 (.i1 [.g cC, .l ae, .l ae, .l ae]) (.j1 [.val acQ (.pair (.leaf ae) (.pair (.own 0) (.pair (.own 1) (.own 2))))] [.own 75 (.slice aa), .own 3 ae, .own 60 af] 3) (u4 (M.eH N)):=fz N [ck (YR N),ck (YS N),ck (YX N),ck (Y4 N)] (.o (.o (.o (.o (.meet ⟨[],[(352, .box 34 (.pair (.leaf ae) (.pair (.own 384) (.pair (.own 385) .nil)))),(384, .own 75 (.slice aa)),(385, .own 3 ae)],[],387⟩ (.o (.two (.loop ⟨[(14, .l ae)],[(352, .box 34 (.pair (.leaf ae) (.pair (.own 400) (.pair (.own 401) .nil)))),(400, .own 75 (.slice aa)),(401, .own 3 ae)],[],403⟩ (.o (.two (.meet ⟨[],[(352, .box 34 (.pair (.leaf ae) (.pair (.own 467) (.pair (.own 468) .nil)))),(467, .own 75 (.slice aa)),(468, .own 3 ae)],[400,401],470⟩ (.o (.mb 67 627)) .nil) .nil))) .nil)) (.o (.o (.meet ⟨[(17, .val acR (.own 483))],[(483, .own 3 ae)],[451],484⟩ (.o (.two (.loop ⟨[(17, .val acR (.own 499)),(18, .l ae)],[(499, .own 3 ae)],[451],500⟩ (.o (.meet ⟨[(17, .val acR (.own 564))],[(564, .own 3 ae)],[499],565⟩ (.two (.o (.meet ⟨[(19, .val acR (.own 596))],[(596, .own 4 .bool)],[564],597⟩ (.o (.two (.loop ⟨[(19, .val acR (.own 612)),(20, .l ae)],[(612, .own 4 .bool)],[564],613⟩ (.o (.two (.meet ⟨[(19, .val acR (.own 677))],[(677, .own 4 .bool)],[612],678⟩ .nil .nil) .nil))) .nil)) (.o (.meet ⟨[(22, .l ae)],[],[],677⟩ .nil .nil)))) .nil) .nil))) .nil)) (.meet ⟨[],[(352, .box 34 (.pair (.leaf ae) (.pair (.own 384) (.pair (.own 385) (.own 484))))),(384, .own 75 (.slice aa)),(385, .own 3 ae),(484, .own 60 af)],[],488⟩ (.o (.two (.loop ⟨[(23, .l ae)],[(352, .box 34 (.pair (.leaf ae) (.pair (.own 384) (.pair (.own 385) (.own 500))))),(384, .own 75 (.slice aa)),(385, .own 3 ae),(500, .own 60 af)],[],504⟩ (.o (.meet ⟨[],[(352, .box 34 (.pair (.leaf ae) (.pair (.own 384) (.pair (.own 385) (.own 584))))),(384, .own 75 (.slice aa)),(385, .own 3 ae),(584, .own 60 af)],[500],588⟩ (.meet ⟨[],[(352, .box 34 (.pair (.leaf ae) (.pair (.own 384) (.pair (.own 385) (.own 584))))),(384, .own 75 (.slice aa)),(385, .own 3 ae),(584, .own 60 af)],[500],588⟩ (.o (.meet ⟨[(24, .val acR (.own 616))],[(616, .own 3 ae)],[584],617⟩ (.o (.two (.loop ⟨[(24, .val acR (.own 632)),(25, .l ae)],[(632, .own 3 ae)],[584],633⟩ (.o (.two (.meet ⟨[(24, .val acR (.own 697))],[(697, .own 3 ae)],[632],698⟩ .nil .nil) .nil))) .nil)) (.o (.o (.o (.two (.loop ⟨[(27, .l ae)],[(352, .box 34 (.pair (.leaf ae) (.pair (.own 384) (.pair (.own 385) (.own 745))))),(384, .own 75 (.slice aa)),(385, .own 3 ae),(745, .own 60 af)],[500],749⟩ .nil) .nil)))))) .nil) .nil))) .nil)) .nil))))))))) Tryz.func29
def M.eQ(N:Nat)(a0:cC.den)(a1:Int)(a2:Int)(a3:Int):Option (Int×Int×(List (List aa.den))×(List Int)×List af.den):=
(M.iQ N a0).bind λy1=>
(if(!acS (y1.1=0))then
some (0,1,([]:List (List aa.den)),([]:List Int),([]:List af.den))
else
((if(acS (a1<0))then
some acQ
else
(if(acS ((a0.2.2.length:Int)<=a1))then
some acQ
else
(if(acS (a2<0))then
some acQ
else
(idx a0.2.2 a1).bind λx3=>
some (acS ((x3.2.2.2.1.length:Int)<=a2))))):Option Bool).bind λj2=>
(if j2 then
some (0,6,([]:List (List aa.den)),([]:List Int),([]:List af.den))
else
((if(acS (a3<0))then
some acQ
else
some (acS (109572<a3))):Option Bool).bind λj4=>
(if j4 then
some (0,3,([]:List (List aa.den)),([]:List Int),([]:List af.den))
else
(M.eH N a0 a1 a2 a3).bind λy5=>
some (y5.1,0,y5.2.1,y5.2.2.1,y5.2.2.2))))
theorem Ze(N:Nat):Fo 10 (.i1 [.g cC, .l ae, .l ae, .l ae]) (.j1 [.val acQ (.pair (.leaf ae) (.pair (.own 0) (.pair (.own 1) (.own 2)))), .l ae] [.own 75 (.slice aa), .own 3 ae, .own 60 af] 3) (u4 (M.eQ N)):=fz N [ck (YO N),ck (Zd N)] (.o (.o (.two (.mb 38 112) (.two (.mb 45 112) .nil)))) Tryz.func10
def M.mz(N:Nat)(a0:List (List aa.den))(a1:List (List aa.den)):Option Bool:=
(if(!acS ((a0.length:Int)=(a1.length:Int)))then
some acR
else
Loop (S:=Int) (X:=Bool) (λs1=>
((if(acS (s1<(a0.length:Int)))then
some (acS (s1<(a1.length:Int)))
else
some acR):Option Bool).bind λj2=>
(if j2 then
(idx a0 s1).bind λx3=>
(idx a1 s1).bind λx4=>
(M.jl N x3 x4).bind λy5=>
(if(!y5)then
some (.inr acR)
else
some (.inl (aaV.wrap (s1+1))))
else
some (.inr acQ))) N 0)
theorem Zf(N:Nat):Fo 30 (.i1 [.l (.slice (.slice aa)), .l (.slice (.slice aa))]) (.i1 [.l .bool]) (u2 (M.mz N)):=fz N [ck (VS N)] (.o (.o (.two (.o (.two (.lp 5 112 (.two (.mb 20 112) .nil)) .nil)) .nil))) Tryz.func30
def M.fy(N:Nat)(a0:List af.den)(a1:List af.den):Option Bool:=
(if(!acS ((a0.length:Int)=(a1.length:Int)))then
some acR
else
Loop (S:=Int) (X:=Bool) (λs1=>
((if(acS (s1<(a0.length:Int)))then
some (acS (s1<(a1.length:Int)))
else
some acR):Option Bool).bind λj2=>
(if j2 then
(idx a0 s1).bind λx3=>
(idx a1 s1).bind λx4=>
(if(!(lz af x3 x4))then
some (.inr acR)
else
some (.inl (aaV.wrap (s1+1))))
else
some (.inr acQ))) N 0)
theorem Zg(N:Nat):Fo 31 (.i1 [.l (.slice af), .l (.slice af)]) (.i1 [.l .bool]) (u2 (M.fy N)):=fz N [] (.o (.o (.two (.o (.two (.lp 5 112 (.two (.mb 20 112) .nil)) .nil)) .nil))) Tryz.func31
def M.eX(N:Nat)(a0:cF.den)(a1:cF.den):Option Bool:=
((if(acS (a0.1=a1.1))then
(M.mz N a0.2.1 a1.2.1).bind λy2=>
(if y2 then
(M.lU N a0.2.2.1 a1.2.2.1).bind λy3=>
(if y3 then
(M.fy N a0.2.2.2 a1.2.2.2).bind λy4=>
some y4
else
some acR)
else
some acR)
else
some acR):Option Bool).bind λj1=>
some j1
theorem Zh(N:Nat):Fo 11 (.i1 [.g cF, .g cF]) (.i1 [.l .bool]) (u2 (M.eX N)):=fz N [ck (VQ N),ck (Zf N),ck (Zg N)] (.o (.mb 4 48)) Tryz.func11
def M.gE(N:Nat)(a0:cC.den)(a1:(Int×aa.den)):Option Bool:=
(M.ju N a0).bind λy1=>
(if(!y1)then
(M.jL N).bind λy2=>
some y2
else
(M.bY N a0 a1.1 a1.2.1 a1.2.2).bind λy3=>
(M.eQ N a0 a1.1 a1.2.1 a1.2.2).bind λy4=>
((M.eX N (y3.1,(y3.2.2.1,(y3.2.2.2.1,y3.2.2.2.2))) (y4.1,(y4.2.2.1,(y4.2.2.2.1,y4.2.2.2.2)))).bind λy6=>
(if y6 then
(if(acS (y3.2.1=y4.2.1))then
(M.jL N).bind λy7=>
some y7
else
some acR)
else
some acR):Option Bool).bind λj5=>
some j5)
theorem W3(N:Nat):Fo 3 (.i1 [.g cC, .g (.pair ae aa)]) (.i1 [.l .bool]) (u2 (M.gE N)):=fz N [ck (W7 N),ck (W8 N),ck (W9 N),ck (Ze N),ck (Zh N)] (.o (.o (.o (.o (.mb 4 544))))) Tryz.func3
end
end
section
theorem dj{n:Int}(h0: -9223372036854775808<=n)(h1:n<=9223372036854775807):aaV.wrap n=n:=by
 simp[IntKind.wrap,IntKind.bits,IntKind.signed];omega
theorem ai{α:Type}{l:List α}{k:Nat}(h:k<l.length):idx l (k:Int)=some l[k]:=by
 unfold idx;rw[acU (by omega)];simp[h]
theorem pV{α:Type}{a:α}{l:List α}:idx (a::l) 0=some a:=rfl
theorem gr{α:Type}{l m:List α}(h:l.length+m.length<=4294967296):bK l m=some (l++m):=acU h
theorem q6{S X:Type}{body:S->Option (S⊕X)}(I:S->Prop)(μ:S->Nat)(Q:X->Prop)
 (step:∀s,I s->(∃s',body s=some (.inl s')/\I s'/\μ s'<μ s)\/∃x,body s=some (.inr x)/\Q x):
 ∀N s,I s->μ s<N->∃x,Loop body N s=some x/\Q x
 |0,_,_,h=>absurd h (by omega)
 |N+1,s,hi,ag=>by
  rcases step s hi with⟨s',hb,jF,hm⟩|⟨x,hb,hq⟩
  .obtain⟨x,hx,hq⟩:=q6 I μ Q step N s' jF (by omega);exact⟨x,by unfold Loop;rw[hb];exact hx,hq⟩
  .exact⟨x,by unfold Loop;rw[hb],hq⟩
theorem BD{S X:Type}{body:S->Option (S⊕X)}(st:Nat->S){x:X}(m:Nat)(hs:∀i,i<m->body (st i)=some (.inl (st (i+1))))(he:body (st m)=some (.inr x)){N:Nat}(hN:m<N):Loop body N (st 0)=some x:=by
 have:∀k i N,i+k=m->k<N->Loop body N (st i)=some x:=by
  intro k
  induction k with
  |zero=>rintro i (_|N) hi hN;.omega
         obtain rfl:i=m:=by omega
         unfold Loop;rw[he]
  |succ k ih=>
   rintro i (_|N) hi hN
   .omega
   .unfold Loop;rw[hs i (by omega)];exact ih (i+1) N (by omega) (by omega)
 exact this m 0 N (by omega) hN
theorem sw{S X:Type}{body:S->Option (S⊕X)}{N:Nat}{s0:S}(st:Nat->S)(m:Nat)(x:X)(h0:s0=st 0)(hs:∀i,i<m->body (st i)=some (.inl (st (i+1))))(he:body (st m)=some (.inr x))(hN:m<N):Loop body N s0=some x:=by
 rw[h0];exact BD st m hs he hN
def aW:Nat:=18446744073709551616
section
variable {α:Type}
theorem jB(n:Nat)(C:Nat->α)(k:Nat)(v:α):((aa2 n).map C).set k v=(aa2 n).map (λj=>if j=k then v else C j):=by
 apply List.ext_getElem (by simp);intro i h1 h2;simp only[List.length_set,ab0,List.length_range]at h1;rw[List.getElem_set];simp only[List.getElem_map,List.getElem_range];by_cases h:k=i
 .subst h;simp
 .rw[acT h,acT (Ne.symm h)]
theorem iV(n:Nat)(p:Nat->Bool):(aa2 (n+1)).filter p=(aa2 n).filter p++(if p n=acQ then[n]else[]):=by
 rw[List.range_succ,List.filter_append]
 cases h:p n<;>simp[h]
end
end
end Go.Proofs.YtbladfbbhijpmaaGreat
section
open _root_.Bool renaming false->acR,true->acQ,false_eq_true->aa4
open _root_.Option renaming none->acP,bind_some->aaU,some->acH
open _root_.Classical renaming not_not->ack
open _root_.Go.IntKind renaming i64->aaV
open _root_.List renaming getElem?_eq_getElem->aaW,replicate->abn,take_append_getElem->abq,take_length->abg
open _root_.Nat renaming lt_succ_iff_lt_or_eq->abd
namespace Go.Proofs.YtbladfbbhijpmaaGreat
open Go Go.RowKit
def Wp{α:Type}(m:Option α)(Q:α->Prop):Prop:=∃x,m=some x/\Q x
theorem Wp.some{α:Type}{x:α}{Q:α->Prop}(h:Q x):Wp (some x) Q:=⟨x,rfl,h⟩
theorem Wp.of{α:Type}{m:Option α}{x:α}{Q:α->Prop}(e:m=acH x)(h:Q x):Wp m Q:=⟨x,e,h⟩
theorem Wp.eq{α:Type}{m:Option α}{x:α}(h:Wp m (· =x)):m=acH x:=by obtain⟨y,e,rfl⟩:=h;exact e
theorem Wp.mono{α:Type}{m:Option α}{Q Q':α->Prop}(h:Wp m Q)(hq:∀x,Q x->Q' x):Wp m Q':=by obtain⟨x,e,h⟩:=h;exact⟨x,e,hq x h⟩
theorem Wp.bind{α β:Type}{m:Option α}{k:α->Option β}{Q:β->Prop}(h:Wp m λx=>Wp (k x) Q):Wp (m.bind k) Q:=by
 obtain⟨x,e,h⟩:=h;rw[e];exact h
theorem Wp.bx{α β:Type}{m:Option α}{k:α->Option β}{Q:β->Prop}{x:α}(e:m=acH x)(h:Wp (k x) Q):Wp (m.bind k) Q:=by
 rw[e];exact h
theorem Wp.seq{α β:Type}{m:Option α}{k:α->Option β}{Q:β->Prop}(A:α->Prop)(h:Wp m A)(hk:∀x,A x->Wp (k x) Q):Wp (m.bind k) Q:= .bind (h.mono hk)
theorem Wp.map{α β:Type}{m:Option α}{f:α->β}{Q:β->Prop}(h:Wp m λx=>Q (f x)):Wp (m.map f) Q:=by
 obtain⟨x,e,h⟩:=h;rw[e];exact⟨_,rfl,h⟩
theorem Wp.ite{α:Type}{c:Prop}[Decidable c]{a b:Option α}{Q:α->Prop}(ha:c->Wp a Q)(hb:¬c->Wp b Q):Wp (if c then a else b) Q:=by
 split
 .exact ha ‹_›
 .exact hb ‹_›
theorem Wp.dec{α:Type}{c:Prop}[Decidable c]{a b:Option α}{Q:α->Prop}(ha:c->Wp a Q)(hb:¬c->Wp b Q):Wp (if decide c=acQ then a else b) Q:=by
 by_cases h:c
 .rw[acU (acW h)];exact ha h
 .rw[acT (by simpa using h)];exact hb h
theorem Wp.mA{α:Type}{c:Prop}[Decidable c]{a b:Option α}{Q:α->Prop}(ha:¬c->Wp a Q)(hb:c->Wp b Q):Wp (if(!decide c)=acQ then a else b) Q:=by
 by_cases h:c
 .rw[acT (by simp[h])];exact hb h
 .rw[acU (by simp[h])];exact ha h
def zA{J R:Type}(k:J->Option R)(Q:R->Prop):J⊕R->Prop
 | .inl j=>Wp (k j) Q
 | .inr r=>Q r
theorem Wp.join{J R:Type}{m:Option (J⊕R)}{k:J->Option R}{Q:R->Prop}(h:Wp m (zA k Q)):Wp (br m k) Q:=by
 obtain⟨x,e,h⟩:=h;unfold br;rw[e]
 cases x with
 |inl j=>exact h
 |inr r=>exact⟨r,rfl,h⟩
def HJ{S X:Type}(I:S->Prop)(μ:S->Nat)(s:S)(Q:X->Prop):S⊕X->Prop
 | .inl s'=>I s'/\μ s'<μ s
 | .inr x=>Q x
theorem Wp.loop{S X:Type}{body:S->Option (S⊕X)}{N:Nat}{s0:S}{Q:X->Prop}(I:S->Prop)(μ:S->Nat)(h0:I s0)(hN:μ s0<N)(step:∀s,I s->Wp (body s) (HJ I μ s Q)):Wp (Loop body N s0) Q:=
 q6 I μ Q (λs hs=>by
  obtain⟨x,e,h⟩:=step s hs
  cases x with
  |inl s'=>exact .inl ⟨s',e,h⟩
  |inr x=>exact .inr ⟨x,e,h⟩) N s0 h0 hN
theorem Wp.idx{α:Type}{l:List α}{i:Int}{Q:α->Prop}(k:Nat)(hi:i=k)(hk:k<l.length)(h:Q l[k]):Wp (idx l i) Q:=by
 subst hi;exact⟨_,ai hk,h⟩
theorem Wp.rD{α:Type}{l m:List α}{Q:List α->Prop}(hl:l.length+m.length<=4294967296)(h:Q (l++m)):Wp (bK l m) Q:=⟨_,gr hl,h⟩
theorem pW{α:Type}{l:List α}{i j:Int}(a b:Nat)(hi:i=a)(hj:j=b)(h:a<=b)(hb:b<=l.length):dX l i j=acH ((l.take b).drop a):=by
 subst hi;subst hj;unfold dX;rw[acU (by omega)];simp
theorem Wp.cut{α:Type}{l:List α}{i j:Int}{Q:List α->Prop}(a b:Nat)(hi:i=a)(hj:j=b)(h:a<=b)(hb:b<=l.length)(hq:Q ((l.take b).drop a)):Wp (dX l i j) Q:=⟨_,pW a b hi hj h hb,hq⟩
theorem oj{α:Type}{l:List α}{b:Nat}(hb:b<=l.length):dX l 0 (b:Int)=acH (l.take b):=by
 have:=pW (l:=l) 0 b rfl rfl (Nat.zero_le _) hb;simpa using this
theorem aQ{k:Nat}(h:k<9223372036854775807):aaV.wrap ((k:Int)+1)=((k+1:Nat):Int):=by rw[dj]<;>omega
theorem HK{k:Nat}(h:k<=9223372036854775807):aaV.wrap (k:Int)=(k:Int):=by rw[dj]<;>omega
end Go.Proofs.YtbladfbbhijpmaaGreat
namespace Go.Proofs.YtbladfbbhijpmaaGreat
open Go Go.RowKit
section
variable {α β:Type}
theorem gV{x:α}{Q:α->Prop}:Wp (some x) Q↔Q x:=⟨λ⟨y,e,h⟩=>by cases e;exact h,λh=>⟨x,rfl,h⟩⟩
theorem pX{Q:α->Prop}:Wp (acP:Option α) Q↔False:=⟨λ⟨y,e,h⟩=>(by cases e),False.elim⟩
theorem wp_bind{m:Option α}{k:α->Option β}{Q:β->Prop}:Wp (m.bind k) Q↔Wp m λx=>Wp (k x) Q:=by
 cases m with
 |none=>simp only[Option.bind_none,pX]
 |some x=>simp only[aaU,gV]
theorem HL{c:Prop}[Decidable c]{a b:Option α}{Q:α->Prop}:Wp (if c then a else b) Q↔(c->Wp a Q)/\(¬c->Wp b Q):=by
 split<;>simp[*]
theorem HM{c:Prop}[Decidable c]{a b:Option α}{Q:α->Prop}:Wp (if decide c=acQ then a else b) Q↔(c->Wp a Q)/\(¬c->Wp b Q):=by
 by_cases h:c<;>simp[*]
theorem C1{c:Prop}[Decidable c]{a b:Option α}{Q:α->Prop}:Wp (if(!decide c)=acQ then a else b) Q↔(¬c->Wp a Q)/\(c->Wp b Q):=by
 by_cases h:c<;>simp[*]
theorem HN{c:Bool}{a b:Option α}{Q:α->Prop}:Wp (if(!c)=acQ then a else b) Q↔(c=acR->Wp a Q)/\(c=acQ->Wp b Q):=by
 cases c<;>simp
theorem wp_map{m:Option α}{f:α->β}{Q:β->Prop}:Wp (m.map f) Q↔Wp m λx=>Q (f x):=by
 cases m with
 |none=>simp only[Option.map_none,pX]
 |some x=>simp only[Option.map_some,gV]
theorem sx{J R:Type}{m:Option (J⊕R)}{k:J->Option R}{Q:R->Prop}:Wp (br m k) Q↔Wp m (zA k Q):=by
 cases m with
 |none=>exact⟨λ⟨_,e,_⟩=>(by cases e),λ⟨_,e,_⟩=>(by cases e)⟩
 |some s=>cases s with
  |inl j=>rw[gV];exact Iff.rfl
  |inr r=>exact(gV (x:=r)).trans (gV (x:=Sum.inr r) (Q:=zA k Q)).symm
theorem vK{J R:Type}{k:J->Option R}{Q:R->Prop}{j:J}:zA k Q (.inl j)=Wp (k j) Q:=rfl
theorem vL{J R:Type}{k:J->Option R}{Q:R->Prop}{r:R}:zA k Q (.inr r)=Q r:=rfl
theorem cT{l:List α}{i:Int}{Q:α->Prop}:Wp (idx l i) Q↔∃h:0<=i/\i<(l.length:Int),Q (l[i.toNat]'(by omega)):=by
 by_cases h:0<=i/\i<(l.length:Int)
 .unfold idx;rw[acU h.1,aaW (by omega),gV];exact⟨λg=>⟨h,g⟩,λg=>g.2⟩
 .refine⟨λ⟨y,e,_⟩=>?_,λg=>absurd g.1 h⟩;obtain⟨k,rfl,hk,_⟩:=ei e;omega
theorem lk{s:ByteArray}{i:Int}{Q:Int->Prop}:Wp (iZ s i) Q↔∃h:0<=i/\i<(s.size:Int),Q ((s[i.toNat]'(by omega)).toNat:Int):=by
 unfold iZ;rw[wp_map];by_cases h:0<=i/\i<(s.size:Int)
 .rw[acU h.1,getElem?_pos s i.toNat (by omega),gV];exact⟨λg=>⟨h,g⟩,λg=>g.2⟩
 .refine⟨λ⟨y,e,_⟩=>?_,λg=>absurd g.1 h⟩;split at e
  .rw[getElem?_neg s i.toNat (by omega)]at e;cases e
  .cases e
theorem gF{l m:List α}{Q:List α->Prop}:Wp (bK l m) Q↔l.length+m.length<=4294967296/\Q (l++m):=by
 unfold bK;split
 .rw[gV];simp[*]
 .rw[pX];simp[*]
theorem wp_cut{l:List α}{i j:Int}{Q:List α->Prop}:Wp (dX l i j) Q↔(0<=i/\i<=j/\j<=l.length)/\Q ((l.take j.toNat).drop i.toNat):=by
 unfold dX;split
 .rw[gV];simp[*]
 .rw[pX];simp[*]
theorem mB{m:Int}{z:α}{Q:List α->Prop}:Wp (uU m z) Q↔(0<=m/\m<=4294967296)/\Q (abn m.toNat z):=by
 unfold uU;split
 .rw[gV];simp[*]
 .rw[pX];simp[*]
theorem HO{m:Option α}{x:α}:Wp m (· =x)↔m=some x:=⟨λ⟨_,e,h⟩=>h▸e,λe=>⟨x,e,rfl⟩⟩
theorem Wp.and{m:Option α}{P Q:α->Prop}(h:Wp m P)(g:Wp m Q):Wp m λx=>P x/\Q x:=by
 obtain⟨x,e,h⟩:=h;obtain⟨y,e',g⟩:=g;rw[e]at e';cases e';exact⟨x,e,h,g⟩
theorem Wp.getD{m:Option α}{Q:α->Prop}(h:Wp m Q)(d:α):m=acH (m.getD d)/\Q (m.getD d):=by
 obtain⟨x,e,h⟩:=h;rw[e];exact⟨rfl,h⟩
end
def BE{S X:Type}(o5:S->Int)(m k:Nat)(J:Nat->S->Prop)(Q:X->Prop):S⊕X->Prop
 | .inl s=>k<m/\o5 s=((k+1:Nat):Int)/\J (k+1) s
 | .inr x=>Q x
theorem av{S X:Type}{o5:S->Int}{m k:Nat}{J:Nat->S->Prop}{Q:X->Prop}{s:S}:BE o5 m k J Q (.inl s)=(k<m/\o5 s=((k+1:Nat):Int)/\J (k+1) s):=rfl
theorem ao{S X:Type}{o5:S->Int}{m k:Nat}{J:Nat->S->Prop}{Q:X->Prop}{x:X}:BE o5 m k J Q (.inr x)=Q x:=rfl
theorem Wp.count{S X:Type}{body:S->Option (S⊕X)}{s0:S}{Q:X->Prop}(o5:S->Int)(m:Nat)(J:Nat->S->Prop)(hm:m<=9223372036854775807)(h0:o5 s0=0)(hJ:J 0 s0)
 (step:∀k s,k<=m->o5 s=(k:Int)->J k s->Wp (body s) (BE o5 m k J Q)):Wp (Loop body aW s0) Q:=by
 refine Wp.loop (λs=>∃k:Nat,o5 s=k/\k<=m/\J k s) (λs=>m-(o5 s).toNat) ⟨0,h0,Nat.zero_le _,hJ⟩ (by unfold aW;omega) λs hs=>?_
 obtain⟨k,hi,hk,hj⟩:=hs
 refine(step k s hk hi hj).mono λr hr=>?_
 cases r with
 |inl s'=>
  obtain⟨h1,h2,h3⟩:=hr;exact⟨⟨k+1,h2,h1,h3⟩,by show m-(o5 s').toNat<m-(o5 s).toNat;rw[h2,hi];omega⟩
 |inr x=>exact hr
theorem bz{k:Nat}{m:Nat}(hm:m<=9223372036854775807)(h:k<m):aaV.wrap ((k:Int)+1)=((k+1:Nat):Int):=aQ (by omega)
theorem fA{k m:Nat}(h:k<m):decide ((k:Int)<(m:Int))=acQ:=acW (by omega)
theorem nw{k m:Nat}(h:k<m):((k:Int)<(m:Int))=True:=eq_true (by omega)
theorem cU{m:Nat}:((m:Int)<(m:Int))=False:=eq_false (by omega)
def bI{α:Type}(f:Nat->Option α):Nat->Option α
 |0=>acP
 |m+1=>(bI f m).or (f m)
theorem aP{α:Type}{f:Nat->Option α}:∀{m:Nat},bI f m=acP↔∀k,k<m->f k=acP
 |0=>by simp[bI]
 |m+1=>by
  rw[bI,Option.or_eq_none_iff,aP];exact⟨λh k hk=>by rcases abd.1 hk with h1|rfl<;>first|exact h.1 k h1|exact h.2,λh=>⟨λk hk=>h k (by omega),h m (by omega)⟩⟩
theorem dU{α:Type}{f:Nat->Option α}{x:α}:∀{m:Nat},bI f m=some x->∃k,k<m/\f k=some x/\∀j,j<k->f j=acP
 |0,h=>by cases h
 |m+1,h=>by
  rw[bI]at h
  cases e:bI f m with
  |none=>rw[e]at h;exact⟨m,by omega,h,aP.1 e⟩
  |some y=>
   rw[e]at h;cases h;obtain⟨k,hk,h1,h2⟩:=dU e;exact⟨k,by omega,h1,h2⟩
theorem bE{α:Type}{f:Nat->Option α}{x:α}{k:Nat}(hx:f k=some x)(hn:∀j,j<k->f j=acP):∀{m:Nat},k<m->bI f m=some x
 |0,h=>by omega
 |m+1,h=>by
  rw[bI]
  rcases abd.1 h with h1|rfl
  .rw[bE hx hn h1];rfl
  .rw[aP.2 hn];exact hx
theorem Wp.first{S X Y:Type}{body:S->Option (S⊕X)}{s0:S}{Q:X->Prop}(o5:S->Int)(m:Nat)(f:Nat->Option Y)(hm:m<=9223372036854775807)(h0:o5 s0=0)
 (h1:∀k s,k<m->o5 s=(k:Int)->(∀j,j<k->f j=acP)->Wp (body s) λr=>(f k=acP/\∃s',r= .inl s'/\o5 s'=((k+1:Nat):Int))\/∃x y,r= .inr x/\f k=acH y/\(bI f m=acH y->Q x))
 (he:∀s,o5 s=(m:Int)->(bI f m=acP)->Wp (body s) λr=>∃x,r= .inr x/\Q x):Wp (Loop body aW s0) Q:=by
 refine Wp.count o5 m (λk _=>∀j,j<k->f j=acP) hm h0 (λj h=>by omega) λk s hk hs hJ=>?_
 rcases Nat.lt_or_ge k m with ag|hge
 .refine(h1 k s ag hs hJ).mono λr hr=>?_
  rcases hr with⟨hn,s',rfl,h2⟩|⟨x,y,rfl,h2,h3⟩
  .exact⟨ag,h2,λj hj=>by rcases abd.1 hj with h|rfl<;>first|exact hJ j h|exact hn⟩
  .exact h3 (bE h2 hJ ag)
 .obtain rfl:k=m:=by omega
  exact(he s hs (aP.2 hJ)).mono λr hr=>by obtain⟨x,rfl,h⟩:=hr;exact h
def Lk{S X C:Type}(o5:S->Int)(acc:S->C)(k:Nat)(c:C)(I:Nat->C->Prop):S⊕X->Prop
 | .inl s=>o5 s=((k+1:Nat):Int)/\acc s=c/\I (k+1) c
 | .inr _=>False
def Ll{S X:Type}(Q:X->Prop):S⊕X->Prop
 | .inl _=>False
 | .inr x=>Q x
theorem jm{S X C:Type}{o5:S->Int}{acc:S->C}{k:Nat}{c:C}{I:Nat->C->Prop}{s:S}:Lk (X:=X) o5 acc k c I (.inl s)=(o5 s=((k+1:Nat):Int)/\acc s=c/\I (k+1) c):=rfl
theorem jn{S X:Type}{Q:X->Prop}{x:X}:Ll (S:=S) Q (.inr x)=Q x:=rfl
theorem Wp.fold{S X C α:Type}{body:S->Option (S⊕X)}{s0:S}{Q:X->Prop}(o5:S->Int)(acc:S->C)(l:List α)(F:C->α->C)(c0:C)(I:Nat->C->Prop)(hm:l.length<=9223372036854775807)(h0:o5 s0=0)(hc:acc s0=c0)(hI:I 0 c0)
 (step:∀k s(h:k<l.length),o5 s=(k:Int)->I k (acc s)->Wp (body s) (Lk o5 acc k (F (acc s) l[k]) I))
 (fin:∀s,o5 s=(l.length:Int)->acc s=l.foldl F c0->I l.length (acc s)->Wp (body s) (Ll Q)):Wp (Loop body aW s0) Q:=by
 refine Wp.count o5 l.length (λk s=>acc s=(l.take k).foldl F c0/\I k (acc s)) hm h0 ⟨by rw[hc];rfl,hc▸hI⟩ λk s hk hs hJ=>?_
 rcases Nat.lt_or_ge k l.length with ag|hge
 .refine(step k s ag hs hJ.2).mono λr hr=>?_
  cases r with
  |inl s'=>
   obtain⟨h1,h2,h3⟩:=hr;refine⟨ag,h1,?_,h2▸h3⟩;rw[h2,hJ.1,<-abq ag,List.foldl_append];rfl
  |inr x=>exact hr.elim
 .obtain rfl:k=l.length:=by omega
  rw[abg]at hJ
  refine(fin s hs hJ.1 hJ.2).mono λr hr=>?_
  cases r with
  |inl s'=>exact hr.elim
  |inr x=>exact hr
theorem W_:type_of% @ack/\type_of% @gV/\type_of% @wp_bind/\type_of% @HM/\type_of% @C1/\type_of% @HN/\type_of% @HL/\type_of% @sx/\type_of% @vK/\type_of% @vL/\type_of% @if_true.{1}/\type_of% @if_false.{1}/\type_of% @ite_true.{1}/\type_of% @ite_false.{1}/\type_of% @aa4/\type_of% @Bool.true_eq_false/\type_of% @decide_true/\type_of% @decide_false/\type_of% @decide_eq_decide/\type_of% @true_eq_decide_iff/\type_of% @false_eq_decide_iff/\type_of% @ac1/\type_of% @decide_eq_false_iff_not/\type_of% @true_implies/\type_of% @false_implies/\type_of% @and_true/\type_of% @true_and/\type_of% @and_false/\type_of% @false_and/\type_of% @or_true/\type_of% @true_or/\type_of% @or_false/\type_of% @false_or/\type_of% @not_true_eq_false/\type_of% @not_false_eq_true/\type_of% @Bool.not_true/\type_of% @Bool.not_false/\type_of% @Bool.not_eq_true/\type_of% @Bool.not_eq_false/\type_of% @Bool.not_eq_eq_eq_not:=
 ⟨@ack,@gV,@wp_bind,@HM,@C1,@HN,@HL,@sx,@vK,@vL,@if_true.{1},@if_false.{1},@ite_true.{1},@ite_false.{1},@aa4,@Bool.true_eq_false,@decide_true,@decide_false,@decide_eq_decide,@true_eq_decide_iff,@false_eq_decide_iff,@ac1,@decide_eq_false_iff_not,@true_implies,@false_implies,@and_true,@true_and,@and_false,@false_and,@or_true,@true_or,@or_false,@false_or,@not_true_eq_false,@not_false_eq_true,@Bool.not_true,@Bool.not_false,@Bool.not_eq_true,@Bool.not_eq_false,@Bool.not_eq_eq_eq_not⟩
end Go.Proofs.YtbladfbbhijpmaaGreat
end
namespace Go.Proofs.YtbladfbbhijpmaaGreat
open Go Go.RowKit
set_option maxRecDepth 100000
set_option linter.unusedSimpArgs false
set_option linter.unusedVariables false
set_option linter.defProp false
namespace L
abbrev Ty:Type:=aa.den
abbrev gK(l:List Nat):List Int:=l.map (λn:Nat=>(n:Int))
def ar(op:Int):Int:=
 if(1<=op/\op<=9)\/(35<=op/\op<=39)then 0 else if op=10\/op=25\/(31<=op/\op<=34)then 1 else if(11<=op/\op<=24)\/(27<=op/\op<=30)then 2 else if op=26 then 3 else-1
theorem vM(op:Int):ar op<=3:=by unfold ar;omega
def Kc(a:Int)(i:Nat)(sk:List Nat):Nat:=if a=0 then i else sk.getD (sk.length-a.toNat) 0
def jY:List Ty->Nat->List Nat->List Nat->(Nat×Int)⊕(List Nat×List Nat)
 |[],_,st,sk=> .inr (st,sk)
 |n::e,i,st,sk=>
  if ar n.1<0 then .inl (i,2)else if(sk.length:Int)<ar n.1 then .inl (i,5)else
  if 12<sk.length-(ar n.1).toNat+1 then .inl (i,16)else jY e (i+1) (st++[Kc (ar n.1) i sk]) (sk.take (sk.length-(ar n.1).toNat)++[Kc (ar n.1) i sk])
def q7(e:List Ty):Int×Int×List Int:=
 if 48<e.length then(0,4,[])else if e.length=0 then(0,5,[])else match jY e 0 [] []with
  | .inl (i,c)=>(i,c,[])
  | .inr (st,sk)=>if 1<sk.length then(e.length,4,[])else(0,0,gK st)
def kP(t:Ty)(n:Nat):Prop:=(1<=(t.1:Int)/\(t.1:Int)<=5/\(t.2:Int)=0)\/((t.1:Int)=6/\0<=(t.2:Int)/\(t.2:Int)<n)
instance(t:Ty)(n:Nat):Decidable (kP t n):=by unfold kP;infer_instance
def VR(r:Ty):Prop:=0<=(r.1:Int)/\(r.1:Int)<=r.2/\(r.2:Int)<=109573
instance(r:Ty):Decidable (VR r):=by unfold VR;infer_instance
theorem E1(a b:Ty):lz aa a b=decide (a=b):=by
 unfold lz;exact decide_eq_decide.2 Iff.rfl
end L
section
namespace L
abbrev En:Type:=bR.den
abbrev HP:Type:=bL.den
abbrev Rw:Type:=fJ.den
abbrev Fd:Type:=be.den
abbrev Lw:Type:=cC.den
abbrev jZ:Type:=aV.den
abbrev iv:Type:=cL.den
theorem tN(c:Int):M.jM aW c=some (decide (97<=c/\c<=122)):=by
 apply Wp.eq;unfold M.jM;simp only[W_,acY,acZ,reduceCtorEq];omega
theorem HQ(c:Int):M.la aW c=some (decide (48<=c/\c<=57)):=by
 apply Wp.eq;unfold M.la;simp only[W_,acY,acZ,reduceCtorEq];omega
theorem C2(c:Int):M.mv aW c=some (decide ((97<=c/\c<=122)\/(48<=c/\c<=57)\/c=95)):=by
 apply Wp.eq;unfold M.mv;simp only[tN,HQ,W_,acY,acZ,reduceCtorEq];omega
theorem zB:∃l,M.eD aW=some l/\l.length<=100:=⟨(M.eD aW).getD [],by kernel_rfl,by decide+kernel⟩
noncomputable def fQ(s:ByteArray):Bool:=(M.bg aW s).getD acR
theorem pY(s:ByteArray):M.bg aW s=some (fQ s):=by
 obtain⟨l,el,hl⟩:=zB;refine(Wp.getD (Q:=λ_=>True) ?_ acR).1;unfold M.bg;simp only[tN,C2,el,W_,acY,acZ,reduceCtorEq];intro h0 QB;refine lk.2 ⟨by omega,λ_=>?_⟩
 refine Wp.count (λs=>s) s.size (λ_ _=>True) (by omega) rfl trivial λk c hk hs _=>?_
 obtain rfl:c=_:=hs;simp only[W_,acY,acZ,reduceCtorEq,av,ao];refine⟨λag=>lk.2 ⟨by omega,λ_=>⟨by omega,aQ (by omega)⟩⟩,λhge=>?_⟩
 refine Wp.count (λs=>s) l.length (λ_ _=>True) (by omega) rfl trivial λk c hk hs _=>?_
 obtain rfl:c=_:=hs;simp only[W_,acY,acZ,reduceCtorEq,av,ao]
 exact λag=>cT.2 ⟨by omega,λ_=>⟨by omega,aQ (by omega)⟩⟩
def cJ{β:Type}(l:List (ByteArray×β))(nm:ByteArray):Prop:=∃x∈l,x.1=nm
noncomputable instance{β:Type}(l:List (ByteArray×β))(nm:ByteArray):Decidable (cJ l nm):=abF _
noncomputable instance(m:ByteArray)(l:List ByteArray):Decidable (m∈l):=abF _
theorem sy{β:Type}{l:List (ByteArray×β)}{nm:ByteArray}:cJ l nm↔∃k,∃h:k<l.length,l[k].1=nm:=by
 unfold cJ;constructor
 .rintro⟨x,hx,h⟩
  obtain⟨k,hk,rfl⟩:=abD hx;exact⟨k,hk,h⟩
 .rintro⟨k,hk,h⟩
  exact⟨_,aaZ hk,h⟩
theorem jo{β:Type}{l:List (ByteArray×β)}{nm:ByteArray}{m:Nat}:cJ (l.take m) nm↔∃k,∃h:k<l.length,k<m/\l[k].1=nm:=by
 rw[sy];constructor
 .rintro⟨k,hk,h⟩
  rw[abb]at hk;rw[List.getElem_take]at h;exact⟨k,by omega,by omega,h⟩
 .rintro⟨k,hk,hm,h⟩
  exact⟨k,by rw[abb];omega,by rw[List.getElem_take];exact h⟩
theorem aH{p:Nat->Prop}{k:Nat}(h:∀j,j<k->p j)(hk:p k):∀j,j<k+1->p j:=λj hj=>by
 rcases abd.1 hj with h1|rfl
 .exact h j h1
 .exact hk
open Classical in
theorem mC(a:Lw)(sec:Int)(m:Nat)(nm:ByteArray)(hw:a.1.length<=maxLen/\a.2.1.length<=maxLen/\a.2.2.length<=maxLen):
 M.cH aW a sec (m:Int) nm=some (decide ((∃k,∃h:k<a.1.length,(1<sec\/k<m)/\(a.1[k].1:ByteArray)=nm)\/(∃k,∃h:k<a.2.1.length,(2<sec\/sec=2/\k<m)/\(a.2.1[k].1:ByteArray)=nm)\/∃k,∃h:k<a.2.2.length,(sec=3/\k<m)/\(a.2.2[k].1:ByteArray)=nm)):=by
 unfold maxLen at hw;apply Wp.eq;unfold M.cH;simp only[sx]
 refine Wp.count (λs=>s) a.1.length (λk _=>∀j,j<k->∀h:j<a.1.length,¬((1<sec\/j<m)/\(a.1[j].1:ByteArray)=nm)) hw.1 rfl (λj hj=>by omega) λk c hk hs hJ=>?_
 obtain rfl:c=_:=hs;simp only[W_,acY,acZ,reduceCtorEq,av,ao];refine⟨λag=>?_,λhge=>?_⟩
 .have ag:k<a.1.length:=by omega
  simp only[ai ag,W_,acY,acZ,reduceCtorEq,bz hw.1 ag];exact⟨λh1=>⟨λh2=> .inl ⟨k,ag, .inl h1,h2⟩,λh2=>⟨ag,aH hJ λ_ h=>h2 h.2⟩⟩,λh1=>⟨λh3=>⟨λh2=> .inl ⟨k,ag, .inr (by omega),h2⟩,λh2=>⟨ag,aH hJ λ_ h=>h2 h.2⟩⟩,λh3=>⟨ag,aH hJ λ_ h=>by omega⟩⟩⟩
 have hE:¬∃k,∃h:k<a.1.length,(1<sec\/k<m)/\(a.1[k].1:ByteArray)=nm:=λ⟨j,h,g⟩=>hJ j (by omega) h g
 simp only[hE,false_or];clear hJ hE
 refine Wp.count (λs=>s) a.2.1.length (λk _=>∀j,j<k->∀h:j<a.2.1.length,¬((2<sec\/sec=2/\j<m)/\(a.2.1[j].1:ByteArray)=nm)) hw.2.1 rfl (λj hj=>by omega) λk c hk hs hJ=>?_
 obtain rfl:c=_:=hs;simp only[W_,acY,acZ,reduceCtorEq,av,ao];refine⟨λag=>?_,λhge=>?_⟩
 .have ag:k<a.2.1.length:=by omega
  simp only[ai ag,W_,acY,acZ,reduceCtorEq,bz hw.2.1 ag];exact⟨λh1=>⟨λh2=> .inl ⟨k,ag, .inl h1,h2⟩,λh2=>⟨ag,aH hJ λ_ h=>h2 h.2⟩⟩,λh1=>⟨λh4=>⟨λh3=>⟨λh2=> .inl ⟨k,ag, .inr ⟨h4,by omega⟩,h2⟩,λh2=>⟨ag,aH hJ λ_ h=>h2 h.2⟩⟩,λh3=>⟨ag,aH hJ λ_ h=>by omega⟩⟩,λh4=>⟨ag,aH hJ λ_ h=>by omega⟩⟩⟩
 have hE:¬∃k,∃h:k<a.2.1.length,(2<sec\/sec=2/\k<m)/\(a.2.1[k].1:ByteArray)=nm:=λ⟨j,h,g⟩=>hJ j (by omega) h g
 simp only[hE,false_or];clear hJ hE
 refine Wp.count (λs=>s) a.2.2.length (λk _=>∀j,j<k->∀h:j<a.2.2.length,¬((sec=3/\j<m)/\(a.2.2[j].1:ByteArray)=nm)) hw.2.2 rfl (λj hj=>by omega) λk c hk hs hJ=>?_
 obtain rfl:c=_:=hs;simp only[W_,acY,acZ,reduceCtorEq,av,ao];refine⟨λag=>?_,λhge=>?_⟩
 .have ag:k<a.2.2.length:=by omega
  simp only[ai ag,W_,acY,acZ,reduceCtorEq,bz hw.2.2 ag];exact⟨λh4=>⟨λh3=>⟨λh2=>⟨k,ag,⟨h4,by omega⟩,h2⟩,λh2=>⟨ag,aH hJ λ_ h=>h2 h.2⟩⟩,λh3=>⟨ag,aH hJ λ_ h=>by omega⟩⟩,λh4=>⟨ag,aH hJ λ_ h=>by omega⟩⟩
 exact λ⟨j,h,g⟩=>hJ j (by omega) h g
theorem nz(l:List Fd)(m:Nat)(nm:ByteArray)(hl:l.length<=maxLen):M.eE aW l (m:Int) nm=some (decide (cJ (l.take m) nm)):=by
 unfold maxLen at hl;apply Wp.eq;unfold M.eE
 refine Wp.count (λs=>s) l.length (λk _=>∀j,j<k->∀h:j<l.length,j<m->¬(l[j].1:ByteArray)=nm) hl rfl (λj hj=>by omega) λk c hk hs hJ=>?_
 obtain rfl:c=_:=hs
 have wg:(k:Nat)>=l.length\/k>=m->¬cJ (l.take m) nm:=λhge h=>by
  obtain⟨j,h,hm,g⟩:=jo.1 h;exact hJ j (by omega) h hm g
 simp only[W_,acY,acZ,reduceCtorEq,av,ao];refine⟨λh1=>⟨λh2=>?_,λh2=>wg (by omega)⟩,λh1=>wg (by omega)⟩
 have ag:k<l.length:=by omega
 simp only[ai ag,W_,acY,acZ,reduceCtorEq,bz hl ag];exact⟨λh=>jo.2 ⟨k,ag,by omega,h⟩,λh=>⟨ag,aH hJ λ_ _=>h⟩⟩
theorem bp(t:Ty)(E:List En):M.bN aW t E=some (decide (kP t E.length)):=by
 obtain⟨(k:Int),(e:Int)⟩:=t;apply Wp.eq;unfold M.bN;simp only[W_,acY,acZ,reduceCtorEq];simp only[kP];dsimp only[ae,Row.den]at*;omega
theorem C3(r:Ty):M.eP aW r=some (decide (VR r)):=by
 obtain⟨(k:Int),(e:Int)⟩:=r;apply Wp.eq;unfold M.eP;simp only[W_,acY,acZ,reduceCtorEq];simp only[VR];dsimp only[ae,Row.den]at*;omega
def EH(t:Ty)(E:List En):Int×Int:=
 if¬kP t E.length then(0,-1)else if(t.1:Int)=1 then(0,1)else if(t.1:Int)=2 then(-1000000000000,1000000000000)else if(t.1:Int)=3 then(-1000000000000000,1000000000000000)else if(t.1:Int)=4 then(-1000000000,1000000000)else if(t.1:Int)=5 then(0,109572)
 else(0,aaV.wrap ((((E[(t.2:Int).toNat]?).map λe=>(e.2.length:Int)).getD 0)-1))
theorem HR(t:Ty)(E:List En):M.iK aW t E=some (EH t E):=by
 obtain⟨(k:Int),(e:Int)⟩:=t;apply Wp.eq;unfold M.iK EH;simp only[bp,W_,acY,acZ,reduceCtorEq];by_cases hv:kP (k,e) E.length
 .simp only[hv,not_true_eq_false,if_false,false_implies,true_implies,true_and];refine⟨λh=>by rw[acU h],λh1=>⟨λh=>by rw[acT h1,acU h],λh2=>⟨λh=>by rw[acT h1,acT h2,acU h],λh3=>⟨λh=>by rw[acT h1,acT h2,acT h3,acU h],λh4=>⟨λh=>by rw[acT h1,acT h2,acT h3,acT h4,acU h],λh5=>?_⟩⟩⟩⟩⟩;simp only[kP]at hv;dsimp only[ae,Row.den]at*
  have hi:e.toNat<E.length:=by omega
  refine cT.2 ⟨by omega,?_⟩;rw[acT h1,acT h2,acT h3,acT h4,acT h5,aaW hi];rfl
 .simp only[hv,not_false_eq_true,if_true,true_implies,false_implies,and_true]
def xL(n:Int)(t:Ty)(E:List En):Prop:=(EH t E).1<=n/\n<=(EH t E).2
instance(n:Int)(t:Ty)(E:List En):Decidable (xL n t E):=by unfold xL;infer_instance
theorem ME(n:Int)(t:Ty)(E:List En):M.lV aW n t E=some (decide (xL n t E)):=by
 apply Wp.eq;unfold M.lV;simp only[HR,W_,acY,acZ,reduceCtorEq];unfold xL;omega
def oI(x:Rw)(t:HP)(E:List En):Prop:=¬VR x.1\/(x.1.1:Int)=x.1.2\/(x.2.2.1:Int)<=x.2.1\/¬xL x.2.1 t.2.1 E\/¬xL (aaV.wrap ((x.2.2.1:Int)-1)) t.2.1 E\/¬xL x.2.2.2 t.2.2.1 E
instance(x:Rw)(t:HP)(E:List En):Decidable (oI x t E):=by unfold oI;infer_instance
theorem HS(x:Rw)(t:HP)(E:List En):M.lb aW x t E=some (decide (oI x t E)):=by
 apply Wp.eq;unfold M.lb;simp only[C3,ME,W_,acY,acZ,reduceCtorEq];unfold oI;grind
def mM(a b:Rw):Prop:=VR a.1/\VR b.1/\((a.1.1:Int)<a.1.2/\(a.1.1:Int)<b.1.2/\(b.1.1:Int)<a.1.2/\(b.1.1:Int)<b.1.2)/\(a.2.1:Int)<a.2.2.1/\(a.2.1:Int)<b.2.2.1/\(b.2.1:Int)<a.2.2.1/\(b.2.1:Int)<b.2.2.1
instance(a b:Rw):Decidable (mM a b):=by simp only[mM];dsimp only[ae,Row.den]at*;infer_instance
theorem HT(a b:Rw):M.iL aW a b=some (decide (mM a b)):=by
 obtain⟨⟨(a1:Int),(a2:Int)⟩,(a3:Int),(a4:Int),(a5:Int)⟩:=a;obtain⟨⟨(b1:Int),(b2:Int)⟩,(b3:Int),(b4:Int),(b5:Int)⟩:=b;apply Wp.eq;unfold M.iL M.jX;simp only[C3,W_,acY,acZ,reduceCtorEq];simp only[mM];dsimp only[ae,Row.den]at*
 by_cases h1:VR (a1,a2)<;>by_cases h2:VR (b1,b2)<;>simp only[h1,h2,W_,acY,acZ,reduceCtorEq]<;>omega
open Classical in
noncomputable def o6(t:HP)(E:List En)(k:Nat):Option (Int×Int):=match t.2.2.2[k]? with
 |none=>acP
 |some x=>if oI x t E then some ((k:Int),3)else if∃y∈t.2.2.2.take k,mM y x then some ((k:Int),11)else acP
noncomputable def kc(t:HP)(E:List En):Int×Int:=
 if 64<t.2.2.2.length then(64,4)else if¬(kP t.2.1 E.length/\kP t.2.2.1 E.length)then(-1,8)else(bI (o6 t E) t.2.2.2.length).getD (0,0)
theorem Kd(t:HP)(E:List En):M.iM aW t E=some (kc t E):=by
 apply Wp.eq;unfold M.iM kc;simp only[bp,HS,HT,W_,acY,acZ,reduceCtorEq];refine⟨λh=>by rw[acU (by omega)],λVV=>?_⟩;rw[acT (c:=64<t.2.2.2.length) (by omega)];refine⟨λh1=>by rw[acU (λg=>h1 g.1)],λh1=>⟨λh2=>by rw[acU (λg=>h2 g.2)],λh2=>?_⟩⟩;rw[acT (λg=>g ⟨h1,h2⟩)]
 refine Wp.count (λs=>s) t.2.2.2.length (λk _=>∀j,j<k->o6 t E j=acP) (by omega) rfl (λj hj=>by omega) λk s hk hs hJ=>?_
 obtain rfl:s=_:=hs;simp only[W_,acY,acZ,reduceCtorEq,av,ao];refine⟨λag=>?_,λhge=>?_⟩
 .have ag:k<t.2.2.2.length:=by omega
  have hf:o6 t E k=if oI t.2.2.2[k] t E then some ((k:Int),3)else if∃y∈t.2.2.2.take k,mM y t.2.2.2[k]then some ((k:Int),11)else acP:=by
   unfold o6;rw[aaW ag]
  simp only[ai ag,W_,acY,acZ,reduceCtorEq,bz (m:=t.2.2.2.length) (by omega) ag];refine⟨λhw=>?_,λhw=>?_⟩
  .rw[bE (hf.trans (acU hw)) hJ ag];rfl
  rw[acT hw]at hf
  refine Wp.count (λs=>s) k (λj _=>∀i,i<j->∀h:i<t.2.2.2.length,¬mM t.2.2.2[i] t.2.2.2[k]) (by omega) rfl (λj hj=>by omega) λj c hj hs hI=>?_
  obtain rfl:c=_:=hs;simp only[W_,acY,acZ,reduceCtorEq,av,ao];refine⟨λNv=>?_,λNv=>⟨ag,aH hJ ?_⟩⟩
  .have qD:j<t.2.2.2.length:=by omega
   simp only[ai qD,W_,acY,acZ,reduceCtorEq,bz (m:=k) (by omega) (show j<k by omega)];refine⟨λhc=>?_,λhc=>⟨by omega,aH hI λ_=>hc⟩⟩;rw[bE (hf.trans (acU ⟨_,List.mem_take_iff_getElem.2 ⟨j,by omega,rfl⟩,hc⟩)) hJ ag];rfl
  .rw[hf,acT]
   rintro⟨y,hy,hc⟩
   obtain⟨i,hi,rfl⟩:=List.mem_take_iff_getElem.1 hy;exact hI i (by omega) (by omega) hc
 .rw[aP.2 λj hj=>hJ j (by omega)];rfl
end L
end
namespace L
abbrev pu:Type:=aL.den
theorem C4(op:Int):M.jN aW op=some (ar op):=by
 apply Wp.eq;unfold M.jN ar;simp only[W_,acY,acZ,reduceCtorEq];omega
theorem HU{sk:List Nat}{j:Nat}(h:j<sk.length):idx (gK sk) (j:Int)=some ((sk.getD j 0:Nat):Int):=by
 rw[ai (by simpa using h)];simp[List.getD,h]
theorem nA(l:List Nat):(gK l).length=l.length:=ab0 _
theorem vN(l:List Nat)(x:Nat):gK l++[(x:Int)]=gK (l++[x]):=by simp[gK]
theorem tO(e:List Ty):M.gU aW e=some (q7 e):=by
 apply Wp.eq;unfold M.gU;simp only[C4,W_,acY,acZ,reduceCtorEq];refine⟨λh=>by unfold q7;rw[acU (by omega)],λVW=>⟨λh0=>by unfold q7;rw[acT (by omega),acU (by omega)],λh0=>?_⟩⟩
 have hS:q7 e=match jY e 0 [] []with
  | .inl (i,c)=>((i:Int),c,[])
  | .inr (st,sk)=>if 1<sk.length then((e.length:Int),4,[])else(0,0,gK st):=by unfold q7;rw[acT (by omega),acT (by omega)]<;>cases jY e 0 [] []<;>rfl
 refine Wp.count (λs=>s.1) e.length (λk s=>∃st sk,s.2=(gK st,gK sk)/\jY e 0 [] []=jY (e.drop k) k st sk/\sk.length<=12/\st.length=k) (by omega) rfl ⟨[],[],rfl,rfl,by simp,rfl⟩ λk s hk hs hJ=>?_
 obtain⟨i,_⟩:=s;obtain⟨st,sk,h,hr,UF,dW⟩:=hJ;dsimp only at hs h;subst hs h;simp only[W_,acY,acZ,reduceCtorEq,av,ao,nA];refine⟨λag=>?_,λhge=>?_⟩
 .have ag:k<e.length:=by omega
  rw[abv ag,jY]at hr;simp only[ai ag,W_,acY,acZ,reduceCtorEq]
  obtain⟨a,ha⟩:∃a,a=ar e[k].1:=⟨_,rfl⟩
  have UG:=vM e[k].1;simp only[<-ha]at hr UG⊢;refine⟨λhn=>?_,λhn=>?_⟩
  .rw[hS,hr,acU hn]
  rw[acT hn]at hr;refine⟨λh5=>?_,λh5=>?_⟩
  .rw[hS,hr,acU h5]
  rw[acT h5]at hr
  have fin:∀x:Nat,x=Kc a k sk->Wp (bK (gK (sk.take (sk.length-a.toNat))) [(x:Int)]) (λl8=>Wp (bK (gK st) [(x:Int)]) λl9=>(12<(l8.length:Int)->((k:Int),((16:Int),([]:List Int)))=q7 e)/\(¬12<(l8.length:Int)->k<e.length/\aaV.wrap ((k:Int)+1)=((k+1:Nat):Int)/\∃st sk,(l9,l8)=(gK st,gK sk)/\jY e 0 [] []=jY (e.drop (k+1)) (k+1) st sk/\sk.length<=12/\st.length=k+1)):=by
   intro x hx;refine gF.2 ⟨by rw[nA,abb];simp;omega,gF.2 ⟨by rw[nA];simp;omega,?_⟩⟩;rw[vN,vN,nA,aba,abb];simp only[aa6,abS];refine⟨λh=>?_,λh=>⟨ag,bz (m:=e.length) (by omega) ag,st++[x],sk.take (sk.length-a.toNat)++[x],rfl,?_,?_,?_⟩⟩
   .rw[hS,hr,acU (by omega)]
   .rw[hr,acT (by omega),hx]
   .rw[aba,abb];simp;omega
   .rw[aba,dW];rfl
  refine⟨λhp=>?_,λhp=>?_⟩
  .have w1:aaV.wrap ((sk.length:Int)-a)=((sk.length-a.toNat:Nat):Int):=by rw[dj (by omega) (by omega)];omega
   simp only[w1,HU (show sk.length-a.toNat<sk.length by omega),oj (show sk.length-a.toNat<=(gK sk).length by rw[nA];omega),W_,acY,acZ,reduceCtorEq];rw[<-List.map_take];exact fin _ (by unfold Kc;rw[acT (by omega)])
  .have:a.toNat=0:=by omega
   have:=fin k (by unfold Kc;rw[acU (by omega)]);rw[‹a.toNat=0›,Nat.sub_zero,abg]at this;exact this
 .obtain rfl:k=e.length:=by omega
  rw[List.drop_length,jY]at hr;rw[hS,hr];refine⟨λh=>?_,λh=>?_⟩
  .exact(acU (c:=1<sk.length) (by omega)).symm
  .exact(acT (c:=1<sk.length) (by omega)).symm
theorem ax(op:Int):M.jy aW op=some (decide ((1<=op/\op<=8)\/(14<=op/\op<=16)\/op=33\/op=34\/(36<=op/\op<=39))):=by
 apply Wp.eq;unfold M.jy;simp only[W_,acY,acZ,reduceCtorEq];omega
theorem ay(k:Int):M.gj aW k=some (decide (k=2\/k=3\/k=4)):=by
 apply Wp.eq;unfold M.gj;simp only[W_,acY,acZ,reduceCtorEq];omega
theorem aw(k:Int):M.ed aW k=some (decide (k=2\/k=3\/k=4\/k=5)):=by
 apply Wp.eq;unfold M.ed;simp only[ay,W_,acY,acZ,reduceCtorEq];omega
theorem aK(k:Int):M.ct aW k=some ((k,(0:Int)):Ty):=rfl
def zC(op m:Int)(s:pu):Prop:=(1<=op/\op<=5->xL m (op,(0:Int)) s.1)/\(14<=op/\op<=16->0<=m/\m<=5)/\(op=34->0<=m/\acu m 8<=5)/\(op=6->0<=m)
instance(op m:Int)(s:pu):Decidable (zC op m s):=by unfold zC;infer_instance
theorem tP(n:Ty)(s:pu):M.iN aW n s=some (decide (zC n.1 n.2 s)):=by
 obtain⟨(op:Int),(m:Int)⟩:=n;apply Wp.eq;unfold M.iN;simp only[aK,HR,W_,acY,acZ,reduceCtorEq];unfold zC xL;dsimp only[ae,Row.den]at*;generalize EH (op,(0:Int)) s.1=b;omega
def Ke(op m:Int)(s:pu):Prop:=
 (op=6->aaV.wrap (ab7 m 16)<(s.1.length:Int)/\acu m 16<(((s.1[(aaV.wrap (ab7 m 16)).toNat]?).map λe=>(e.2.length:Int)).getD 0))/\
 (op=7->0<=m/\m<(s.2.2.1.length:Int))/\(op=8->0<=m/\m<(s.2.2.2.1.length:Int))/\(op=33->0<=m/\m<(s.2.1.length:Int))/\(op=34->aaV.wrap (ab7 m 8)<(s.2.1.length:Int))/\
 (35<=op/\op<=39->s.2.2.2.2.2=acQ)/\(36<=op/\op<=39->0<=m/\m<(s.2.2.2.2.1.length:Int))
instance(op m:Int)(s:pu):Decidable (Ke op m s):=by unfold Ke;infer_instance
theorem C5{m k:Int}(h0:0<=m)(h1:m<=9223372036854775807)(hk:0<k):0<=aaV.wrap (ab7 m k):=by
 have h2:0<=ab7 m k:=Int.tdiv_nonneg h0 (by omega)
 have h3:ab7 m k<=m:=by rw[Int.tdiv_eq_ediv_of_nonneg h0];exact Int.ediv_le_self _ h0
 rw[dj (by omega) (by omega)];exact h2
theorem MF(n:Ty)(s:pu)(hm:(n.2:Int)<=9223372036854775807)(hr:zC n.1 n.2 s):M.aZ aW n s=some (decide (Ke n.1 n.2 s)):=by
 obtain⟨(op:Int),(m:Int)⟩:=n;apply Wp.eq;unfold M.aZ;simp only[W_,acY,acZ,reduceCtorEq];unfold Ke;unfold zC at hr;dsimp only[ae,Row.den]at*;refine⟨λh6=>⟨λh=>?_,λh=>?_⟩,λh6=>?_⟩
 .have h0:=C5 (k:=16) (hr.2.2.2 h6) hm (by omega);refine cT.2 ⟨⟨h0,h⟩,?_⟩;rw[aaW (show(aaV.wrap (ab7 m 16)).toNat<s.1.length by omega)];exact⟨λg=>⟨λ_=>⟨h,g⟩,by omega,by omega,by omega,by omega,λ_=>by omega,by omega⟩,λg=>(g.1 h6).2⟩
 .exact λg=>h (g.1 h6).1
 simp only[h6,W_,acY,acZ,reduceCtorEq]
 cases h5:s.2.2.2.2.2<;>simp only[imp_false,W_,acY,acZ,reduceCtorEq]<;>omega
theorem HV{op m:Int}{s:pu}(hf:Ke op m s):Wp (M.bD aW (op,m) s) λ_=>True:=by
 unfold M.bD;simp only[aK,aw,bp,W_,acY,acZ,reduceCtorEq];unfold Ke at hf;dsimp only[ae,Row.den]at*
 refine λh6=>⟨λh7=>?_,λh7=>⟨λh8=>?_,λh8=>λh9 h35=>?_⟩⟩
 .exact cT.2 ⟨hf.2.1 h7,trivial⟩
 .exact cT.2 ⟨hf.2.2.1 h8,trivial⟩
 .by_cases h:36<=op/\op<=39
  .have:Wp (idx s.2.2.2.2.1 m) λ_=>True:=cT.2 ⟨hf.2.2.2.2.2.2 h,trivial⟩
   simp only[this,W_,acY,acZ,reduceCtorEq]
  .simp only[show¬op=36 by omega,show¬op=37 by omega,show¬op=38 by omega,show¬op=39 by omega,W_,acY,acZ,reduceCtorEq]
theorem BF{op m:Int}{a:Ty}{s:pu}(hm:m<=9223372036854775807)(h1:ar op=1)(hr:zC op m s)(hf:Ke op m s):Wp (M.cn aW (op,m) a s) λ_=>True:=by
 have uB:op=10\/op=25\/(31<=op/\op<=34):=by
  clear hr hf;unfold ar at h1;omega
 unfold M.cn;simp only[aK,ay,bp,W_,acY,acZ,reduceCtorEq];unfold Ke at hf;unfold zC at hr;dsimp only[ae,Row.den]at*
 have key:¬op=31->¬op=32->¬op=10->¬op=25->(op=33->Wp (idx s.2.1 m) λ_=>True)/\(¬op=33->Wp (idx s.2.1 (aaV.wrap (m.tdiv 8))) λ_=>True):=by
  refine λQC VX PD VY=>⟨λPE=>cT.2 ⟨hf.2.2.2.1 PE,trivial⟩,λPE=>?_⟩
  have MG:op=34:=by clear hr hf;omega
  exact cT.2 ⟨⟨C5 (hr.2.2.1 MG).1 hm (by omega),hf.2.2.2.2.1 MG⟩,trivial⟩
 exact λPD VY=>⟨λQC g=>absurd QC g,λQC VX=>key QC VX PD VY⟩
theorem BG(op a b:Int):Wp (M.gk aW op a b) λ_=>True:=by
 unfold M.gk;simp only[aK,W_,acY,acZ,reduceCtorEq]
theorem BH(op:Int)(a b:Ty):Wp (M.dT aW op a b) λ_=>True:=by
 obtain⟨r,e,_⟩:=BG op a.1 b.1;unfold M.dT
 repeat' first|exact Wp.some trivial|exact⟨_,ay _,trivial⟩|exact⟨_,aw _,trivial⟩|exact⟨_,aK _,trivial⟩|exact⟨_,e,trivial⟩|refine Wp.seq (λ_=>True) ?_ λ_ _=>?_|refine Wp.dec (λ_=>?_) λ_=>?_|refine Wp.ite (λ_=>?_) λ_=>?_
noncomputable def HW(n:Ty)(l:List Ty)(s:pu):Ty×Int:=(M.aC aW n l s).getD (((0:Int),(0:Int)),(0:Int))
theorem BI{n:Ty}{l:List Ty}{s:pu}(hw:WF aa n)(hl:(l.length:Int)=ar n.1):M.aC aW n l s=some (HW n l s):=by
 refine(Wp.getD (Q:=λ_=>True) ?_ _).1;have hm:(n.2:Int)<=9223372036854775807:=hw.2.2;have h3:=vM n.1
 have key:Wp (M.iN aW n s) λx=>x=acQ->Wp (M.aZ aW n s) λx=>x=acQ->((l.length:Int)=0->Wp (M.bD aW n s) λ_=>True)/\(¬(l.length:Int)=0->((l.length:Int)=1->Wp (idx l 0) λx=>Wp (M.cn aW n x s) λ_=>True)/\
  (¬(l.length:Int)=1->((l.length:Int)=2->Wp (idx l 0) λx=>Wp (idx l 1) λZi=>Wp (M.dT aW n.1 x Zi) λ_=>True)/\(¬(l.length:Int)=2->Wp (idx l 1) λ_=>Wp (idx l 0) λx=>(x.1:Int)=1->Wp (idx l 1) λ_=>Wp (idx l 2) λ_=>True))):=by
  rw[tP]
  refine .some λhr=>?_
  have hr:zC n.1 n.2 s:=acV hr;rw[MF n s hm hr]
  refine .some λhf=>?_
  have hf:Ke n.1 n.2 s:=acV hf;exact⟨λ_=>HV hf,λh0=>⟨λh1=>cT.2 ⟨by omega,BF hm (by omega) hr hf⟩,λh1=>⟨λh2=>cT.2 ⟨by omega,cT.2 ⟨by omega,BH ..⟩⟩,λh2=>cT.2 ⟨by omega,cT.2 ⟨by omega,λ_=>cT.2 ⟨by omega,cT.2 ⟨by omega,trivial⟩⟩⟩⟩⟩⟩⟩
 unfold M.aC;simp only[ax,W_,acY,acZ,reduceCtorEq];exact⟨λ_ _=>key,λ_=>key⟩
noncomputable def kQ(s:pu):List Ty->Nat->List Ty->(Nat×Int)⊕List Ty
 |[],_,jC=> .inr jC
 |n::e,i,jC=>
  if(HW n (jC.drop (jC.length-(ar n.1).toNat)) s).2≠0 then .inl (i,(HW n (jC.drop (jC.length-(ar n.1).toNat)) s).2)
  else kQ s e (i+1) (jC.take (jC.length-(ar n.1).toNat)++[(HW n (jC.drop (jC.length-(ar n.1).toNat)) s).1])
noncomputable def E2(e:List Ty)(s:pu):Ty×Int×Int:=
 if(q7 e).2.1≠0 then(((0:Int),(0:Int)),(q7 e).1,(q7 e).2.1)else match kQ s e 0 []with
  | .inl (i,c)=>(((0:Int),(0:Int)),(i:Int),c)
  | .inr jC=>(jC.headD ((0:Int),(0:Int)),0,0)
theorem C6{e:List Ty}(h:(q7 e).2.1=0):e.length<=48/\e≠[]/\∃st sk,jY e 0 [] []= .inr (st,sk):=by
 unfold q7 at h;split at h
 .cases h
 split at h
 .cases h
 rename_i h1 h2;refine⟨by omega,λe=>h2 (by rw[e];rfl),?_⟩;split at h
 .rename_i c hc;exfalso
  have:∀(e:List Ty)(i:Nat)(st sk:List Nat)(j:Nat),jY e i st sk≠ .inl (j,0):=by
   intro e
   induction e with
   |nil=>intro i st sk j h;cases h
   |cons n e ih=>
    intro i st sk j h;rw[jY]at h;split at h
    .cases h
    split at h
    .cases h
    split at h
    .cases h
    exact ih _ _ _ _ h
  have Zj:c=0:=h;subst Zj;exact this _ _ _ _ _ hc
 .rename_i st sk hs;exact⟨st,sk,hs⟩
theorem MH{e:List Ty}{s:pu}(hw:∀n∈e,WF aa n):M.ko aW e s=some (E2 e s):=by
 apply Wp.eq;unfold M.ko;simp only[tO,C4,W_,acY,acZ,reduceCtorEq];refine⟨λh=>by unfold E2;rw[acU h],λh0=>?_⟩;obtain⟨VW,cA,cG,Zk,FJ⟩:=C6 h0
 have hT:E2 e s=match kQ s e 0 []with
  | .inl (i,c)=>(((0:Int),(0:Int)),(i:Int),c)
  | .inr jC=>(jC.headD ((0:Int),(0:Int)),0,0):=by unfold E2;rw[acT (by omega)]
 refine Wp.count (λs=>s.1) e.length (λk q=>∃st sk,q.2.length=sk.length/\jY e 0 [] []=jY (e.drop k) k st sk/\kQ s e 0 []=kQ s (e.drop k) k q.2/\q.2.length<=k/\(0<k->q.2≠[])) (by omega) rfl ⟨[],[],rfl,rfl,rfl,aaX _,λh=>by omega⟩ λk q hk hs hJ=>?_
 obtain⟨i,jC⟩:=q;obtain⟨st,sk,hl,hr,ht,JA,mV⟩:=hJ;dsimp only at hs hl ht JA mV;subst hs;simp only[W_,acY,acZ,reduceCtorEq,av,ao];refine⟨λag=>?_,λhge=>?_⟩
 .have ag:k<e.length:=by omega
  rw[abv ag,jY]at hr;rw[abv ag,kQ]at ht;rw[FJ]at hr;have UG:=vM e[k].1;split at hr
  .cases hr
  split at hr
  .cases hr
  split at hr
  .cases hr
  rename_i Zl Zm Zn
  have w1:aaV.wrap ((jC.length:Int)-ar e[k].1)=((jC.length-(ar e[k].1).toNat:Nat):Int):=by rw[dj (by omega) (by omega)];omega
  have hd:((jC.drop (jC.length-(ar e[k].1).toNat)).length:Int)=ar e[k].1:=by rw[List.length_drop];omega
  simp only[ai ag,w1,oj (show jC.length-(ar e[k].1).toNat<=jC.length by omega),pW (l:=jC) (jC.length-(ar e[k].1).toNat) jC.length rfl rfl (by omega) (aaX _),abg,BI (hw _ (aaZ ag)) hd,W_,acY,acZ,reduceCtorEq];refine⟨λhc=>?_,λhc=>?_⟩
  .rw[hT,ht,acU hc]
  .rw[acT (λg=>g hc)]at ht;refine gF.2 ⟨by rw[abb];simp;omega,ag,bz (m:=e.length) (by omega) ag,_,_,?_,FJ.trans hr,ht,?_,λ_=>by simp⟩
   .simp only[aba,abb,aa6,abS,hl]
   .simp only[aba,abb,aa6,abS];omega
 .obtain rfl:k=e.length:=by omega
  rw[List.drop_length,kQ]at ht;rw[hT,ht];have:jC≠[]:=mV (List.length_pos_iff.2 cA);obtain⟨a,l,rfl⟩:=List.exists_cons_of_ne_nil this;exact cT.2 ⟨by simp,rfl⟩
end L
namespace L
def ins(n:Int):List Int->List Int
 |[]=>[n]
 |x::l=>if x<n then x::ins n l else if x=n then x::l else n::x::l
theorem zD(n x:Int)(l:List Int):ins n (x::l)=if x<n then x::ins n l else if x=n then x::l else n::x::l:=rfl
theorem pZ(n:Int):∀l:List Int,(ins n l).length<=l.length+1
 |[]=>aaX _
 |x::l=>by
  have:=pZ n l;unfold ins;split
  .simp only[aa6];omega
  split<;>simp only[aa6]<;>omega
theorem ll{n y:Int}:∀{l:List Int},y∈ins n l↔y=n\/y∈l
 |[]=>by simp[ins]
 |x::l=>by
  unfold ins;split
  .rw[aa7,ll,aa7];exact⟨λh=>by rcases h with h|h|h<;>simp[h],λh=>by rcases h with h|h|h<;>simp[h]⟩
  split
  .rename_i h;subst h;simp
  .simp
theorem lm(l:List Int)(n:Int)(hl:l.length<=4294967000):M.gm aW l n=some (ins n l):=by
 apply Wp.eq;unfold M.gm;rw[wp_bind]
 refine Wp.count (λs=>s.2.1) l.length (λk s=>(s.1=acR->s.2.2++ins n (l.drop k)=ins n l/\s.2.2.length<=k)/\(s.1=acQ->s.2.2++l.drop k=ins n l)/\s.2.2.length<=k+1) (by omega) rfl ⟨λ_=>⟨rfl,aaX _⟩,λh=>(by cases h),by simp⟩ λk s hk hs hJ=>?_
 obtain⟨d,i,out⟩:=s;dsimp only at hs hJ;subst hs;obtain⟨h1,h2,h3⟩:=hJ;simp only[W_,acY,acZ,reduceCtorEq,av,ao];refine⟨λag=>?_,λhge=>?_⟩
 .have ag:k<l.length:=by omega
  rw[abv ag]at h1 h2;simp only[ai ag,bz (m:=l.length) (by omega) ag,W_,acY,acZ,reduceCtorEq];refine⟨λhd=>?_,λhd=>?_⟩
  .obtain⟨h1,h4⟩:=h1 hd;rw[zD]at h1;refine⟨λhle=>⟨λJZ=>?_,λZo=>?_⟩,λhle=>?_⟩
   .refine gF.2 ⟨by simp;omega,gF.2 ⟨by simp;omega,ag,?_,by simp;omega⟩⟩;rw[acT (by omega),acT (by omega)]at h1;rw[<-h1];simp
   .refine gF.2 ⟨by simp;omega,ag,?_,by simp;omega⟩;rw[acT (by omega),acU (by omega)]at h1;rw[<-h1];simp
   .refine gF.2 ⟨by simp;omega,ag,λ_=>⟨?_,by simp;omega⟩,λh=>?_,by simp;omega⟩
    .rw[acU (by omega)]at h1;rw[<-h1];simp
    .rw[hd]at h;cases h
  .have h2:=h2 hd;refine gF.2 ⟨by simp;omega,ag,λh=>?_,λ_=>?_,by simp;omega⟩
   .rw[hd]at h;cases h
   .rw[<-h2];simp
 .obtain rfl:k=l.length:=by omega
  rw[List.drop_length]at h1 h2;refine⟨λhd=>gF.2 ⟨by simp;omega,(h1 hd).1⟩,λhd=>?_⟩;rw[<-h2 hd,List.append_nil]
theorem nB(l:List Int)(n:Int)(hl:l.length<=4294967000):M.iO aW l n=some (ins n l):=lm l n hl
def dI(p:Int->Bool)(e:List Ty):List Int:=e.foldl (λl n=>if p n.1=acQ then ins n.2 l else l) []
theorem zE(p:Int->Bool)(e:List Ty):(dI p e).length<=e.length:=by
 unfold dI
 suffices∀(e:List Ty)(l:List Int),(e.foldl (λl n=>if p n.1=acQ then ins n.2 l else l) l).length<=l.length+e.length by simpa using this e []
 intro e
 induction e with
 |nil=>intro l;simp
 |cons n e ih=>
  intro l;have h1:=ih (if p n.1=acQ then ins n.2 l else l);have h2:=pZ n.2 l;rw[abN,aa6]
  have h3:(if p n.1=acQ then ins n.2 l else l).length<=l.length+1:=by split<;>omega
  omega
def zF(op:Int):Bool:=decide (op=7)
def fR(op:Int):Bool:=decide (op=8)
def zG(op:Int):Bool:=decide (36<=op/\op<=39)
theorem C7(e:List Ty)(he:e.length<=100000):M.eG aW e=some (dI zF e,dI fR e,dI zG e):=by
 apply Wp.eq;unfold M.eG;rw[wp_bind]
 refine Wp.fold (λs=>s.1) (λs=>s.2) e (λ(c:List Int×List Int×List Int)n=>(if zF n.1=acQ then ins n.2 c.1 else c.1,if fR n.1=acQ then ins n.2 c.2.1 else c.2.1,if zG n.1=acQ then ins n.2 c.2.2 else c.2.2)) ([],[],[]) (λk c=>c.1.length<=k/\c.2.1.length<=k/\c.2.2.length<=k) (by omega) rfl rfl (by simp) (λk s ag hs hI=>?_) λs hs hc hI=>?_
 .obtain⟨i,a,b,c⟩:=s;dsimp only at hs hI;subst hs;have l1:=pZ e[k].2 a;have l2:=pZ e[k].2 b;have l3:=pZ e[k].2 c;simp only[acU (fA ag),ai ag,lm a _ (by omega),lm b _ (by omega),lm c _ (by omega),bz (m:=e.length) (by omega) ag,W_,acY,acZ,reduceCtorEq,jm];unfold zF fR zG;generalize e[k]=n at*;obtain⟨(op:Int),(m:Int)⟩:=n;dsimp only[ae,Row.den]at*;by_cases g1:op=7
  .subst g1;simp only[show¬(7:Int)=8 by omega,show¬(36:Int)<=7 by omega,W_,acY,acZ,reduceCtorEq];omega
  by_cases g2:op=8
  .subst g2;simp only[show¬(8:Int)=7 by omega,show¬(36:Int)<=8 by omega,W_,acY,acZ,reduceCtorEq];omega
  by_cases g3:36<=op<;>by_cases g4:op<=39<;>simp only[g1,g2,g3,g4,W_,acY,acZ,reduceCtorEq]<;>omega
 .obtain⟨i,a,b,c⟩:=s;dsimp only at hs hc;subst hs;simp only[show¬((e.length:Int)<(e.length:Int)) by omega,W_,acY,acZ,reduceCtorEq,jn]
  have:∀(e:List Ty)(c:List Int×List Int×List Int),e.foldl (λ(c:List Int×List Int×List Int)n=>(if zF n.1=acQ then ins n.2 c.1 else c.1,if fR n.1=acQ then ins n.2 c.2.1 else c.2.1,if zG n.1=acQ then ins n.2 c.2.2 else c.2.2)) c=(e.foldl (λl n=>if zF n.1=acQ then ins n.2 l else l) c.1,e.foldl (λl n=>if fR n.1=acQ then ins n.2 l else l) c.2.1,e.foldl (λl n=>if zG n.1=acQ then ins n.2 l else l) c.2.2):=by
   intro e
   induction e with
   |nil=>intro c;rfl
   |cons n e ih=>intro c;rw[abN,ih];rfl
  rw[hc,this];rfl
def oJ(n:Nat)(l:List Int):Prop:=l.Pairwise (· < ·)/\∀x∈l,0<=x/\x<(n:Int)
theorem oJ.nil{n:Nat}:oJ n []:=⟨.nil,λ_ h=>by cases h⟩
theorem MI{l:List Int}:∀{a b:Int},l.Pairwise (· < ·)->(∀x∈l,a<=x/\x<b)->(l.length:Int)<=max 0 (b-a):=by
 induction l with
 |nil=>intro a b _ _;simp;omega
 |cons x l ih=>
  intro a b hp hb;obtain⟨h1,h2⟩:=abr.1 hp;have hx:=hb x (abW ..)
  have:=ih (a:=x+1) (b:=b) h2 λy hy=>⟨h1 y hy,(hb y (abz _ hy)).2⟩
  simp only[aa6];omega
theorem oJ.len{n:Nat}{l:List Int}(h:oJ n l):l.length<=n:=by
 have:=MI h.1 h.2;omega
theorem BJ{n:Int}:∀{l:List Int},l.Pairwise (· < ·)->(ins n l).Pairwise (· < ·)
 |[],_=>List.pairwise_singleton ..
 |x::l,h=>by
  obtain⟨h1,h2⟩:=abr.1 h;rw[zD];split
  .exact abr.2 ⟨λy hy=>by rcases ll.1 hy with rfl|hy;assumption;exact h1 y hy,BJ h2⟩
  split
  .exact h
  .refine abr.2 ⟨λy hy=>?_,h⟩
   rcases aa7.1 hy with rfl|hy
   .omega
   .have:=h1 y hy;omega
theorem oJ.ins{n:Nat}{x:Int}{l:List Int}(h:oJ n l)(hx:0<=x/\x<(n:Int)):oJ n (ins x l):=
 ⟨BJ h.1,λy hy=>by rcases ll.1 hy with rfl|hy;exact hx;exact h.2 y hy⟩
def ja(n:Nat)(out l:List Int):List Int:=l.foldl (λo x=>if 0<=x/\x<(n:Int)then ins x o else o) out
theorem oJ.ja{n:Nat}:∀{l out:List Int},oJ n out->oJ n (ja n out l)
 |[],_,h=>h
 |x::l,out,h=>by
  show oJ n (L.ja n (if 0<=x/\x<(n:Int)then L.ins x out else out) l)
  refine oJ.ja ?_;split
  .exact h.ins ‹_›
  .exact h
def gL(s:jZ)(d:Int):List Int:=
 if 0<=d/\d<(s.2.2.2.1.length:Int)then s.2.2.2.2.foldl (λout r=>if(r.2.1:Int)=d then ja s.2.2.2.1.length (ja s.2.2.2.1.length out (dI fR r.2.2.2.2.2.1)) (dI fR r.2.2.2.2.2.2.1)else out) []else[]
theorem jO(s:jZ)(d:Int):oJ s.2.2.2.1.length (gL s d):=by
 unfold gL;split
 .suffices∀(rs:List iv)(out:List Int),oJ s.2.2.2.1.length out->oJ s.2.2.2.1.length (rs.foldl (λout r=>if(r.2.1:Int)=d then ja s.2.2.2.1.length (ja s.2.2.2.1.length out (dI fR r.2.2.2.2.2.1)) (dI fR r.2.2.2.2.2.2.1)else out) out)from this _ _ .nil
  intro rs
  induction rs with
  |nil=>intro out h;exact h
  |cons r rs ih=>
   intro out h;rw[abN];refine ih _ ?_;split
   .exact h.ja.ja
   .exact h
 .exact .nil
theorem PF(s:jZ)(d:Int):M.lW aW s d=some (decide (0<=d/\d<(s.2.2.2.1.length:Int))):=by
 apply Wp.eq;unfold M.lW;simp only[W_,acY,acZ,reduceCtorEq];omega
def UH(s:jZ):Prop:=s.2.2.2.1.length<=100000/\s.2.2.2.2.length<=100000/\∀r∈s.2.2.2.2,r.2.2.2.2.2.1.length<=100000/\r.2.2.2.2.2.2.1.length<=100000
theorem Kf(s:jZ)(hs:UH s)(d:Int):M.iP aW s d=some (gL s d):=by
 apply Wp.eq;unfold M.iP;simp only[PF,W_,acY,acZ,reduceCtorEq];unfold gL;refine⟨λh=>by rw[acT h],λh=>?_⟩;rw[acU h];obtain⟨hn,hm,hr⟩:=hs
 refine Wp.fold (λs=>s.1) (λs=>s.2) s.2.2.2.2 (λout(r:iv)=>if(r.2.1:Int)=d then ja s.2.2.2.1.length (ja s.2.2.2.1.length out (dI fR r.2.2.2.2.2.1)) (dI fR r.2.2.2.2.2.2.1)else out) [] (λ_ c=>oJ s.2.2.2.1.length c) (by omega) rfl rfl .nil (λk q ag hs hI=>?_) λq hs hc hI=>?_
 .obtain⟨i,out⟩:=q;dsimp only at hs hI;subst hs;obtain⟨r1,r2⟩:=hr _ (aaZ ag);have l1:=zE fR s.2.2.2.2[k].2.2.2.2.2.1;have l2:=zE fR s.2.2.2.2[k].2.2.2.2.2.2.1;simp only[acU (fA ag),nw ag,ai ag,C7 _ r1,C7 _ r2,bz (m:=s.2.2.2.2.length) (by omega) ag,W_,acY,acZ,reduceCtorEq,jm];refine⟨λhd=>⟨by rw[acT hd],by rw[acT hd];exact hI⟩,λhd=>?_⟩
  .simp only[hd,if_true]
   refine Wp.fold (λs=>s.1) (λs=>s.2) (dI fR s.2.2.2.2[k].2.2.2.2.2.1) (λo x=>if 0<=x/\x<(s.2.2.2.1.length:Int)then ins x o else o) _ (λ_ c=>oJ s.2.2.2.1.length c) (by omega) rfl rfl hI (λi c C8 hs hI=>?_) λc hs hc hI=>?_
   .obtain⟨i,o⟩:=c;dsimp only at hs hI;subst hs;have:=hI.len;simp only[acU (fA C8),nw C8,ai C8,nB o _ (by omega),bz (m:=(dI fR s.2.2.2.2[k].2.2.2.2.2.1).length) (by omega) C8,W_,acY,acZ,reduceCtorEq,jm];exact⟨λh=>⟨by rw[acU h],by rw[acU h];exact hI.ins h⟩,λh=>⟨by rw[acT h],by rw[acT h];exact hI⟩⟩
   obtain⟨i,o⟩:=c;dsimp only at hs hc hI;subst hs;simp only[cU,W_,acY,acZ,reduceCtorEq,jn];have hc:o=ja _ out (dI fR s.2.2.2.2[k].2.2.2.2.2.1):=hc;subst hc
   refine Wp.fold (λs=>s.1) (λs=>s.2) (dI fR s.2.2.2.2[k].2.2.2.2.2.2.1) (λo x=>if 0<=x/\x<(s.2.2.2.1.length:Int)then ins x o else o) _ (λ_ c=>oJ s.2.2.2.1.length c) (by omega) rfl rfl hI (λi c C8 hs hI=>?_) λc hs hc hI=>?_
   .obtain⟨i,o⟩:=c;dsimp only at hs hI;subst hs;have:=hI.len;simp only[acU (fA C8),nw C8,ai C8,nB o _ (by omega),bz (m:=(dI fR s.2.2.2.2[k].2.2.2.2.2.2.1).length) (by omega) C8,W_,acY,acZ,reduceCtorEq,jm];exact⟨λh=>⟨by rw[acU h],by rw[acU h];exact hI.ins h⟩,λh=>⟨by rw[acT h],by rw[acT h];exact hI⟩⟩
   obtain⟨i,o⟩:=c;dsimp only at hs hc hI;subst hs;simp only[cU,W_,acY,acZ,reduceCtorEq,jn];have hc:o=ja _ _ (dI fR s.2.2.2.2[k].2.2.2.2.2.2.1):=hc;exact⟨hc,hc▸hI⟩
 .obtain⟨i,out⟩:=q;dsimp only at hs hc;subst hs;simp only[cU,W_,acY,acZ,reduceCtorEq,jn];exact hc
def stepT(s:jZ)(out:List Int):List Int:=out.foldl (λo x=>(gL s x).foldl (λo y=>ins y o) o) out
def gM(s:jZ):Nat->List Int->List Int
 |0,out=>out
 |n+1,out=>stepT s (gM s n out)
def xg(s:jZ)(d:Int):List Int:=gM s s.2.2.2.1.length (gL s d)
theorem oJ.HX{n:Nat}:∀{l out:List Int},(∀x∈l,0<=x/\x<(n:Int))->oJ n out->oJ n (l.foldl (λo y=>L.ins y o) out)
 |[],_,_,h=>h
 |x::l,out,hx,h=>oJ.HX (l:=l) (out:=L.ins x out) (λy hy=>hx y (abz _ hy)) (h.ins (hx x (abW ..)))
theorem ol(s:jZ){out:List Int}(h:oJ s.2.2.2.1.length out):oJ s.2.2.2.1.length (stepT s out):=by
 unfold stepT
 suffices∀(l o:List Int),oJ s.2.2.2.1.length o->oJ s.2.2.2.1.length (l.foldl (λo x=>(gL s x).foldl (λo y=>ins y o) o) o)from this _ _ h
 intro l
 induction l with
 |nil=>intro o h;exact h
 |cons x l ih=>intro o h;exact ih _ (h.HX (jO s x).2)
theorem MJ(s:jZ)(hs:UH s)(d:Int):M.gn aW s d=some (xg s d):=by
 apply Wp.eq;unfold M.gn;simp only[Kf s hs,W_,acY,acZ,reduceCtorEq];have hn:=hs.1
 refine Wp.count (λs=>s.2) s.2.2.2.1.length (λk q=>q.1=gM s k (gL s d)/\oJ s.2.2.2.1.length q.1) (by omega) rfl ⟨rfl,jO s d⟩ λk q hk o7 hJ=>?_
 obtain⟨out,i⟩:=q;dsimp only at o7 hJ;subst o7;obtain⟨hJ,hI⟩:=hJ;have hlen:=hI.len;simp only[W_,acY,acZ,reduceCtorEq,av,ao];refine⟨λag=>?_,λhge=>?_⟩
 .have ag:k<s.2.2.2.1.length:=by omega
  refine Wp.fold (λs=>s.2) (λs=>s.1) out (λo x=>(gL s x).foldl (λo y=>ins y o) o) out (λ_ c=>oJ s.2.2.2.1.length c) (by omega) rfl rfl hI (λj q UI o7 Lm=>?_) λq o7 hc Lm=>?_
  .obtain⟨o,i⟩:=q;dsimp only at o7 Lm;subst o7;have dl:=(jO s out[j]).len;simp only[nw UI,ai UI,bz (m:=out.length) (by omega) UI,W_,acY,acZ,reduceCtorEq,jm]
   refine Wp.fold (λs=>s.2) (λs=>s.1) (gL s out[j]) (λo y=>ins y o) o (λ_ c=>oJ s.2.2.2.1.length c) (by omega) rfl rfl Lm (λi q C8 o7 Nw=>?_) λq o7 hc Nw=>?_
   .obtain⟨o,i'⟩:=q;dsimp only at o7 Nw;subst o7;have:=Nw.len;simp only[nw C8,ai C8,nB o _ (by omega),bz (m:=(gL s out[j]).length) (by omega) C8,W_,acY,acZ,reduceCtorEq,jm];exact Nw.ins ((jO s out[j]).2 _ (aaZ C8))
   .obtain⟨o',i'⟩:=q;dsimp only at o7 hc Nw;subst o7;simp only[cU,W_,acY,acZ,reduceCtorEq,jn];exact⟨hc,hc▸Nw⟩
  .obtain⟨o,i⟩:=q;dsimp only at o7 hc Lm;subst o7;simp only[cU,W_,acY,acZ,reduceCtorEq,jn];exact⟨ag,bz (m:=s.2.2.2.1.length) (by omega) ag,by rw[hc,hJ];rfl,Lm⟩
 .obtain rfl:k=s.2.2.2.1.length:=by omega
  exact hJ
end L
namespace L
def nC(s:jZ):Prop:=s.1.size<=80/\s.2.2.1.length<=14/\s.2.2.2.1.length<=14/\s.2.2.2.2.length<=60/\(∀f∈s.2.2.1,f.1.size<=80)/\(∀f∈s.2.2.2.1,f.1.size<=80)/\∀r∈s.2.2.2.2,r.1.size<=80/\r.2.2.2.2.2.2.2.size<=80/\r.2.2.2.2.2.1.length<=50/\r.2.2.2.2.2.2.1.length<=50
def kR(l:Lw):Prop:=l.1.length<=9/\l.2.1.length<=9/\l.2.2.length<=5/\(∀e∈l.1,e.1.size<=80/\e.2.length<=20/\∀m∈e.2,m.size<=80)/\(∀t∈l.2.1,t.1.size<=80)/\∀s∈l.2.2,nC s
theorem o8{α:Type}{l:List α}{p:α->Prop}(h:∀j,j<l.length->∀h:j<l.length,p l[j]):∀x∈l,p x:=λx hx=>by
 obtain⟨j,hj,rfl⟩:=abD hx;exact h j hj hj
theorem E3(s:jZ)(hw:WF aV s):Wp (M.gP aW s) λr=>r=acQ->nC s:=by
 have w1:=hw.2.2.1.1;have w2:=hw.2.2.2.1.1;have w3:=hw.2.2.2.2.1;unfold maxLen at w1 w2 w3;unfold M.gP;simp only[W_,acY,acZ,reduceCtorEq]
 refine λh1 h2 h3 h4=>?_
 refine Wp.count (λs=>s) s.2.2.1.length (λk _=>∀j,j<k->∀h:j<s.2.2.1.length,(s.2.2.1[j].1:ByteArray).size<=80) w1 rfl (λj hj=>by omega) λk c hk hs hA=>?_
 obtain rfl:c=_:=hs;simp only[W_,acY,acZ,reduceCtorEq,av,ao];refine⟨λag=>?_,λhge=>?_⟩
 .have ag:k<s.2.2.1.length:=by omega
  simp only[ai ag,bz w1 ag,W_,acY,acZ,reduceCtorEq]
  exact λh=>⟨ag,aH hA λ_=>by omega⟩
 have hA:=λj(hj:j<s.2.2.1.length)=>hA j (by omega)
 refine Wp.count (λs=>s) s.2.2.2.1.length (λk _=>∀j,j<k->∀h:j<s.2.2.2.1.length,(s.2.2.2.1[j].1:ByteArray).size<=80) w2 rfl (λj hj=>by omega) λk c hk hs hB=>?_
 obtain rfl:c=_:=hs;simp only[W_,acY,acZ,reduceCtorEq,av,ao];refine⟨λag=>?_,λhge=>?_⟩
 .have ag:k<s.2.2.2.1.length:=by omega
  simp only[ai ag,bz w2 ag,W_,acY,acZ,reduceCtorEq]
  exact λh=>⟨ag,aH hB λ_=>by omega⟩
 have hB:=λj(hj:j<s.2.2.2.1.length)=>hB j (by omega)
 refine Wp.count (λs=>s) s.2.2.2.2.length (λk _=>∀j,j<k->∀h:j<s.2.2.2.2.length,(s.2.2.2.2[j].1:ByteArray).size<=80/\(s.2.2.2.2[j].2.2.2.2.2.2.2:ByteArray).size<=80/\s.2.2.2.2[j].2.2.2.2.2.1.length<=50/\s.2.2.2.2[j].2.2.2.2.2.2.1.length<=50) w3 rfl (λj hj=>by omega) λk c hk hs hC=>?_
 obtain rfl:c=_:=hs;simp only[W_,acY,acZ,reduceCtorEq,av,ao];refine⟨λag=>?_,λhge=>?_⟩
 .have ag:k<s.2.2.2.2.length:=by omega
  simp only[ai ag,bz w3 ag,W_,acY,acZ,reduceCtorEq]
  exact λh1 h2 h3 h4=>⟨ag,aH hC λ_=>⟨by omega,by omega,by omega,by omega⟩⟩
 exact⟨by omega,by omega,by omega,by omega,o8 hA,o8 hB,o8 λj hj=>hC j (by omega)⟩
theorem E4(l:Lw)(hw:WF cC l):Wp (M.ju aW l) λr=>r=acQ->kR l:=by
 have w1:=hw.1.1;have w2:=hw.2.1.1;have w3:=hw.2.2.1;unfold maxLen at w1 w2 w3;unfold M.ju;simp only[W_,acY,acZ,reduceCtorEq]
 refine λh1 h2 h3=>?_
 refine Wp.count (λs=>s) l.1.length (λk _=>∀j,j<k->∀h:j<l.1.length,(l.1[j].1:ByteArray).size<=80/\l.1[j].2.length<=20/\∀m∈l.1[j].2,ByteArray.size m<=80) w1 rfl (λj hj=>by omega) λk c hk hs hA=>?_
 obtain rfl:c=_:=hs;simp only[W_,acY,acZ,reduceCtorEq,av,ao];refine⟨λag=>?_,λhge=>?_⟩
 .have ag:k<l.1.length:=by omega
  simp only[ai ag,bz w1 ag,W_,acY,acZ,reduceCtorEq]
  refine λg1 g2=>?_
  refine Wp.count (λs=>s) l.1[k].2.length (λi _=>∀j,j<i->∀h:j<l.1[k].2.length,ByteArray.size l.1[k].2[j]<=80) (by omega) rfl (λj hj=>by omega) λi c hi hs hB=>?_
  obtain rfl:c=_:=hs;simp only[W_,acY,acZ,reduceCtorEq,av,ao];refine⟨λrE=>?_,λrE=>⟨ag,aH hA λ_=>⟨by omega,by omega,o8 λj hj=>hB j (by omega)⟩⟩⟩
  have rE:i<l.1[k].2.length:=by omega
  simp only[ai rE,bz (m:=l.1[k].2.length) (by omega) rE,W_,acY,acZ,reduceCtorEq]
  exact λh=>⟨rE,aH hB λ_=>by omega⟩
 have hA:=λj(hj:j<l.1.length)=>hA j (by omega)
 refine Wp.count (λs=>s.2) l.2.1.length (λk _=>∀j,j<k->∀h:j<l.2.1.length,(l.2.1[j].1:ByteArray).size<=80) w2 rfl (λj hj=>by omega) λk c hk hs hB=>?_
 obtain⟨c1,c2⟩:=c;dsimp only at hs;subst hs;simp only[W_,acY,acZ,reduceCtorEq,av,ao];refine⟨λag=>?_,λhge=>?_⟩
 .have ag:k<l.2.1.length:=by omega
  simp only[ai ag,bz w2 ag,W_,acY,acZ,reduceCtorEq]
  exact λh _=>⟨ag,aH hB λ_=>by omega⟩
 have hB:=λj(hj:j<l.2.1.length)=>hB j (by omega)
 refine Wp.count (λs=>s.2) l.2.2.length (λk _=>∀j,j<k->∀h:j<l.2.2.length,nC l.2.2[j]) w3 rfl (λj hj=>by omega) λk c hk hs hC=>?_
 obtain⟨c1,c2⟩:=c;dsimp only at hs;subst hs;simp only[W_,acY,acZ,reduceCtorEq,av,ao];refine⟨λag=>?_,λhge=>?_⟩
 .have ag:k<l.2.2.length:=by omega
  simp only[ai ag,bz w3 ag,W_,acY,acZ,reduceCtorEq]
  refine λh=>(E3 _ (hw.2.2.2 _ (aaZ ag))).mono λr hr Cf=>⟨ag,aH hC λ_=>hr Cf⟩
 exact⟨by omega,by omega,by omega,o8 hA,o8 hB,o8 λj hj=>hC j (by omega)⟩
theorem nC.Zp{s:jZ}(h:nC s):UH s:=⟨by have:=h.2.2.1;omega,by have:=h.2.2.2.1;omega,λr hr=>by
 have:=h.2.2.2.2.2.2 r hr
 omega⟩
abbrev LE:Type:=al.den
def BK:LE:=((0:Int),((0:Int),((0:Int),(0:Int))))
def jb(sec:Int)(k:Int):Option (Int×Int)->LE
 |none=>BK
 |some (c,e)=>(c,(sec,(k,e)))
noncomputable def xh(ms:List ByteArray)(i:Nat):Option (Int×Int):=match ms[i]? with
 |none=>acP
 |some m=>if fQ m=acR then some (2,100+(i:Int))else if m∈ms.take i then some (7,100+(i:Int))else acP
noncomputable def kS(l:Lw)(k:Nat):Option (Int×Int):=match l.1[k]? with
 |none=>acP
 |some x=>if fQ x.1=acR then some (2,0)else if cJ (l.1.take k) x.1 then some (7,0)else if x.2.length=0 then some (5,0)else if 16<x.2.length then some (4,116)else bI (xh x.2) x.2.length
theorem jD{k:Nat}{a:Int}(h:k<=100000)(ha:0<=a/\a<=1000):aaV.wrap (a+(k:Int))=a+(k:Int):=dj (by omega) (by omega)
theorem Zq(l:Lw)(hw:WF cC l)(k:Nat)(nm:ByteArray):Wp (M.cH aW l 1 (k:Int) nm) λr=>r=acQ↔cJ (l.1.take k) nm:=by
 rw[mC l 1 k nm ⟨hw.1.1,hw.2.1.1,hw.2.2.1⟩];refine .some ?_;rw[decide_eq_true_iff,jo];constructor
 .rintro(⟨j,hj,h,g⟩|⟨j,hj,h,g⟩|⟨j,hj,h,g⟩)
  .exact⟨j,hj,by omega,g⟩
  .omega
  .omega
 .rintro⟨j,hj,h,g⟩
  exact .inl ⟨j,hj, .inr h,g⟩
theorem Zr(l:Lw)(hw:WF cC l)(k:Nat)(nm:ByteArray):Wp (M.cH aW l 2 (k:Int) nm) λr=>r=acQ↔cJ l.1 nm\/cJ (l.2.1.take k) nm:=by
 rw[mC l 2 k nm ⟨hw.1.1,hw.2.1.1,hw.2.2.1⟩];refine .some ?_;rw[decide_eq_true_iff,jo,sy];constructor
 .rintro(⟨j,hj,h,g⟩|⟨j,hj,h,g⟩|⟨j,hj,h,g⟩)
  .exact .inl ⟨j,hj,g⟩
  .exact .inr ⟨j,hj,by omega,g⟩
  .omega
 .rintro(⟨j,hj,g⟩|⟨j,hj,h,g⟩)
  .exact .inl ⟨j,hj, .inl (by omega),g⟩
  .exact .inr (.inl ⟨j,hj, .inr ⟨rfl,h⟩,g⟩)
theorem Zs(l:Lw)(hw:WF cC l)(k:Nat)(nm:ByteArray):Wp (M.cH aW l 3 (k:Int) nm) λr=>r=acQ↔cJ l.1 nm\/cJ l.2.1 nm\/cJ (l.2.2.take k) nm:=by
 rw[mC l 3 k nm ⟨hw.1.1,hw.2.1.1,hw.2.2.1⟩];refine .some ?_;rw[decide_eq_true_iff,jo,sy,sy];constructor
 .rintro(⟨j,hj,h,g⟩|⟨j,hj,h,g⟩|⟨j,hj,h,g⟩)
  .exact .inl ⟨j,hj,g⟩
  .exact .inr (.inl ⟨j,hj,g⟩)
  .exact .inr (.inr ⟨j,hj,h.2,g⟩)
 .rintro(⟨j,hj,g⟩|⟨j,hj,g⟩|⟨j,hj,h,g⟩)
  .exact .inl ⟨j,hj, .inl (by omega),g⟩
  .exact .inr (.inl ⟨j,hj, .inl (by omega),g⟩)
  .exact .inr (.inr ⟨j,hj,⟨rfl,h⟩,g⟩)
theorem UJ{b:Bool}{P:Prop}(h:b=acQ↔P):(b=acR↔¬P):=by rw[<-h];cases b<;>simp
theorem HY(l:Lw)(hw:WF cC l)(k:Nat)(hk:k<l.1.length):M.gT aW l (k:Int)=some (jb 1 k (kS l k)):=by
 apply Wp.eq;unfold M.gT;simp only[ai hk,pY,W_,acY,acZ,reduceCtorEq]
 have hE:kS l k=if fQ l.1[k].1=acR then some (2,0)else if cJ (l.1.take k) l.1[k].1 then some (7,0)else if l.1[k].2.length=0 then some (5,0)else if 16<l.1[k].2.length then some (4,116)else bI (xh l.1[k].2) l.1[k].2.length:=by
  unfold kS;rw[aaW hk]
 rw[hE];refine⟨λh=>by rw[acU h];rfl,λh1=>?_⟩;rw[acT (by simp[h1])]
 refine(Zq l hw k l.1[k].1).mono λr hr=>?_
 refine⟨λh=>by rw[acU (hr.1 h)];rfl,λh2=>?_⟩;rw[acT ((UJ hr).1 (by simpa using h2))];refine⟨λh=>by rw[acU (by omega)];rfl,λh3=>?_⟩;rw[acT (by omega)];refine⟨λh=>by rw[acU (by omega)];rfl,λh4=>?_⟩;rw[acT (by omega)]
 refine Wp.count (λs=>s.1) l.1[k].2.length (λi s=>(∀j,j<i->xh l.1[k].2 j=acP)/\s.2.2.1=(1:Int)/\s.2.2.2.1=(k:Int)) (by omega) rfl ⟨λj hj=>by omega,rfl,rfl⟩ λi s hi hs hJ=>?_
 obtain⟨c,s1,s2,s3,s4⟩:=s;dsimp only at hs hJ;subst hs;obtain⟨hJ,g2,g3⟩:=hJ;subst g2 g3;simp only[W_,acY,acZ,reduceCtorEq,av,ao];refine⟨λag=>?_,λhge=>?_⟩
 .have ag:i<l.1[k].2.length:=by omega
  have hf:xh l.1[k].2 i=if fQ l.1[k].2[i]=acR then some (2,100+(i:Int))else if l.1[k].2[i]∈l.1[k].2.take i then some (7,100+(i:Int))else acP:=by
   unfold xh;rw[aaW ag]
  simp only[ai ag,jD (k:=i) (a:=100) (by omega) (by omega),bz (m:=l.1[k].2.length) (by omega) ag,W_,acY,acZ,reduceCtorEq];refine⟨λh=>?_,λh=>?_⟩
  .rw[bE (hf.trans (acU h)) hJ ag];rfl
  rw[acT (by simp[h])]at hf
  refine Wp.count (λs=>s) i (λj _=>∀q,q<j->∀h:q<l.1[k].2.length,¬l.1[k].2[q]=l.1[k].2[i]) (by omega) rfl (λj hj=>by omega) λj c hj hs hI=>?_
  obtain rfl:c=_:=hs;simp only[W_,acY,acZ,reduceCtorEq,av,ao];refine⟨λQv=>?_,λQv=>⟨ag,aH hJ ?_⟩⟩
  .have qD:j<l.1[k].2.length:=by omega
   simp only[ai qD,bz (m:=i) (by omega) (show j<i by omega),W_,acY,acZ,reduceCtorEq];refine⟨λhc=>?_,λhc=>⟨by omega,aH hI λ_=>hc⟩⟩;rw[bE (hf.trans (acU (List.mem_take_iff_getElem.2 ⟨j,by omega,hc⟩))) hJ ag];rfl
  .rw[hf,acT];intro hm;obtain⟨q,hq,e⟩:=List.mem_take_iff_getElem.1 hm;exact hI q (by omega) (by omega) e
 .rw[aP.2 λj hj=>hJ j (by omega)];rfl
end L
namespace L
theorem Kg{t:HP}{E:List En}{k:Nat}{x:Int×Int}(h:o6 t E k=some x):x.1=k/\(x.2=3\/x.2=11):=by
 unfold o6 at h;split at h
 .cases h
 split at h
 .cases h;exact⟨rfl, .inl rfl⟩
 split at h
 .cases h;exact⟨rfl, .inr rfl⟩
 .cases h
theorem Kh(t:HP)(E:List En): -1<=(kc t E).1/\(kc t E).1<=64:=by
 unfold kc;split
 .exact⟨by decide,by decide⟩
 split
 .exact⟨by decide,by decide⟩
 cases h:bI (o6 t E) t.2.2.2.length with
 |none=>exact⟨by decide,by decide⟩
 |some x=>
  obtain⟨k,hk,hx,_⟩:=dU h;have:=(Kg hx).1
  show-1<=x.1/\x.1<=64
  omega
noncomputable def nD(l:Lw)(k:Nat):Option (Int×Int):=match l.2.1[k]? with
 |none=>acP
 |some x=>if fQ x.1=acR then some (2,0)else if cJ l.1 x.1\/cJ (l.2.1.take k) x.1 then some (7,0)else if(kc x l.1).2=0 then acP else some ((kc x l.1).2,if 0<=(kc x l.1).1 then 100+(kc x l.1).1 else 0)
theorem Ki(l:Lw)(hw:WF cC l)(k:Nat)(hk:k<l.2.1.length):M.gh aW l (k:Int)=some (jb 2 k (nD l k)):=by
 apply Wp.eq;unfold M.gh;simp only[ai hk,pY,Kd,W_,acY,acZ,reduceCtorEq]
 have hE:nD l k=if fQ l.2.1[k].1=acR then some (2,0)else if cJ l.1 l.2.1[k].1\/cJ (l.2.1.take k) l.2.1[k].1 then some (7,0)else if(kc l.2.1[k] l.1).2=0 then acP else some ((kc l.2.1[k] l.1).2,if 0<=(kc l.2.1[k] l.1).1 then 100+(kc l.2.1[k] l.1).1 else 0):=by
  unfold nD;rw[aaW hk]
 rw[hE];refine⟨λh=>by rw[acU h];rfl,λh1=>?_⟩;rw[acT (by simp[h1])]
 refine(Zr l hw k l.2.1[k].1).mono λr hr=>?_
 refine⟨λh=>by rw[acU (hr.1 h)];rfl,λh2=>?_⟩;rw[acT ((UJ hr).1 (by simpa using h2))];have hle:=Kh l.2.1[k] l.1;refine⟨λh=>by rw[acU h];rfl,λh3=>?_⟩;rw[acT h3];refine⟨λh=>?_,λh=>?_⟩
 .rw[acU h,dj (by omega) (by omega)];rfl
 .rw[acT h];rfl
noncomputable def uI(l:Lw)(x:jZ)(i:Nat):Option (Int×Int):=match x.2.2.1[i]? with
 |none=>acP
 |some f=>if fQ f.1=acR then some (2,100+(i:Int))else if cJ (x.2.2.1.take i) f.1 then some (7,100+(i:Int))else if¬kP f.2 l.1.length then some (8,100+(i:Int))else acP
noncomputable def uJ(l:Lw)(x:jZ)(i:Nat):Option (Int×Int):=match x.2.2.2.1[i]? with
 |none=>acP
 |some f=>if fQ f.1=acR then some (2,200+(i:Int))else if cJ x.2.2.1 f.1\/cJ (x.2.2.2.1.take i) f.1 then some (7,200+(i:Int))else if¬kP f.2 l.1.length then some (8,200+(i:Int))else acP
noncomputable def o9(l:Lw)(x:jZ):Option (Int×Int):=(bI (uI l x) x.2.2.1.length).or (bI (uJ l x) x.2.2.2.1.length)
theorem Kj(l:Lw)(k:Nat)(hk:k<l.2.2.length)(h1:l.2.2[k].2.2.1.length<=12)(h2:l.2.2[k].2.2.2.1.length<=12):M.eF aW l (k:Int)=some (jb 3 k (o9 l l.2.2[k])):=by
 obtain⟨x,hx⟩:∃x,x=l.2.2[k]:=⟨_,rfl⟩
 rw[<-hx]at h1 h2⊢;apply Wp.eq;unfold M.eF;simp only[ai hk,<-hx,pY,bp,W_,acY,acZ,reduceCtorEq]
 refine Wp.count (λs=>s) x.2.2.1.length (λi _=>∀j,j<i->uI l x j=acP) (by omega) rfl (λj hj=>by omega) λi c hi hs hJ=>?_
 obtain rfl:c=_:=hs;simp only[W_,acY,acZ,reduceCtorEq,av,ao];refine⟨λag=>?_,λhge=>?_⟩
 .have ag:i<x.2.2.1.length:=by omega
  have hf:uI l x i=if fQ x.2.2.1[i].1=acR then some (2,100+(i:Int))else if cJ (x.2.2.1.take i) x.2.2.1[i].1 then some (7,100+(i:Int))else if¬kP x.2.2.1[i].2 l.1.length then some (8,100+(i:Int))else acP:=by
   unfold uI;rw[aaW ag]
  simp only[ai ag,nz x.2.2.1 i _ (by unfold maxLen;omega),jD (k:=i) (a:=100) (by omega) (by omega),bz (m:=x.2.2.1.length) (by omega) ag,W_,acY,acZ,reduceCtorEq]
  have BL:∀c:Int,c≠0->uI l x i=some (c,100+(i:Int))->(¬c=0->(c,(3:Int),(k:Int),100+(i:Int))=jb 3 (k:Int) (o9 l x))/\(c=0->i<x.2.2.1.length/\∀j,j<i+1->uI l x j=acP):=λc h0 h=>⟨λ_=>by
   unfold o9
   rw[bE h hJ ag];rfl,λh=>absurd h h0⟩
  refine⟨λh=>?_,λh=>⟨λh'=>?_,λh'=>⟨λHZ=>?_,λHZ=>?_⟩⟩⟩
  .exact BL 2 (by decide) (hf.trans (acU h))
  .exact BL 7 (by decide) (by rw[hf,acT (by simp[h]),acU h'])
  .exact BL 8 (by decide) (by rw[hf,acT (by simp[h]),acT h',acU HZ])
  .exact⟨ag,aH hJ (by rw[hf,acT (by simp[h]),acT h',acT (λg=>g HZ)])⟩
 have hJ:=aP.2 λj(hj:j<x.2.2.1.length)=>hJ j (by omega)
 refine Wp.count (λs=>s) x.2.2.2.1.length (λi _=>∀j,j<i->uJ l x j=acP) (by omega) rfl (λj hj=>by omega) λi c hi hs hI=>?_
 obtain rfl:c=_:=hs;simp only[W_,acY,acZ,reduceCtorEq,av,ao];refine⟨λag=>?_,λhge=>?_⟩
 .have ag:i<x.2.2.2.1.length:=by omega
  have hf:uJ l x i=if fQ x.2.2.2.1[i].1=acR then some (2,200+(i:Int))else if cJ x.2.2.1 x.2.2.2.1[i].1\/cJ (x.2.2.2.1.take i) x.2.2.2.1[i].1 then some (7,200+(i:Int))else if¬kP x.2.2.2.1[i].2 l.1.length then some (8,200+(i:Int))else acP:=by
   unfold uJ;rw[aaW ag]
  simp only[ai ag,nz x.2.2.2.1 i _ (by unfold maxLen;omega),nz x.2.2.1 x.2.2.1.length _ (by unfold maxLen;omega),abg,jD (k:=i) (a:=200) (by omega) (by omega),bz (m:=x.2.2.2.1.length) (by omega) ag,W_,acY,acZ,reduceCtorEq]
  have BL:∀c:Int,c≠0->uJ l x i=some (c,200+(i:Int))->(¬c=0->(c,(3:Int),(k:Int),200+(i:Int))=jb 3 (k:Int) (o9 l x))/\(c=0->i<x.2.2.2.1.length/\∀j,j<i+1->uJ l x j=acP):=λc h0 h=>⟨λ_=>by
   unfold o9
   rw[hJ,bE h hI ag];rfl,λh=>absurd h h0⟩
  refine⟨λh=>BL 2 (by decide) (hf.trans (acU h)),λh=>⟨λh'=>?_,λh'=>⟨λHZ=>?_,λHZ=>⟨λh3=>?_,λh3=>?_⟩⟩⟩⟩
  .exact BL 7 (by decide) (by rw[hf,acT (by simp[h]),acU (.inl h')])
  .exact BL 7 (by decide) (by rw[hf,acT (by simp[h]),acU (.inr HZ)])
  .exact BL 8 (by decide) (by rw[hf,acT (by simp[h]),acT (λg=>g.elim h' HZ),acU h3])
  .exact⟨ag,aH hI (by rw[hf,acT (by simp[h]),acT (λg=>g.elim h' HZ),acT (λg=>g h3)])⟩
 unfold o9;rw[hJ,aP.2 λj hj=>hI j (by omega)];rfl
def plain(s:ByteArray):Prop:=(∀i,∀h:i<s.size,32<=(s[i].toNat:Int)/\(s[i].toNat:Int)<=126/\(s[i].toNat:Int)≠34)/\s.size<=64
noncomputable instance(s:ByteArray):Decidable (plain s):=abF _
theorem Ia(s:ByteArray)(hs:s.size<=100000):M.fe aW s=some (decide (plain s)):=by
 apply Wp.eq;unfold M.fe
 refine Wp.count (λs=>s) s.size (λi _=>∀j,j<i->∀h:j<s.size,32<=(s[j].toNat:Int)/\(s[j].toNat:Int)<=126/\(s[j].toNat:Int)≠34) (by omega) rfl (λj hj=>by omega) λi c hi hs hJ=>?_
 obtain rfl:c=_:=hs;simp only[W_,acY,acZ,reduceCtorEq,av,ao];refine⟨λag=>?_,λhge=>?_⟩
 .have ag:i<s.size:=by omega
  have hb:iZ s (i:Int)=some (s[i].toNat:Int):=HO.1 (lk.2 ⟨by omega,rfl⟩);simp only[hb,bz (m:=s.size) (by omega) ag,W_,acY,acZ,reduceCtorEq]
  have no:¬(32<=(s[i].toNat:Int)/\(s[i].toNat:Int)<=126/\(s[i].toNat:Int)≠34)->¬plain s:=λh g=>h (g.1 i ag)
  exact⟨λh=>no (by omega),λh=>⟨λh'=>no (by omega),λh'=>⟨λh2=>no (by omega),λh2=>⟨ag,aH hJ λ_=>⟨by omega,by omega,h2⟩⟩⟩⟩⟩
 .refine⟨λh=>⟨λj hj=>hJ j (by omega) hj,by omega⟩,λh=>?_⟩;have:=h.2;omega
theorem tQ(f:List Fd)(hf:f.length<=100000):M.dz aW f=some (f.map (·.2)):=by
 apply Wp.eq;unfold M.dz
 refine Wp.fold (λs=>s.1) (λs=>s.2) f (λ(o:List Ty)x=>o++[x.2]) [] (λk c=>c.length<=k) (by omega) rfl rfl (aaX _) (λk s ag hs hI=>?_) λs hs hc hI=>?_
 .obtain⟨i,o⟩:=s;dsimp only at hs hI;subst hs;simp only[nw ag,ai ag,bz (m:=f.length) (by omega) ag,W_,acY,acZ,reduceCtorEq,jm];exact gF.2 ⟨by simp;omega,rfl,by simp;omega⟩
 .obtain⟨i,o⟩:=s;dsimp only at hs hc;subst hs;simp only[cU,W_,acY,acZ,reduceCtorEq,jn];rw[hc]
  have:∀(f:List Fd)(o:List Ty),f.foldl (λ(o:List Ty)x=>o++[x.2]) o=o++f.map (·.2):=by
   intro f
   induction f with
   |nil=>intro o;simp
   |cons x f ih=>intro o;rw[abN,ih];simp
  rw[this];rfl
def dD(l:Lw)(x:jZ):pu:=(l.1,(l.2.1,(x.2.2.1.map (·.2),(x.2.2.2.1.map (·.2),(match l.2.2[(x.2.1:Int).toNat]? with
 |some y=>if 0<=(x.2.1:Int)then y.2.2.2.1.map (·.2)else[]
 |none=>[],decide (0<=(x.2.1:Int)/\(x.2.1:Int)<(l.2.2.length:Int)))))))
theorem C9(l:Lw)(k:Nat)(hk:k<l.2.2.length)(hs:∀s∈l.2.2,s.2.2.1.length<=100000/\s.2.2.2.1.length<=100000):M.dO aW l (k:Int)=some ((dD l l.2.2[k]).1,(dD l l.2.2[k]).2.1,(dD l l.2.2[k]).2.2.2.2.2,(dD l l.2.2[k]).2.2.1,(dD l l.2.2[k]).2.2.2.1,(dD l l.2.2[k]).2.2.2.2.1):=by
 apply Wp.eq;unfold M.dO;have h1:=hs _ (aaZ hk);simp only[show¬(k:Int)<0 by omega,show¬(l.2.2.length:Int)<=(k:Int) by omega,ai hk,tQ _ h1.1,tQ _ h1.2,W_,acY,acZ,reduceCtorEq];unfold dD;generalize l.2.2[k]=x at*;obtain⟨x1,(x2:Int),x3,x4,x5⟩:=x;dsimp only[ae,Row.den]at*;refine⟨λh=>⟨λh'=>?_,λh'=>?_⟩,λh=>?_⟩
 .refine cT.2 ⟨by omega,?_⟩
  have hi:x2.toNat<l.2.2.length:=by omega
  simp only[tQ _ (hs _ (aaZ hi)).2,W_,acY,acZ,reduceCtorEq,aaW hi,h,h',if_true]
 .rw[List.getElem?_eq_none (by omega)];simp only[h',W_,acY,acZ,reduceCtorEq]
 .simp only[h,W_,acY,acZ,reduceCtorEq]
  split<;>rfl
end L
namespace L
noncomputable def nE(e:List Ty)(s:pu)(want:Ty):Int:=if(E2 e s).2.2≠0 then(E2 e s).2.2 else if(E2 e s).1≠want then 8 else 0
theorem Da{e:List Ty}{s:pu}(want:Ty)(hw:∀n∈e,WF aa n):M.cR aW e s want=some (nE e s want):=by
 apply Wp.eq;unfold M.cR;simp only[MH hw,E1,W_,acY,acZ,reduceCtorEq];unfold nE;refine⟨λh=>by rw[acU h],λh=>?_⟩;rw[acT (λg=>g h)];exact⟨λh=>by rw[acU h],λh=>by rw[acT (λg=>g h)]⟩
def uK(x:jZ)(k:Nat)(d:Int):Nat:=(x.2.2.2.2.take k).countP λr=>decide ((r.2.1:Int)=d)
def nF(x:jZ)(k:Nat)(r:iv):Prop:=(r.2.2.1:Int)≠-1/\((r.2.2.1:Int)<0\/(k:Int)<=r.2.2.1\/∃y,x.2.2.2.2[(r.2.2.1:Int).toNat]? =some y/\(y.2.1:Int)≠r.2.1)
noncomputable instance(x:jZ)(k:Nat)(r:iv):Decidable (nF x k r):=abF _
noncomputable def p3(l:Lw)(x:jZ)(k:Nat)(r:iv):Int:=
 if fQ r.1=acR then 2 else if cJ (x.2.2.2.2.take k) r.1 then 7 else if¬(0<=(r.2.1:Int)/\(r.2.1:Int)<(x.2.2.2.1.length:Int))then 6 else if nF x k r then 9 else
 if(r.2.2.2.1:Int)<0\/9<(r.2.2.2.1:Int)\/¬VR r.2.2.2.2.1\/(r.2.2.2.2.1.1:Int)=r.2.2.2.2.1.2 then 3 else if 8<=uK x k r.2.1 then 4 else if¬plain r.2.2.2.2.2.2.2 then 2 else
 if 0<r.2.2.2.2.2.1.length/\nE r.2.2.2.2.2.1 (dD l x) ((1:Int),(0:Int))≠0 then nE r.2.2.2.2.2.1 (dD l x) ((1:Int),(0:Int))else
 match x.2.2.2.1[(r.2.1:Int).toNat]? with
 |some d=>nE r.2.2.2.2.2.2.1 (dD l x) d.2
 |none=>0
theorem Kl(l:Lw)(hw:WF cC l)(mS:kR l)(i:Nat)(hi:i<l.2.2.length)(k:Nat)(hk:k<l.2.2[i].2.2.2.2.length):M.ff aW l (i:Int) (k:Int)=some (p3 l l.2.2[i] k l.2.2[i].2.2.2.2[k]):=by
 have Ib:=C9 l i hi λs hs=>⟨by have:=(mS.2.2.2.2.2 s hs).2.1;omega,by have:=(mS.2.2.2.2.2 s hs).2.2.1;omega⟩
 have qn:=mS.2.2.2.2.2 _ (aaZ hi);have Nx:=hw.2.2.2 _ (aaZ hi)
 obtain⟨x,hx⟩:∃x,x=l.2.2[i]:=⟨_,rfl⟩
 simp only[<-hx]at hk Ib qn Nx⊢;have Km:=Nx.2.2.2.2.2 _ (aaZ hk);have FJ:=qn.2.2.2.2.2.2 _ (aaZ hk)
 obtain⟨r,hr⟩:∃r,r=x.2.2.2.2[k]:=⟨_,rfl⟩
 have QD:=qn.2.2.2.1;apply Wp.eq;unfold M.ff;simp only[ai hi,<-hx,ai hk,<-hr,pY,C3,W_,acY,acZ,reduceCtorEq];simp only[<-hr]at Km FJ;unfold p3;refine⟨λh=>by rw[acU h],λh1=>?_⟩;rw[acT (c:=fQ r.1=acR) (by simp[h1])]
 refine Wp.count (λs=>s.2) k (λj s=>(∀q,q<j->∀h:q<x.2.2.2.2.length,¬(x.2.2.2.2[q].1:ByteArray)=r.1)/\s.1=(((x.2.2.2.2.take j).countP λr'=>decide ((r'.2.1:Int)=r.2.1):Nat):Int)) (by omega) rfl ⟨λj hj=>by omega,rfl⟩ λj s hj hs hJ=>?_
 obtain⟨sb,c⟩:=s;dsimp only at hs hJ;subst hs;obtain⟨hJ,Jc⟩:=hJ;have Bx:(x.2.2.2.2.take j).countP (λr'=>decide ((r'.2.1:Int)=r.2.1))<=60:=abi List.countP_le_length (by rw[abb];omega);simp only[W_,acY,acZ,reduceCtorEq,av,ao];refine⟨λNv=>?_,λNv=>?_⟩
 .have qD:j<x.2.2.2.2.length:=by omega
  simp only[ai qD,bz (m:=k) (by omega) (show j<k by omega),W_,acY,acZ,reduceCtorEq];refine⟨λh=>?_,λh=>?_⟩
  .rw[acU (jo.2 ⟨j,qD,by omega,h⟩)]
  have Kn:(x.2.2.2.2.take (j+1)).countP (λr'=>decide ((r'.2.1:Int)=r.2.1))=(x.2.2.2.2.take j).countP (λr'=>decide ((r'.2.1:Int)=r.2.1))+if(x.2.2.2.2[j].2.1:Int)=r.2.1 then 1 else 0:=by
   rw[<-abq qD,List.countP_append];simp[List.countP_cons]
  refine⟨λh'=>⟨by omega,aH hJ λ_=>h,?_⟩,λh'=>⟨by omega,aH hJ λ_=>h,?_⟩⟩
  .rw[Kn,acU h',Jc,dj (by omega) (by omega)];rfl
  .rw[Kn,acT h',Jc];rfl
 obtain rfl:j=k:=by omega
 rw[acT (c:=cJ (x.2.2.2.2.take j) r.1) (λh=>by obtain⟨q,hq,Jz,e⟩:=jo.1 h;exact hJ q Jz hq e)];clear hJ;have Bx:uK x j r.2.1<=60:=Bx;have Jc:sb=(uK x j r.2.1:Int):=Jc;clear hk hr Nv hj;generalize uK x j r.2.1=q at*;subst Jc;have jc:=FJ.2.1;have hg:=Km.2.2.2.2.2.1.2;have hv:=Km.2.2.2.2.2.2.1.2;have E5:nF x j r↔(r.2.2.1:Int)≠-1/\((r.2.2.1:Int)<0\/(j:Int)<=r.2.2.1\/∃y,x.2.2.2.2[(r.2.2.1:Int).toNat]? =some y/\(y.2.1:Int)≠r.2.1):=Iff.rfl;clear Km FJ;obtain⟨nm,(d:Int),(p:Int),(pr:Int),v,g,val,src⟩:=r;dsimp only[ae,Row.den]at*
 have rest:0<=d->d<(x.2.2.2.1.length:Int)->Wp (if decide (pr<0)=acQ then some acQ else if decide (9<pr)=acQ then some acQ else if¬VR v then some acQ else some (decide ((v.1:Int)=v.2))) (λoG=>Wp (if oG=acQ then some (3:Int)else if decide ((8:Int)<=(q:Int))=acQ then some 4 else(M.fe aW src).bind λsv=>if(!sv)=acQ then some (2:Int)else(M.dO aW l (i:Int)).bind λmT=>br (J:=Unit) (R:=Int) (if decide (0<(g.length:Int))=acQ then(M.cR aW g (mT.1,(mT.2.1,(mT.2.2.2.1,(mT.2.2.2.2.1,(mT.2.2.2.2.2,mT.2.2.1))))) ((1:Int),(0:Int))).bind λE0=>if(!decide (E0=0))=acQ then some (Sum.inr E0)else some (Sum.inl ())else some (Sum.inl ())) λ_=>(idx x.2.2.2.1 d).bind λCZ=>(M.cR aW val (mT.1,(mT.2.1,(mT.2.2.2.1,(mT.2.2.2.2.1,(mT.2.2.2.2.2,mT.2.2.1))))) CZ.2).bind λJb=>some Jb)
  (· =if pr<0\/9<pr\/¬VR v\/(v.1:Int)=v.2 then 3 else if 8<=q then 4 else if¬plain src then 2 else if 0<g.length/\nE g (dD l x) ((1:Int),(0:Int))≠0 then nE g (dD l x) ((1:Int),(0:Int))else match x.2.2.2.1[d.toNat]? with
    |some d=>nE val (dD l x) d.2
    |none=>0)):=by
  intro hd0 ur
  refine Wp.mono (Q:=λoG=>oG=acQ↔pr<0\/9<pr\/¬VR v\/(v.1:Int)=v.2) (by simp only[W_,acY,acZ,reduceCtorEq];grind) λoG UF=>?_
  by_cases g1:pr<0\/9<pr\/¬VR v\/(v.1:Int)=v.2
  .rw[acU g1,acU (UF.2 g1)];exact .some rfl
  rw[acT g1,acT λh=>g1 (UF.1 h)];by_cases g2:8<=q
  .rw[acU (acW (by omega)),acU g2];exact .some rfl
  rw[acT (by rw[ac1];omega),acT g2,Ia _ (by omega),aaU];by_cases g3:¬plain src
  .rw[acU (by simp[g3]),acU g3];exact .some rfl
  rw[acT (by simpa using g3),acT g3,Ib,aaU]
  have hd:d.toNat<x.2.2.2.1.length:=by omega
  have last:Wp ((idx x.2.2.2.1 d).bind λCZ=>(M.cR aW val (dD l x) CZ.2).bind λJb=>some Jb) (· =match x.2.2.2.1[d.toNat]? with
   |some d=>nE val (dD l x) d.2
   |none=>0):=by
   rw[wp_bind];refine cT.2 ⟨by omega,?_⟩;rw[Da _ hv,aaW hd];exact .some rfl
  rw[sx];by_cases g4:0<g.length
  .rw[acU (by simpa using g4),wp_bind,show((dD l x).1,((dD l x).2.1,((dD l x).2.2.1,((dD l x).2.2.2.1,((dD l x).2.2.2.2.1,(dD l x).2.2.2.2.2)))))=dD l x from rfl,Da _ hg];refine .some ?_;by_cases g5:nE g (dD l x) ((1:Int),(0:Int))=0
   .rw[acT (by simp[g5]),acT (λh=>h.2 g5)];exact .some last
   .rw[acU (by simp[g5]),acU ⟨g4,g5⟩];exact .some rfl
  .rw[acT (by simpa using g4),acT (λh=>g4 h.1)];exact .some last
 simp only[W_,acY,acZ,reduceCtorEq]at rest;refine⟨λh=>by rw[acU (c:=¬(0<=d/\d<(x.2.2.2.1.length:Int))) (by omega)],λh2=>⟨λh=>by rw[acU (c:=¬(0<=d/\d<(x.2.2.2.1.length:Int))) (by omega)],λh3=>?_⟩⟩;rw[acT (c:=¬(0<=d/\d<(x.2.2.2.1.length:Int))) (by omega)];have rest:=rest (by omega) (by omega)
 have VA:j<x.2.2.2.2.length:=by rw[hx];exact hk
 refine⟨λhp=>⟨λh=>by rw[acU (E5.2 ⟨hp, .inl h⟩)],λh=>⟨λh'=>by rw[acU (E5.2 ⟨hp, .inr (.inl h')⟩)],λh'=>cT.2 ⟨⟨by omega,by omega⟩,λh5=>by rw[acU (E5.2 ⟨hp, .inr (.inr ⟨_,aaW (by omega),h5⟩)⟩)],λh5=>?_⟩⟩⟩,λhp=>?_⟩
 .rw[acT (λh=>by
   obtain⟨_,g1|g1|⟨y,g1,g2⟩⟩:=E5.1 h
   .omega
   .omega
   .rw[aaW (by omega)]at g1;cases g1
    exact g2 h5)]
  exact rest
 .rw[acT (λh=>(E5.1 h).1 hp)];exact rest
noncomputable def rV(l:Lw)(x:jZ)(k:Nat):Option (Int×Int):=match x.2.2.2.2[k]? with
 |none=>acP
 |some r=>if p3 l x k r≠0 then some (p3 l x k r,300+(k:Int))else acP
noncomputable def tR(x:jZ)(d:Nat):Option (Int×Int):=if(d:Int)∈xg x d then some (9,200+(d:Int))else acP
def mD(l:Lw)(k:Nat)(x:jZ):Prop:=(x.2.1:Int)≠-1/\((x.2.1:Int)<0\/(k:Int)<=x.2.1\/∃y,l.2.2[(x.2.1:Int).toNat]? =some y/\(y.2.1:Int)≠-1)
noncomputable instance(l:Lw)(k:Nat)(x:jZ):Decidable (mD l k x):=abF _
noncomputable def ox(l:Lw)(k:Nat):Option (Int×Int):=match l.2.2[k]? with
 |none=>acP
 |some x=>
  if fQ x.1=acR then some (2,0)else if cJ l.1 x.1\/cJ l.2.1 x.1\/cJ (l.2.2.take k) x.1 then some (7,0)else if mD l k x then some (6,0)else
  if 12<x.2.2.1.length then some (4,112)else if 12<x.2.2.2.1.length then some (4,212)else((o9 l x).or (bI (rV l x) x.2.2.2.2.length)).or (bI (tR x) x.2.2.2.1.length)
theorem zH{l:Lw}{x:jZ}{e:Int×Int}(h:o9 l x=some e):e.1≠0:=by
 have key:∀(f:Nat->Option (Int×Int)),(∀i e,f i=some e->e.1≠0)->∀{m e},bI f m=some e->e.1≠0:=λf hf m e h=>by
  obtain⟨k,_,h,_⟩:=dU h;exact hf k e h
 unfold o9 at h
 rcases Option.or_eq_some_iff.1 h with h|⟨_,h⟩
 .refine key _ (λi e h=>?_) h;unfold uI at h
  repeat' split at h
  all_goals first|cases h|skip
  all_goals simp
 .refine key _ (λi e h=>?_) h;unfold uJ at h
  repeat' split at h
  all_goals first|cases h|skip
  all_goals simp
theorem Db(x:jZ)(d:Int):oJ x.2.2.2.1.length (xg x d):=by
 have:∀m,oJ x.2.2.2.1.length (gM x m (gL x d)):=λm=>by
  induction m with
  |zero=>exact jO x d
  |succ m ih=>exact ol x ih
 exact this _
theorem Ko(l:Lw)(hw:WF cC l)(mS:kR l)(k:Nat)(hk:k<l.2.2.length):M.gp aW l (k:Int)=some (jb 3 k (ox l k)):=by
 have qn:=mS.2.2.2.2.2 _ (aaZ hk);have PG:=Kl l hw mS k hk;have PH:=Kj l k hk
 have hE:ox l k=if fQ l.2.2[k].1=acR then some (2,0)else if cJ l.1 l.2.2[k].1\/cJ l.2.1 l.2.2[k].1\/cJ (l.2.2.take k) l.2.2[k].1 then some (7,0)else if mD l k l.2.2[k]then some (6,0)else
  if 12<l.2.2[k].2.2.1.length then some (4,112)else if 12<l.2.2[k].2.2.2.1.length then some (4,212)else((o9 l l.2.2[k]).or (bI (rV l l.2.2[k]) l.2.2[k].2.2.2.2.length)).or (bI (tR l.2.2[k]) l.2.2[k].2.2.2.1.length):=by
  unfold ox;rw[aaW hk]
 have UK:=Zs l hw k l.2.2[k].1
 obtain⟨x,hx⟩:∃x,x=l.2.2[k]:=⟨_,rfl⟩
 simp only[<-hx]at qn PG PH hE UK;have h5:=mS.2.2.1;have UL:=qn.2.2.1;have QD:=qn.2.2.2.1;apply Wp.eq;unfold M.gp;simp only[ai hk,<-hx,pY,MJ x qn.Zp,W_,acY,acZ,reduceCtorEq];rw[hE];refine⟨λh=>by rw[acU h];rfl,λh1=>?_⟩;rw[acT (c:=fQ x.1=acR) (by simp[h1])]
 refine UK.mono λr hr=>?_
 refine⟨λh=>by rw[acU (hr.1 h)];rfl,λh2=>?_⟩;rw[acT (c:=cJ l.1 x.1\/cJ l.2.1 x.1\/cJ (l.2.2.take k) x.1) ((UJ hr).1 (by simpa using h2))];clear UK hr h2 r
 have rest:Wp ((if(decide ((12:Int)<(x.2.2.1.length:Int)))=acQ then
  some ((4:Int),((3:Int),((k:Int),(112:Int))))
  else
  (if(decide ((12:Int)<(x.2.2.2.1.length:Int)))=acQ then
  some ((4:Int),((3:Int),((k:Int),(212:Int))))
  else
  (M.eF aW l (k:Int)).bind λy6=>
  (if(!decide (y6.1=(0:Int)))=acQ then
  some y6
  else
  br (J:=Unit) (R:=al.den) (Loop (S:=Int) (X:=(Unit)⊕(al.den)) (λs8=>
  (if(decide (s8<(x.2.2.2.2.length:Int)))=acQ then
  (M.ff aW l (k:Int) s8).bind λy9=>
  (if(!decide (y9=(0:Int)))=acQ then
  some (Sum.inr (Sum.inr (y9,((3:Int),((k:Int),aaV.wrap ((300:Int)+s8))))))
  else
  some (Sum.inl (aaV.wrap (s8+(1:Int)))))
  else
  some (Sum.inr (Sum.inl ())))) aW (0:Int)) λj7=>
  br (J:=Unit) (R:=al.den) (Loop (S:=Int) (X:=(Unit)⊕(al.den)) (λpt=>
  (if(decide (pt<(x.2.2.2.1.length:Int)))=acQ then
  br (J:=Unit) (R:=(Int)⊕((Unit)⊕(al.den))) ((some (xg x pt)).bind λHD=>
  Loop (S:=Int) (X:=(Unit)⊕((Int)⊕((Unit)⊕(al.den)))) (λtJ=>
  (if(decide (tJ<(HD.length:Int)))=acQ then
  (idx HD tJ).bind λAm=>
  (if(decide (Am=pt))=acQ then
  some (Sum.inr (Sum.inr (Sum.inr (Sum.inr ((9:Int),((3:Int),((k:Int),aaV.wrap ((200:Int)+pt))))))))
  else
  some (Sum.inl (aaV.wrap (tJ+(1:Int)))))
  else
  some (Sum.inr (Sum.inl ())))) aW (0:Int)) λoG=>
  some (Sum.inl (aaV.wrap (pt+(1:Int))))
  else
  some (Sum.inr (Sum.inl ())))) aW (0:Int)) λpq=>
  some ((0:Int),((0:Int),((0:Int),(0:Int))))))):Option al.den) (· =jb 3 (k:Int) (if 12<x.2.2.1.length then some (4,112)else if 12<x.2.2.2.1.length then some (4,212)else((o9 l x).or (bI (rV l x) x.2.2.2.2.length)).or (bI (tR x) x.2.2.2.1.length))):=by
  by_cases h3:12<x.2.2.1.length
  .rw[acU h3,acU (acW (by omega))];exact .some rfl
  rw[acT h3,acT (by rw[ac1];omega)];by_cases h4:12<x.2.2.2.1.length
  .rw[acU h4,acU (acW (by omega))];exact .some rfl
  rw[acT h4,acT (by rw[ac1];omega),PH (by omega) (by omega),aaU]
  cases hf:o9 l x with
  |some e=>
   have:=zH hf;rw[acU (by show(!decide (e.1=0))=acQ;simp[this])];exact .some rfl
  |none=>
   rw[acT (by simp[jb,BK]),abT];simp only[W_,acY,acZ,reduceCtorEq]
   refine Wp.count (λs=>s) x.2.2.2.2.length (λi _=>∀j,j<i->rV l x j=acP) (by omega) rfl (λj hj=>by omega) λi c hi hs hJ=>?_
   obtain rfl:c=_:=hs;simp only[W_,acY,acZ,reduceCtorEq,av,ao];refine⟨λag=>?_,λhge=>?_⟩
   .have ag:i<x.2.2.2.2.length:=by omega
    have hr:rV l x i=if p3 l x i x.2.2.2.2[i]≠0 then some (p3 l x i x.2.2.2.2[i],300+(i:Int))else acP:=by
     unfold rV;rw[aaW ag]
    simp only[PG i ag,jD (k:=i) (a:=300) (by omega) (by omega),bz (m:=x.2.2.2.2.length) (by omega) ag,W_,acY,acZ,reduceCtorEq];refine⟨λh=>?_,λh=>⟨ag,aH hJ (by rw[hr,acT (λg=>g h)])⟩⟩;rw[bE (hr.trans (acU h)) hJ ag];rfl
   rw[aP.2 λj hj=>hJ j (by omega),abT];clear hJ
   refine Wp.count (λs=>s) x.2.2.2.1.length (λi _=>∀j,j<i->tR x j=acP) (by omega) rfl (λj hj=>by omega) λi c hi hs hJ=>?_
   obtain rfl:c=_:=hs;simp only[W_,acY,acZ,reduceCtorEq,av,ao];refine⟨λag=>?_,λhge=>?_⟩
   .have ag:i<x.2.2.2.1.length:=by omega
    have hlen:=(Db x i).len
    refine Wp.count (λs=>s) (xg x i).length (λj _=>∀q,q<j->∀h:q<(xg x i).length,¬(xg x i)[q]=(i:Int)) (by omega) rfl (λj hj=>by omega) λj c hj hs hI=>?_
    obtain rfl:c=_:=hs;simp only[W_,acY,acZ,reduceCtorEq,av,ao,jD (k:=i) (a:=200) (by omega) (by omega),bz (m:=x.2.2.2.1.length) (by omega) ag];refine⟨λqD=>?_,λqD=>⟨ag,aH hJ ?_⟩⟩
    .have qD:j<(xg x i).length:=by omega
     simp only[ai qD,bz (m:=(xg x i).length) (by omega) qD,W_,acY,acZ,reduceCtorEq];refine⟨λh=>?_,λh=>⟨qD,aH hI λ_=>h⟩⟩;rw[bE (show tR x i=some (9,200+(i:Int))from acU (List.mem_of_getElem h)) hJ ag];rfl
    .unfold tR;rw[acT];intro hm;obtain⟨q,hq,e⟩:=abD hm;exact hI q (by omega) hq e
   .rw[aP.2 λj hj=>hJ j (by omega)];rfl
 simp only[W_,acY,acZ,reduceCtorEq]at rest;have Dc:mD l k x↔(x.2.1:Int)≠-1/\((x.2.1:Int)<0\/(k:Int)<=x.2.1\/∃y,l.2.2[(x.2.1:Int).toNat]? =some y/\(y.2.1:Int)≠-1):=Iff.rfl;refine⟨λhp=>⟨λh=>by rw[acU (Dc.2 ⟨hp, .inl h⟩)];rfl,λh=>⟨λh'=>by rw[acU (Dc.2 ⟨hp, .inr (.inl h')⟩)];rfl,λh'=>?_⟩⟩,λhp=>?_⟩
 .obtain⟨(m:Int),hm⟩:∃m:Int,m=x.2.1:=⟨_,rfl⟩
  have PI:m.toNat<l.2.2.length:=by dsimp only[ae,Row.den]at*;omega
  refine cT.2 ⟨by dsimp only[ae,Row.den]at*;omega,λh5=>by rw[acU (Dc.2 ⟨hp, .inr (.inr ⟨_,aaW (hm▸PI),h5⟩)⟩)];rfl,λh5=>?_⟩
  rw[acT (λh=>by
   obtain⟨_,g1|g1|⟨y,g1,g2⟩⟩:=Dc.1 h
   .exact absurd g1 ‹_›
   .exact absurd g1 h'
   .rw[aaW (hm▸PI)]at g1;cases g1
    exact g2 h5)]
  exact rest
 .rw[acT (λh=>(Dc.1 h).1 hp)];exact rest
noncomputable def oy(l:Lw):LE:=
 if 8<l.1.length then((4:Int),((1:Int),((8:Int),(0:Int))))else match bI (λk=>(kS l k).map λe=>(k,e)) l.1.length with
 |some (k,e)=>jb 1 (k:Int) (some e)
 |none=>if 8<l.2.1.length then((4:Int),((2:Int),((8:Int),(0:Int))))else match bI (λk=>(nD l k).map λe=>(k,e)) l.2.1.length with
  |some (k,e)=>jb 2 (k:Int) (some e)
  |none=>if 4<l.2.2.length then((4:Int),((3:Int),((4:Int),(0:Int))))else match bI (λk=>(ox l k).map λe=>(k,e)) l.2.2.length with
   |some (k,e)=>jb 3 (k:Int) (some e)
   |none=>BK
theorem pb{f:Nat->Option (Int×Int)}(hf:∀i e,f i=some e->e.1≠0){m:Nat}{e:Int×Int}(h:bI f m=some e):e.1≠0:=by
 obtain⟨k,_,h,_⟩:=dU h;exact hf k e h
theorem om{l:Lw}{k:Nat}{e:Int×Int}(h:kS l k=some e):e.1≠0:=by
 unfold kS at h
 repeat' split at h
 all_goals first|cases h|skip
 all_goals first|simp;done|skip
 refine pb (λi e h=>?_) h;unfold xh at h
 repeat' split at h
 all_goals first|cases h|skip
 all_goals simp
theorem tS{l:Lw}{k:Nat}{e:Int×Int}(h:nD l k=some e):e.1≠0:=by
 unfold nD at h
 repeat' split at h
 all_goals first|cases h|skip
 all_goals first|simp;done|assumption
theorem tT{l:Lw}{k:Nat}{e:Int×Int}(h:ox l k=some e):e.1≠0:=by
 unfold ox at h
 repeat' split at h
 all_goals first|cases h|skip
 all_goals first|simp;done|skip
 rcases Option.or_eq_some_iff.1 h with h|⟨_,h⟩
 .rcases Option.or_eq_some_iff.1 h with h|⟨_,h⟩
  .exact zH h
  .refine pb (λi e h=>?_) h;unfold rV at h
   repeat' split at h
   all_goals first|cases h|skip
   assumption
 .refine pb (λi e h=>?_) h;unfold tR at h
  repeat' split at h
  all_goals first|cases h|skip
  simp
theorem pc{sec k:Int}{o:Option (Int×Int)}(h:∀e,o=some e->e.1≠0):(jb sec k o).1=0↔o=acP:=by
 cases o with
 |none=>exact⟨λ_=>rfl,λ_=>rfl⟩
 |some e=>exact⟨λg=>absurd g (h e rfl),λg=>by cases g⟩
theorem E6{f:Nat->Option (Int×Int)}{k:Nat}{e:Int×Int}(h:f k=some e):(λk=>(f k).map λe=>(k,e)) k=some (k,e):=by simp[h]
theorem Kp{f:Nat->Option (Int×Int)}{k:Nat}(h:f k=acP):(λk=>(f k).map λe=>(k,e)) k=acP:=by simp[h]
theorem Kq(l:Lw)(hw:WF cC l)(mS:kR l):M.iQ aW l=some (oy l):=by
 apply Wp.eq;obtain⟨h9,Zt,h5,_⟩:=mS;unfold M.iQ;simp only[W_,acY,acZ,reduceCtorEq];refine⟨λh=>by unfold oy;rw[acU (by omega)],λh8=>?_⟩
 refine Wp.count (λs=>s) l.1.length (λi _=>∀j,j<i->(λk=>(kS l k).map λe=>(k,e)) j=acP) (by omega) rfl (λj hj=>by omega) λi c hi hs hJ=>?_
 obtain rfl:c=_:=hs;simp only[W_,acY,acZ,reduceCtorEq,av,ao];refine⟨λag=>?_,λhge=>?_⟩
 .have ag:i<l.1.length:=by omega
  simp only[HY l hw i ag,bz (m:=l.1.length) (by omega) ag,W_,acY,acZ,reduceCtorEq,pc λe he=>om he];refine⟨λh=>?_,λh=>⟨ag,aH hJ (Kp h)⟩⟩;obtain⟨e,he⟩:=acI.1 h;unfold oy;rw[acT (by omega),bE (E6 he) hJ ag,he]
 have hA:=aP.2 λj(hj:j<l.1.length)=>hJ j (by omega)
 clear hJ;refine⟨λh=>by unfold oy;rw[acT (by omega),hA];exact(acU (by omega)).symm,λh8'=>?_⟩
 refine Wp.count (λs=>s) l.2.1.length (λi _=>∀j,j<i->(λk=>(nD l k).map λe=>(k,e)) j=acP) (by omega) rfl (λj hj=>by omega) λi c hi hs hJ=>?_
 obtain rfl:c=_:=hs;simp only[W_,acY,acZ,reduceCtorEq,av,ao];refine⟨λag=>?_,λhge=>?_⟩
 .have ag:i<l.2.1.length:=by omega
  simp only[Ki l hw i ag,bz (m:=l.2.1.length) (by omega) ag,W_,acY,acZ,reduceCtorEq,pc λe he=>tS he];refine⟨λh=>?_,λh=>⟨ag,aH hJ (Kp h)⟩⟩;obtain⟨e,he⟩:=acI.1 h;unfold oy;rw[acT (by omega),hA];dsimp only;rw[acT (by omega),bE (E6 he) hJ ag,he]
 have hB:=aP.2 λj(hj:j<l.2.1.length)=>hJ j (by omega)
 clear hJ;refine⟨λh=>by unfold oy;rw[acT (by omega),hA];dsimp only;rw[acT (by omega),hB];exact(acU (by omega)).symm,λh4=>?_⟩
 refine Wp.count (λs=>s) l.2.2.length (λi _=>∀j,j<i->(λk=>(ox l k).map λe=>(k,e)) j=acP) (by omega) rfl (λj hj=>by omega) λi c hi hs hJ=>?_
 obtain rfl:c=_:=hs;simp only[W_,acY,acZ,reduceCtorEq,av,ao];refine⟨λag=>?_,λhge=>?_⟩
 .have ag:i<l.2.2.length:=by omega
  simp only[Ko l hw ⟨h9,Zt,h5,‹_›⟩ i ag,bz (m:=l.2.2.length) (by omega) ag,W_,acY,acZ,reduceCtorEq,pc λe he=>tT he];refine⟨λh=>?_,λh=>⟨ag,aH hJ (Kp h)⟩⟩;obtain⟨e,he⟩:=acI.1 h;unfold oy;rw[acT (by omega),hA];dsimp only;rw[acT (by omega),hB];dsimp only;rw[acT (by omega),bE (E6 he) hJ ag,he]
 have hC:=aP.2 λj(hj:j<l.2.2.length)=>hJ j (by omega)
 unfold oy;rw[acT (by omega),hA];dsimp only;rw[acT (by omega),hB];dsimp only;rw[acT (by omega),hC];rfl
def Valid(l:Lw):Prop:=(oy l).1=0
noncomputable instance(l:Lw):Decidable (Valid l):=abF _
theorem Valid.scopes{l:Lw}(h:Valid l):l.1.length<=8/\l.2.1.length<=8/\l.2.2.length<=4/\(∀k,k<l.1.length->kS l k=acP)/\(∀k,k<l.2.1.length->nD l k=acP)/\∀k,k<l.2.2.length->ox l k=acP:=by
 unfold Valid oy at h;split at h
 .cases h
 split at h
 .rename_i k e hf;obtain⟨j,_,hj,_⟩:=dU hf;obtain⟨e',he',h2⟩:=Option.map_eq_some_iff.1 hj;cases h2;exact absurd h (om he')
 rename_i hA;split at h
 .cases h
 split at h
 .rename_i k e hf;obtain⟨j,_,hj,_⟩:=dU hf;obtain⟨e',he',h2⟩:=Option.map_eq_some_iff.1 hj;cases h2;exact absurd h (tS he')
 rename_i hB;split at h
 .cases h
 split at h
 .rename_i k e hf;obtain⟨j,_,hj,_⟩:=dU hf;obtain⟨e',he',h2⟩:=Option.map_eq_some_iff.1 hj;cases h2;exact absurd h (tT he')
 rename_i hC;exact⟨by omega,by omega,by omega,λk hk=>by simpa using aP.1 hA k hk,λk hk=>by simpa using aP.1 hB k hk,λk hk=>by simpa using aP.1 hC k hk⟩
theorem Valid.scope{l:Lw}(h:Valid l)(k:Nat)(hk:k<l.2.2.length):fQ l.2.2[k].1=acQ/\¬cJ (l.2.2.take k) l.2.2[k].1/\¬mD l k l.2.2[k]/\l.2.2[k].2.2.1.length<=12/\l.2.2[k].2.2.2.1.length<=12/\o9 l l.2.2[k]=acP/\
 (∀i,∀hi:i<l.2.2[k].2.2.2.2.length,p3 l l.2.2[k] i l.2.2[k].2.2.2.2[i]=0)/\∀d:Nat,d<l.2.2[k].2.2.2.1.length->¬(d:Int)∈xg l.2.2[k] d:=by
 have h:=h.scopes.2.2.2.2.2 k hk;unfold ox at h;rw[aaW hk]at h;dsimp only at h;split at h
 .cases h
 split at h
 .cases h
 split at h
 .cases h
 split at h
 .cases h
 split at h
 .cases h
 rename_i h1 h2 h3 h4 h5;rw[Option.or_eq_none_iff,Option.or_eq_none_iff]at h;refine⟨by simpa using h1,λg=>h2 (.inr (.inr g)),h3,by omega,by omega,h.1.1,λi hi=>?_,λd hd g=>?_⟩
 .have:=aP.1 h.1.2 i hi;unfold rV at this;rw[aaW hi]at this;dsimp only at this;split at this
  .cases this
  .exact ack.1 ‹_›
 .have:=aP.1 h.2 d hd;unfold tR at this;rw[acU g]at this;cases this
end L
namespace L
def mE{α:Type}(p:α->Bool)(l:List α):Int:=if l.findIdx p<l.length then((l.findIdx p:Nat):Int)else-1
theorem sz{α:Type}{p:α->Bool}{l:List α}{k:Nat}(hk:k<l.length)(hp:p l[k]=acQ)(hn:∀j,j<k->∀h:j<l.length,p l[j]=acR):mE p l=(k:Int):=by
 have h1:l.findIdx p=k:=by
  rcases Nat.lt_trichotomy (l.findIdx p) k with h|h|h
  .have:=hn _ h (by omega);have h2:=List.findIdx_getElem (xs:=l) (p:=p) (w:=by omega);rw[this]at h2;cases h2
  .exact h
  .have:=List.not_of_lt_findIdx h;rw[hp]at this;cases this
 unfold mE;rw[acU (by omega),h1]
theorem vO{α:Type}{p:α->Bool}{l:List α}(hn:∀j,∀h:j<l.length,p l[j]=acR):mE p l= -1:=by
 unfold mE;rw[acT λh=>?_];have h2:=List.findIdx_getElem (xs:=l) (p:=p) (w:=h);rw[hn _ h]at h2;cases h2
theorem ik{α:Type}{p:α->Bool}{l:List α}:0<=mE p l↔∃x∈l,p x=acQ:=by
 unfold mE;rw[<-List.findIdx_lt_length]
 split<;>simp_all
theorem tU{α Y:Type}{l:List α}{y:Y}{p:α->Bool}{body:Int×Y->Option ((Int×Y)⊕(Int×Y))}(hl:l.length<=maxLen)
 (hb:∀k,∀h:k<l.length,body ((k:Int),y)=if p l[k]=acQ then some (.inr ((k:Int),y))else some (.inl (aaV.wrap ((k:Int)+1),y)))
 (he:body ((l.length:Int),y)=some (.inr ((-1:Int),y))):Loop body aW ((0:Int),y)=some (mE p l,y):=by
 apply Wp.eq
 refine Wp.count (λs=>s.1) l.length (λk s=>s.2=y/\∀j,j<k->∀h:j<l.length,p l[j]=acR) hl rfl ⟨rfl,λj hj=>by omega⟩ λk c hk hs hJ=>?_
 obtain⟨c1,c2⟩:=c;obtain⟨h1,hJ⟩:=hJ;obtain rfl:c2=y:=h1;obtain rfl:c1=_:=hs
 rcases Nat.lt_or_ge k l.length with ag|hge
 .rw[hb k ag];simp only[W_,acY,acZ,reduceCtorEq,av,ao,bz hl ag];exact⟨λh=>by rw[sz ag h hJ],λh=>⟨ag,aH hJ λ_=>by simpa using h⟩⟩
 .obtain rfl:k=l.length:=by omega
  rw[he];simp only[W_,acY,acZ,reduceCtorEq,ao];rw[vO λj h=>hJ j h h]
theorem p4{α:Type}{l:List α}{p:α->Bool}{body:Int->Option (Int⊕Int)}(hl:l.length<=maxLen)
 (hb:∀k,∀h:k<l.length,body (k:Int)=if p l[k]=acQ then some (.inr (k:Int))else some (.inl (aaV.wrap ((k:Int)+1))))
 (he:body (l.length:Int)=some (.inr (-1:Int))):Loop body aW (0:Int)=some (mE p l):=by
 apply Wp.eq
 refine Wp.count (λs=>s) l.length (λk _=>∀j,j<k->∀h:j<l.length,p l[j]=acR) hl rfl (λj hj=>by omega) λk c hk hs hJ=>?_
 obtain rfl:c=_:=hs
 rcases Nat.lt_or_ge k l.length with ag|hge
 .rw[hb k ag];simp only[W_,acY,acZ,reduceCtorEq,av,ao,bz hl ag];exact⟨λh=>by rw[sz ag h hJ],λh=>⟨ag,aH hJ λ_=>by simpa using h⟩⟩
 .obtain rfl:k=l.length:=by omega
  rw[he];simp only[W_,acY,acZ,reduceCtorEq,ao];rw[vO λj h=>hJ j h h]
theorem nG{e:Row}{l:List e.den}{x:e.den}(h:x∈l):cD e x<=cD (.slice e) l:=by
 show cD e x<=(l.map (cD e)).sum+1
 induction l with
 |nil=>cases h
 |cons y l ih=>
  rw[List.map_cons,List.sum_cons]
  rcases aa7.1 h with rfl|h
  .omega
  .have:=ih h;omega
theorem gN{e:Row}(l:List e.den):l.length<=cD (.slice e) l:=by
 show l.length<=(l.map (cD e)).sum+1
 induction l with
 |nil=>simp
 |cons y l ih=>
  rw[List.map_cons,List.sum_cons,aa6];have:=xQ e y;omega
structure PJ(l:Lw):Prop where
 en:∀e∈l.1,e.2.length<=1048576
 tb:∀t∈l.2.1,t.2.2.2.length<=1048576
 ru:∀s∈l.2.2,∀r∈s.2.2.2.2,r.2.2.2.2.2.1.length<=1048576/\r.2.2.2.2.2.2.1.length<=1048576
 en':l.1.length<=1048576
 tb':l.2.1.length<=1048576
 sc':l.2.2.length<=1048576
 sc:∀s∈l.2.2,s.2.2.1.length<=1048576/\s.2.2.2.1.length<=1048576/\s.2.2.2.2.length<=1048576
theorem PJ.of{l:Lw}(h:cD cC l<=1048576):PJ l:=by
 have e1:cD cC l=cD (.slice bR) l.1+(cD (.slice bL) l.2.1+cD (.slice aV) l.2.2):=rfl;rw[e1]at h;refine⟨λe he=>?_,λt ht=>?_,λs hs r hr=>?_,?_,?_,?_,λs hs=>?_⟩
 .have h1:=nG he;have h2:=gN (e:= .str) e.2;have h3:cD bR e=cD .str e.1+cD (.slice .str) e.2:=rfl;omega
 .have h1:=nG ht;have h2:=gN (e:=fJ) t.2.2.2;have h3:cD bL t=cD .str t.1+(cD aa t.2.1+(cD aa t.2.2.1+cD (.slice fJ) t.2.2.2)):=rfl;omega
 .have h1:=nG hs;have h3:cD aV s=cD .str s.1+(cD ae s.2.1+(cD (.slice be) s.2.2.1+(cD (.slice be) s.2.2.2.1+cD (.slice cL) s.2.2.2.2))):=rfl;have h4:=nG hr;have h5:=gN (e:=aa) r.2.2.2.2.2.1;have h6:=gN (e:=aa) r.2.2.2.2.2.2.1;have h7:cD cL r=cD .str r.1+(cD ae r.2.1+(cD ae r.2.2.1+(cD ae r.2.2.2.1+(cD aa r.2.2.2.2.1+(cD (.slice aa) r.2.2.2.2.2.1+(cD (.slice aa) r.2.2.2.2.2.2.1+cD .str r.2.2.2.2.2.2.2)))))):=rfl;omega
 .have:=gN (e:=bR) l.1;omega
 .have:=gN (e:=bL) l.2.1;omega
 .have:=gN (e:=aV) l.2.2;omega
 .have h1:=nG hs;have h3:cD aV s=cD .str s.1+(cD ae s.2.1+(cD (.slice be) s.2.2.1+(cD (.slice be) s.2.2.2.1+cD (.slice cL) s.2.2.2.2))):=rfl;have h5:=gN (e:=be) s.2.2.1;have h6:=gN (e:=be) s.2.2.2.1;have h7:=gN (e:=cL) s.2.2.2.2;omega
end L
end Go.Proofs.YtbladfbbhijpmaaGreat
